/-
  What a law's row hands in, as abstract values: every argument that reads as its type says is told by the leaves of its type; and a contract over the abstract states answers the row.
-/
import Derived.Test.YtmpncpamndhmcaaGreatAbI
import Derived.WalkKit
import Derived.ProofKit
import Derived.OpenShut
import Derived.ShutString
import Derived.ChangeOld
import Derived.Below
import Derived.Carry
import Derived.SizedLaws
namespace Go.Ab
open Go.RowKit Go.ChangeShapes Go.WideShapes
set_option linter.unusedSimpArgs false
set_option linter.unusedVariables false

/-! ### Leaves -/
/-- What a cell of a type may be. -/
inductive Lf where
  | b
  | i (k : IntKind)
  | s
  | sl (e : List Lf)

inductive Fit : Lf → AV → Prop
  | b (x : Bool) : Fit .b (.pl (.bool x))
  | i (k : IntKind) (n : Int) (h : (Lit.int k n).wf = true) : Fit (.i k) (.pl (.int k n))
  | s (x : ByteArray) (h : x.size ≤ maxLen) : Fit .s (.pl (.string x))
  | sl (e : List Lf) (n : Nat) (cs : List AV) (hn : n ≤ maxLen) (hl : cs.length = n * e.length)
      (h : ∀ (j : Nat) (l : Lf) (a : AV), cs[j]? = some a → e[j % e.length]? = some l → Fit l a) : Fit (.sl e) (.vs n false cs)

/-- The cells of a row. -/
def FitL (ls : List Lf) (cs : List AV) : Prop := cs.length = ls.length ∧ ∀ (j : Nat) (l : Lf) (a : AV), cs[j]? = some a → ls[j]? = some l → Fit l a

def leafF (P : Program) (g : TypeId → Option (List Lf)) : Nat → List Field → Option (List Lf)
  | _, [] => some []
  | off, f :: r => if f.offset = off then match g f.type with
      | some ks => if ks.length = P.cellsOf f.type then (leafF P g (off + ks.length) r).map fun l => ks ++ l else none
      | none => none
    else none

def leafs (P : Program) : Nat → TypeId → Option (List Lf)
  | 0, _ => none
  | d + 1, t => match P.underlying t with
    | some .bool => some [.b]
    | some (.int k) => some [.i k]
    | some .string => some [.s]
    | some (.slice e) => match leafs P d e with
      | some l => if l.length = P.cellsOf e ∧ 0 < l.length then some [.sl l] else none
      | none => none
    | some (.struct fs) => match leafF P (leafs P d) 0 fs.toList with
      | some l => if l.length = P.cellsOf t then some l else none
      | none => none
    | some (.array n e) => match leafs P d e with
      | some l => if l.length = P.cellsOf e ∧ n * l.length = P.cellsOf t ∧ 0 < l.length then some (List.replicate n l).flatten else none
      | none => none
    | _ => none

theorem VRs.append {S : Nat → Prop} {w : World} {a1 a2 : List AV} {v1 v2 : List Value} (h1 : VRs S w a1 v1) (h2 : VRs S w a2 v2) : VRs S w (a1 ++ a2) (v1 ++ v2) := by
  refine ⟨by simp [h1.1, h2.1], fun j a v ha hv => ?_⟩
  rcases Nat.lt_or_ge j a1.length with hj | hj
  · rw [List.getElem?_append_left hj] at ha
    rw [List.getElem?_append_left (by rw [← h1.1]; exact hj)] at hv
    exact h1.2 j a v ha hv
  · rw [List.getElem?_append_right hj] at ha
    rw [List.getElem?_append_right (by rw [← h1.1]; exact hj), ← h1.1] at hv
    exact h2.2 _ a v ha hv

theorem FitL.append {l1 l2 : List Lf} {c1 c2 : List AV} (h1 : FitL l1 c1) (h2 : FitL l2 c2) : FitL (l1 ++ l2) (c1 ++ c2) := by
  refine ⟨by simp [h1.1, h2.1], fun j l a ha hl => ?_⟩
  rcases Nat.lt_or_ge j c1.length with hj | hj
  · rw [List.getElem?_append_left hj] at ha
    rw [List.getElem?_append_left (by rw [← h1.1]; exact hj)] at hl
    exact h1.2 j l a ha hl
  · rw [List.getElem?_append_right hj] at ha
    rw [List.getElem?_append_right (by rw [← h1.1]; exact hj), ← h1.1] at hl
    exact h2.2 _ l a ha hl

theorem VRs.one {S : Nat → Prop} {w : World} {a : AV} {v : Value} (h : VR S w a v) : VRs S w [a] [v] := by
  refine ⟨rfl, fun j x y hx hy => ?_⟩
  cases j with
  | zero => simp at hx hy; subst hx; subst hy; exact h
  | succ j => simp at hx

theorem FitL.one {l : Lf} {a : AV} (h : Fit l a) : FitL [l] [a] := by
  refine ⟨rfl, fun j x y hx hy => ?_⟩
  cases j with
  | zero => simp at hx hy; subst hx; subst hy; exact h
  | succ j => simp at hx

theorem FitL.nil : FitL [] [] := ⟨rfl, fun j l a h => by simp at h⟩
theorem VRs.nil {S : Nat → Prop} {w : World} : VRs S w [] [] := ⟨rfl, fun j l a h => by simp at h⟩

theorem take_drop_cat {α : Type} (cs : List α) (o a b : Nat) : (cs.drop o).take (a + b) = (cs.drop o).take a ++ (cs.drop (o + a)).take b := by
  rw [List.take_add, List.drop_drop]

section
variable {H : Type} {enc : TypeId × Value → H} {P : Program} {w : World} {base : Nat} {spare : Nat → Bool} {held : Bool}

/-- Rows that read as told. -/
def Told (w : World) (ls : List Lf) (cs : List Value) : Prop := ∃ as, VRs (fun b => b < w.heap.size) w as cs ∧ FitL ls as

theorem trod_leafs : ∀ (n d : Nat) (t : TypeId) (cs : List Value) (ls : List Lf) (x : DataW H × List MemPlace),
    leafs P d t = some ls → DataW.trod enc P w base spare held n t cs = some x → Told w ls cs := by
  intro n
  induction n with
  | zero => intro d t cs ls x _ h; simp [DataW.trod] at h
  | succ n ih =>
    intro d t cs ls x hl h
    cases d with
    | zero => simp [leafs] at hl
    | succ d =>
      unfold leafs at hl
      unfold DataW.trod at h
      split at hl
      · rename_i hu
        rw [hu] at h
        obtain rfl := Option.some.inj hl
        split at h <;> rename_i hm <;> first | (cases hm; done) | skip
        · exact ⟨[_], .one (.pl _), .one (.b _)⟩
        all_goals first | cases h | simp_all
      · rename_i k hu
        rw [hu] at h
        obtain rfl := Option.some.inj hl
        split at h <;> rename_i hm <;> first | (cases hm; done) | skip
        · rename_i k' m
          split at h
          · rename_i hk
            obtain ⟨rfl, hw⟩ := hk
            cases hm
            exact ⟨[_], .one (.pl _), .one (.i _ _ hw)⟩
          · cases h
        all_goals first | cases h | simp_all
      · rename_i hu
        rw [hu] at h
        obtain rfl := Option.some.inj hl
        split at h <;> rename_i hm <;> first | (cases hm; done) | skip
        · split at h
          · rename_i hk
            exact ⟨[_], .one (.pl _), .one (.s _ hk)⟩
          · cases h
        all_goals first | cases h | simp_all
      · -- a slice
        rename_i e hu
        rw [hu] at h
        split at hl
        · rename_i l hle
          split at hl
          · rename_i hsz
            obtain rfl := Option.some.inj hl
            split at h <;> rename_i hm <;> first | (cases hm; done) | skip
            · exact ⟨[.vs 0 false []], .one (.vnil _ _ _ (fun h => by cases h)), .one (.sl _ 0 [] (by decide) (by simp) (fun j l a h => by simp at h))⟩
            · rename_i e' a len cap
              cases hm
              split at h
              · rename_i hc
                rcases Nat.eq_zero_or_pos len with h0 | h0
                · subst h0
                  exact ⟨[.vs 0 false []], .one (.vnil _ _ _ (fun h => by cases h)), .one (.sl _ 0 [] (by decide) (by simp) (fun j l a h => by simp at h))⟩
                · simp only [Option.bind_eq_some_iff] at h
                  obtain ⟨elems, hel, _⟩ := h
                  have each : ∀ i, i < len → ∃ ci, w.cells? base (a.add (i * P.cellsOf e)) (P.cellsOf e) = some ci ∧ Told w l ci := by
                    intro i hi
                    obtain ⟨y, hy⟩ := mapM_each hel i (by simpa using hi)
                    simp only [Option.bind_eq_some_iff] at hy
                    obtain ⟨ci, h1, h2⟩ := hy
                    exact ⟨ci, h1, ih d e ci l y hle h2⟩
                  have hk : l.length = P.cellsOf e := hsz.1
                  have hpos : 0 < P.cellsOf e := by rw [← hk]; exact hsz.2
                  have hspot : a.spot = none := by
                    obtain ⟨ci, h1, as, h2, h3⟩ := each 0 h0
                    obtain ⟨_, h4, h5⟩ := World.cells?_some h1
                    have := h5 0 hpos
                    rw [List.getElem?_eq_getElem (by omega)] at this
                    simp only [Nat.zero_mul, Addr.add, if_true] at this
                    cases hs : a.spot with
                    | none => rfl
                    | some s =>
                      unfold World.cell? at this
                      simp only [hs, Option.isSome_some, if_true] at this
                      split at this <;> cases this
                  obtain ⟨b, o, s⟩ := a
                  simp only at hspot
                  subst hspot
                  have hadd : ∀ (q o : Nat), (⟨b, o, none⟩ : Addr).add q = ⟨b, o + q, none⟩ := by
                    intro q o
                    unfold Addr.add
                    split
                    · rename_i hq; subst hq; rfl
                    · rfl
                  have main : ∀ i, ∃ as, i < len → FitL l as ∧ ∀ (j : Nat) (x : AV), as[j]? = some x → ∃ v, w.cell? ⟨b, o + (i * P.cellsOf e + j), none⟩ = some v ∧ VR (fun b => b < w.heap.size) w x v := by
                    intro i
                    by_cases hi : i < len
                    · obtain ⟨ci, h1, as, h2, h3⟩ := each i hi
                      obtain ⟨_, h4, h5⟩ := World.cells?_some h1
                      refine ⟨as, fun _ => ⟨h3, fun j x hj => ?_⟩⟩
                      have hjl : j < as.length := (List.getElem?_eq_some_iff.1 hj).1
                      have hjc : j < ci.length := by rw [← h2.1]; exact hjl
                      have := h5 j (by omega)
                      rw [hadd, hadd, List.getElem?_eq_getElem hjc, Nat.add_assoc] at this
                      exact ⟨_, this, h2.2 j x _ hj (List.getElem?_eq_getElem hjc)⟩
                    · exact ⟨[], fun h => absurd h hi⟩
                  have F := fun i => Classical.choose (main i)
                  have hF : ∀ i, i < len → FitL l (Classical.choose (main i)) ∧ ∀ (j : Nat) (x : AV), (Classical.choose (main i))[j]? = some x → ∃ v, w.cell? ⟨b, o + (i * P.cellsOf e + j), none⟩ = some v ∧ VR (fun b => b < w.heap.size) w x v :=
                    fun i hi => Classical.choose_spec (main i) hi
                  have cell : ∀ (j : Nat) (x : AV), ((List.range (len * P.cellsOf e)).map fun j => (Classical.choose (main (j / P.cellsOf e))).getD (j % P.cellsOf e) .any)[j]? = some x →
                      j / P.cellsOf e < len ∧ (Classical.choose (main (j / P.cellsOf e)))[j % P.cellsOf e]? = some x := by
                    intro j x hj
                    rw [List.getElem?_map] at hj
                    simp only [Option.map_eq_some_iff] at hj
                    obtain ⟨j', hj', rfl⟩ := hj
                    obtain ⟨h6, h7⟩ := List.getElem?_eq_some_iff.1 hj'
                    simp only [List.length_range] at h6
                    simp only [List.getElem_range] at h7
                    subst h7
                    have hd : j / P.cellsOf e < len := Nat.div_lt_of_lt_mul (by rw [Nat.mul_comm]; exact h6)
                    refine ⟨hd, ?_⟩
                    have hm : j % P.cellsOf e < (Classical.choose (main (j / P.cellsOf e))).length := by
                      rw [(hF _ hd).1.1, hk]; exact Nat.mod_lt _ hpos
                    rw [List.getD_eq_getElem?_getD, List.getElem?_eq_getElem hm]
                    rfl
                  have cellv : ∀ (j : Nat) (x : AV), ((List.range (len * P.cellsOf e)).map fun j => (Classical.choose (main (j / P.cellsOf e))).getD (j % P.cellsOf e) .any)[j]? = some x →
                      ∃ v, w.cell? ⟨b, o + j, none⟩ = some v ∧ VR (fun b => b < w.heap.size) w x v := by
                    intro j x hj
                    obtain ⟨h8, h9⟩ := cell j x hj
                    have := (hF _ h8).2 _ x h9
                    rwa [Nat.mul_comm, Nat.div_add_mod] at this
                  have hblk : b < w.heap.size := by
                    obtain ⟨ci, h1, as, h2, h3⟩ := each 0 h0
                    obtain ⟨_, h4, h5⟩ := World.cells?_some h1
                    have := h5 0 hpos
                    rw [hadd, hadd, List.getElem?_eq_getElem (by omega)] at this
                    exact cell_lt this
                  refine ⟨[.vs len false ((List.range (len * P.cellsOf e)).map fun j => (Classical.choose (main (j / P.cellsOf e))).getD (j % P.cellsOf e) .any)], .one ?_, .one ?_⟩
                  · refine .vs b o len cap false _ (fun j => (w.cell? ⟨b, o + j, none⟩).getD undef) hblk hc.2.1 (fun h => by cases h) hblk (fun j x hj => ?_) (fun j x hj => ?_)
                    · obtain ⟨v, h1, _⟩ := cellv j x hj
                      rw [h1]; rfl
                    · obtain ⟨v, h1, h2⟩ := cellv j x hj
                      rw [h1]; exact h2
                  · refine .sl _ _ _ (Nat.le_trans hc.2.1 hc.2.2) (by simp [hk]) (fun j l' x hj hl' => ?_)
                    obtain ⟨h8, h9⟩ := cell j x hj
                    rw [hk] at hl'
                    exact (hF _ h8).1.2 _ l' x h9 hl'
              · cases h
            all_goals first | cases h | simp_all
          · cases hl
        · cases hl
      · -- a structure
        rename_i fs hu
        rw [hu] at h
        split at hl
        · rename_i l hle
          split at hl
          · rename_i hsz
            obtain rfl := Option.some.inj hl
            have h : ∃ xs : List (DataW H × List MemPlace), cs.length = P.cellsOf t ∧ fs.toList.mapM (fun f => DataW.trod enc P w base spare held n f.type ((cs.drop f.offset).take (P.cellsOf f.type))) = some xs := by
              split at h <;> rename_i hm <;> first | (cases hm; done) | skip
              · cases hm
                split at h
                · rename_i hlen
                  simp only [Option.map_eq_some_iff] at h
                  obtain ⟨xs, h1, _⟩ := h
                  exact ⟨xs, hlen, h1⟩
                · cases h
              all_goals first | cases h | simp_all
            obtain ⟨xs, hlen, hxs⟩ := h
            have key : ∀ (L : List Field) (off : Nat) (ls : List Lf) (xs : List (DataW H × List MemPlace)), leafF P (leafs P d) off L = some ls →
                L.mapM (fun f => DataW.trod enc P w base spare held n f.type ((cs.drop f.offset).take (P.cellsOf f.type))) = some xs → Told w ls ((cs.drop off).take ls.length) := by
              intro L
              induction L with
              | nil =>
                intro off ls xs h1 _
                simp only [leafF, Option.some.injEq] at h1
                subst h1
                exact ⟨[], by simpa using VRs.nil, .nil⟩
              | cons f L ihL =>
                intro off ls xs h1 h2
                simp only [leafF] at h1
                split at h1
                · rename_i ho
                  subst ho
                  split at h1
                  · rename_i ks hks
                    split at h1
                    · rename_i hkl
                      simp only [Option.map_eq_some_iff] at h1
                      obtain ⟨l2, h3, rfl⟩ := h1
                      rw [List.mapM_cons] at h2
                      simp only [Option.bind_eq_bind, Option.bind_eq_some_iff, Option.pure_def, Option.some.injEq] at h2
                      obtain ⟨y, hy, ys, hys, rfl⟩ := h2
                      obtain ⟨a1, h4, h5⟩ := ih d _ _ _ _ hks hy
                      obtain ⟨a2, h6, h7⟩ := ihL _ _ _ h3 hys
                      refine ⟨a1 ++ a2, ?_, h5.append h7⟩
                      rw [List.length_append, take_drop_cat, hkl]
                      rw [hkl] at h6
                      exact h4.append h6
                    · cases h1
                  · cases h1
                · cases h1
            have := key _ _ _ _ hle hxs
            rw [List.drop_zero, List.take_of_length_le (by omega)] at this
            exact this
          · cases hl
        · cases hl
      · -- an array
        rename_i m e hu
        rw [hu] at h
        split at hl
        · rename_i l hle
          split at hl
          · rename_i hsz
            obtain rfl := Option.some.inj hl
            have h : ∃ xs : List (DataW H × List MemPlace), cs.length = P.cellsOf t ∧ (List.range m).mapM (fun i => DataW.trod enc P w base spare held n e ((cs.drop (i * P.cellsOf e)).take (P.cellsOf e))) = some xs := by
              split at h <;> rename_i hm <;> first | (cases hm; done) | skip
              · cases hm
                split at h
                · rename_i hlen
                  simp only [Option.map_eq_some_iff] at h
                  obtain ⟨xs, h1, _⟩ := h
                  exact ⟨xs, hlen, h1⟩
                · cases h
              all_goals first | cases h | simp_all
            obtain ⟨xs, hlen, hxs⟩ := h
            have key : ∀ q, q ≤ m → Told w (List.replicate q l).flatten (cs.take (q * P.cellsOf e)) := by
              intro q
              induction q with
              | zero => intro _; exact ⟨[], by simpa using VRs.nil, .nil⟩
              | succ q ihq =>
                intro hq
                obtain ⟨a1, h1, h2⟩ := ihq (by omega)
                obtain ⟨y, hy⟩ := mapM_each hxs q (by simp; omega)
                obtain ⟨a2, h3, h4⟩ := ih d _ _ _ _ hle hy
                refine ⟨a1 ++ a2, ?_, ?_⟩
                · rw [Nat.add_mul, Nat.one_mul]
                  have := take_drop_cat cs 0 (q * P.cellsOf e) (P.cellsOf e)
                  simp only [List.drop_zero, Nat.zero_add] at this
                  rw [this]
                  exact h1.append h3
                · rw [List.replicate_succ', List.flatten_append]
                  simpa using h2.append h4
            have := key m (Nat.le_refl _)
            rw [List.take_of_length_le (by rw [← hsz.1]; omega)] at this
            exact this
          · cases hl
        · cases hl
      · cases hl
end

/-- A whole argument. -/
def FitT (agg : Bool) (ls : List Lf) (a : AV) : Prop := if agg then ∃ cs, a = .ag cs ∧ FitL ls cs else FitL ls [a]

def FitsT : List (Bool × List Lf) → List AV → Prop
  | [], [] => True
  | x :: xs, a :: as => FitT x.1 x.2 a ∧ FitsT xs as
  | _, _ => False

def leafsAll (P : Program) : List TypeId → Option (List (Bool × List Lf))
  | [] => some []
  | t :: ts => match leafs P 20 t, leafsAll P ts with
    | some l, some r => some ((aggB P t, l) :: r)
    | _, _ => none

section
variable {H : Type} {enc : TypeId × Value → H} {P : Program} {w : World} {base : Nat} {spare : Nat → Bool} {held : Bool}

theorem arg_told {r : Reach} {b0 : Nat} {t : TypeId} {v : Value} {dd : DataW H} {ps : List MemPlace} {d : Nat} {ls : List Lf} (hl : leafs P d t = some ls) (hval : Value.okWide P w r b0 t v)
    (h : DataW.Trod enc P w base spare held t v dd ps) : ∃ a, VR (fun b => b < w.heap.size) w a v ∧ FitT (aggB P t) ls a := by
  obtain ⟨fuel, hf⟩ := h
  obtain ⟨as, h1, h2⟩ := trod_leafs fuel d t _ ls _ hl hf
  by_cases hagg : aggB P t = true
  · have : ∃ cs, v = .agg cs := by
      unfold aggB at hagg
      unfold Value.okWide at hval
      split at hagg
      · rename_i hu; rw [hu] at hval; obtain ⟨cs, h, _⟩ := hval; exact ⟨cs, h⟩
      · rename_i hu; rw [hu] at hval; obtain ⟨cs, h, _⟩ := hval; exact ⟨cs, h⟩
      · cases hagg
    obtain ⟨cs, rfl⟩ := this
    refine ⟨.ag as, .ag as cs (by simpa [Value.cells] using h1.1) (fun j a v ha hv => h1.2 j a v ha (by simpa [Value.cells] using hv)), ?_⟩
    rw [FitT, if_pos hagg]
    exact ⟨as, rfl, h2⟩
  · have hlf : ∃ l, ls = [l] := by
      cases d with
      | zero => simp [leafs] at hl
      | succ d =>
        unfold leafs at hl
        unfold aggB at hagg
        split at hl <;> rename_i hu <;> first | (cases hl; done) | rw [hu] at hagg <;> first | (exact absurd rfl hagg) | skip
        · exact ⟨_, (Option.some.inj hl).symm⟩
        · exact ⟨_, (Option.some.inj hl).symm⟩
        · exact ⟨_, (Option.some.inj hl).symm⟩
        · split at hl
          · split at hl
            · exact ⟨_, (Option.some.inj hl).symm⟩
            · cases hl
          · cases hl
    obtain ⟨l, rfl⟩ := hlf
    have hv1 : ∃ x, as = [x] := by
      have := h2.1
      match as, this with
      | [x], _ => exact ⟨x, rfl⟩
    obtain ⟨x, rfl⟩ := hv1
    have hv : v.cells.toList = [v] := by
      cases v with
      | agg cs =>
        exfalso
        unfold Value.okWide at hval
        unfold aggB at hagg
        have : ∀ (r : Reach) (b0 : Nat) (cs : Array Value), ¬ Cell.okWide P w r b0 t (.agg cs) → True := fun _ _ _ _ => trivial
        cases d with
        | zero => simp [leafs] at hl
        | succ d =>
          unfold leafs at hl
          split at hl <;> rename_i hu <;> first | (cases hl; done) | rw [hu] at hagg hval <;> first | (exact absurd rfl hagg) | skip
          all_goals first
            | (simp only [Cell.okWide, hu, Cell.ok] at hval; done)
            | (simp_all [Cell.okWide, Cell.ok]; done)
      | _ => rfl
    rw [hv] at h1
    refine ⟨x, h1.2 0 x v rfl rfl, ?_⟩
    rw [FitT, if_neg hagg]
    exact h2

theorem args_told {r : Reach} {b0 : Nat} : ∀ (ts : List TypeId) (vs : List Value) (ds : List (DataW H)) (ps : List MemPlace) (L : List (Bool × List Lf)), leafsAll P ts = some L →
    (∀ (j : Nat) t v, ts[j]? = some t → vs[j]? = some v → Value.okWide P w r b0 t v) → DataW.TrodAll enc P w base spare held ts vs ds ps →
    ∃ as, VRs (fun b => b < w.heap.size) w as vs ∧ FitsT L as ∧ ds.length = ts.length
  | [], vs, ds, ps, L, hL, _, h => by
    obtain ⟨rfl, rfl, _⟩ := trodAll_nil h
    simp only [leafsAll, Option.some.injEq] at hL
    subst hL
    exact ⟨[], .nil, trivial, rfl⟩
  | t :: ts, vs, ds, ps, L, hL, hv, h => by
    obtain ⟨v, vs', d, ds', p, q, rfl, rfl, _, h1, h2⟩ := trodAll_cons h
    simp only [leafsAll] at hL
    split at hL
    · rename_i l rr hl hr
      obtain rfl := Option.some.inj hL
      obtain ⟨a, h3, h4⟩ := arg_told hl (hv 0 t v rfl rfl) h1
      obtain ⟨as, h5, h6, h7⟩ := args_told ts vs' ds' q rr hr (fun j t v ht hv' => hv (j + 1) t v (by simpa using ht) (by simpa using hv')) h2
      exact ⟨a :: as, VRs.append (.one h3) h5, ⟨h4, h6⟩, by simp [h7]⟩
    · cases hL

theorem trodAll_below (hlo : laidOutB P = true) {W W' : World} (hb : Below W.heap.size W W') : ∀ (ts : List TypeId) (vs : List Value) (ds : List (DataW H)) (ps : List MemPlace),
    (∀ t ∈ ts, P.readableRec t = true ∧ t < P.types.size) → DataW.TrodAll enc P W 0 (fun _ => true) true ts vs ds ps →
    ∃ pa, DataW.TrodAll enc P W' 0 (fun b => decide (b < W.heap.size)) true ts vs ds pa
  | [], vs, ds, ps, _, h => by
    obtain ⟨rfl, rfl, _⟩ := trodAll_nil h
    exact ⟨[], trodAll_mk0⟩
  | t :: ts, vs, ds, ps, hr, h => by
    obtain ⟨v, vs', d, ds', p, q, rfl, rfl, _, h1, h2⟩ := trodAll_cons h
    obtain ⟨pa, h3⟩ := trodAll_below hlo hb ts vs' ds' q (fun t ht => hr t (List.mem_cons_of_mem _ ht)) h2
    have hlt : ∀ x ∈ p, x.block < W.heap.size := by
      obtain ⟨fuel, hf⟩ := h1
      exact DataW.trod_lt fuel t _ _ hf
    exact ⟨_, trodAll_cons_mk (Below.trod hlo (hr t (List.mem_cons_self ..)).1 (hr t (List.mem_cons_self ..)).2 h1 hb hlt) h3⟩

/-- A law over abstract states answers its row. -/
theorem law_contractH {f : FuncId} {fn : Func} {s : ChangeSpec} {L : List (Bool × List Lf)} (hlo : laidOutB P = true) (hL : leafsAll P fn.params.toList = some L)
    (hvars : s.vars = []) (hspec : ∀ (ds : List (DataW H)), ds.length = fn.params.toList.length → (s.fn H ds).results = [.lit (.bool true)] ∧ (s.fn H ds).args = ds ∧ (s.fn H ds).vars = [])
    (hres : ∃ t, fn.resultTypes.toList = [t] ∧ P.underlying t = some .bool) (hread : ∀ t ∈ fn.params.toList, P.readableRec t = true ∧ t < P.types.size)
    (H0 : AH) (h : ∀ as, FitsT L as → ACall P f as H0 (fun v _ => v = .pl (.bool true)))
    (W : World) (hRH : RH (fun b => b < W.heap.size) W H0 W) (base : Nat) (args : Array Value) (ds gs : List (DataW H)) (before : List MemPlace)
    (hval : ∀ (j : Nat) t v, fn.params[j]? = some t → args[j]? = some v → Value.okWide P W .any base t v)
    (hW : DataW.Whole enc P fn.params.toList s.vars false W args.toList ds gs before) :
    Calls P f args W fun e W' => ∃ v, e = .returned v ∧ s.post enc P fn false true false false W args v W' := by
  obtain ⟨t0, hrt, hu⟩ := hres
  have hW0 := hW
  obtain ⟨p, q, hA, hV, hpq, hfz, _⟩ := hW
  rw [hvars] at hV
  obtain ⟨rfl, rfl⟩ := trodVars_none hV
  obtain ⟨as, h1, h2, h3⟩ := args_told _ _ _ _ _ hL (fun j t v ht hv => hval j t v (by simpa using ht) (by simpa using hv)) hA
  refine (h as h2 _ W W args hRH h1).mono ?_
  rintro e W' ⟨u, S', x, H', rfl, hE, hR, hx, rfl⟩
  cases hx
  obtain ⟨pa, hpa⟩ := trodAll_below (enc := enc) hlo hR.below _ _ _ _ hread hA
  obtain ⟨e1, e2, e3⟩ := hspec ds h3
  have hsz : fn.resultTypes.size = 1 := by rw [← Array.length_toList, hrt]; rfl
  refine ⟨_, rfl, ds, [], before, [], pa, [], hW0, ?_, ?_, ?_, hR.below.frame _, fun h => by cases h⟩
  · rw [List.append_nil, e1, hrt, hsz]
    exact trodAll_mk1 (shut_bool hu true)
  · rw [List.append_nil, e2]
    exact hpa
  · rw [List.append_nil, e3, hvars]
    rfl

theorem law_contract {f : FuncId} {fn : Func} {s : ChangeSpec} {L : List (Bool × List Lf)} (hlo : laidOutB P = true) (hL : leafsAll P fn.params.toList = some L)
    (hvars : s.vars = []) (hspec : ∀ (ds : List (DataW H)), ds.length = fn.params.toList.length → (s.fn H ds).results = [.lit (.bool true)] ∧ (s.fn H ds).args = ds ∧ (s.fn H ds).vars = [])
    (hres : ∃ t, fn.resultTypes.toList = [t] ∧ P.underlying t = some .bool) (hread : ∀ t ∈ fn.params.toList, P.readableRec t = true ∧ t < P.types.size)
    (h : ∀ as, FitsT L as → ACall P f as (fun _ => none) (fun v _ => v = .pl (.bool true)))
    (W : World) (base : Nat) (args : Array Value) (ds gs : List (DataW H)) (before : List MemPlace)
    (hval : ∀ (j : Nat) t v, fn.params[j]? = some t → args[j]? = some v → Value.okWide P W .any base t v)
    (hW : DataW.Whole enc P fn.params.toList s.vars false W args.toList ds gs before) :
    Calls P f args W fun e W' => ∃ v, e = .returned v ∧ s.post enc P fn false true false false W args v W' :=
  law_contractH hlo hL hvars hspec hres hread (fun _ => none) h W
    ⟨Below.refl _ _, fun b hb => hb, fun b hb => hb, fun k o h => (by cases h), fun k h => (by cases h), fun k o h => (by cases h)⟩ base args ds gs before hval hW
end
end Go.Ab
