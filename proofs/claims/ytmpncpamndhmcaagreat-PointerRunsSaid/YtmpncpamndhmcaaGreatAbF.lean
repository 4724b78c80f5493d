/-
  That an operation does what its instruction tells: the ones that change nothing.
-/
import Derived.Test.YtmpncpamndhmcaaGreatAbE
import Derived.ChangeKeysEq
import Derived.Laws.Sem
import Derived.Laws.Cells
import Derived.Laws.CopyRow
import Derived.Laws.StructEq
namespace Go.Ab
open Go.RowKit
set_option linter.unusedSimpArgs false
set_option linter.unusedVariables false

section
variable {P : Program} {S : Nat → Prop} {w : World}

theorem VR.pl_inv {v u : Value} (h : VR S w (.pl v) u) : u = v := by cases h; rfl
theorem VR.ag_inv {cs : List AV} {u : Value} (h : VR S w (.ag cs) u) : ∃ ds : Array Value, u = .agg ds ∧ cs.length = ds.size ∧ ∀ (j : Nat) (a : AV) (v : Value), cs[j]? = some a → ds[j]? = some v → VR S w a v := by
  cases h with | ag _ ds h1 h2 => exact ⟨ds, rfl, h1, h2⟩
theorem VR.tp_inv {cs : List AV} {u : Value} (h : VR S w (.tp cs) u) : ∃ ds : Array Value, u = .tuple ds ∧ cs.length = ds.size ∧ ∀ (j : Nat) (a : AV) (v : Value), cs[j]? = some a → ds[j]? = some v → VR S w a v := by
  cases h with | tp _ ds h1 h2 => exact ⟨ds, rfl, h1, h2⟩

/-- Cells of a value. -/
theorem cells_sound {a : AV} {cs : List AV} {u : Value} (h : VR S w a u) (hc : a.cells = some cs) : cs.length = u.cells.size ∧ ∀ (j : Nat) (x : AV) (v : Value), cs[j]? = some x → u.cells[j]? = some v → VR S w x v := by
  have one : ∀ (a : AV) (u : Value), VR S w a u → u.cells = #[u] → a.cells = some [a] → a.cells = some cs → cs.length = u.cells.size ∧ ∀ (j : Nat) (x : AV) (v : Value), cs[j]? = some x → u.cells[j]? = some v → VR S w x v := by
    intro a u h hu ha hc
    rw [ha] at hc
    obtain rfl := Option.some.inj hc
    rw [hu]
    refine ⟨rfl, fun j x v hx hv => ?_⟩
    cases j with
    | zero => simp at hx hv; subst hx; subst hv; exact h
    | succ j => simp at hx
  cases h with
  | pl =>
    cases u with
    | agg ds =>
      simp only [AV.cells, Option.some.injEq] at hc
      subst hc
      refine ⟨by simp [Value.cells], fun j x v hx hv => ?_⟩
      simp only [List.getElem?_map, Option.map_eq_some_iff] at hx
      obtain ⟨z, hz, rfl⟩ := hx
      have h1 : ds[j]? = some z := by simpa using hz
      simp only [Value.cells] at hv
      rw [h1] at hv
      obtain rfl := Option.some.inj hv
      exact .pl _
    | tuple ds => simp [AV.cells] at hc
    | _ => exact one _ _ (.pl _) rfl rfl hc
  | any v => simp [AV.cells] at hc
  | tp cs' ds h1 h2 => simp [AV.cells] at hc
  | ag cs' ds h1 h2 =>
    simp only [AV.cells, Option.some.injEq] at hc
    subst hc
    exact ⟨h1, h2⟩
  | sl b o n sz c x C T F h hcc hn hx => exact one _ _ (.sl b o n sz c x C T F h hcc hn hx) rfl rfl hc
  | vnil x a c hx => exact one _ _ (.vnil x a c hx) rfl rfl hc
  | vs b o n c x cs' f hS hn hx hb hcc h => exact one _ _ (.vs b o n c x cs' f hS hn hx hb hcc h) rfl rfl hc
  | ep b o cs' f hS hb hcc h => exact one _ _ (.ep b o cs' f hS hb hcc h) rfl rfl hc
  | fn g first cap fv cv h1 h2 h3 h4 => exact one _ _ (.fn g first cap fv cv h1 h2 h3 h4) rfl rfl hc

/-- The cells of an array that are replaced. -/
theorem put_cells (C D : Array Value) (off : Nat) (h : off + D.size ≤ C.size) (j : Nat) :
    (D.zipIdx.foldl (fun cs (c, i) => cs.setIfInBounds (off + i) c) C)[j]? = if off ≤ j ∧ j < off + D.size then D[j - off]? else C[j]? := by
  have gen : ∀ (l : List Value) (k : Nat) (C : Array Value), off + k + l.length ≤ C.size →
      ((l.zipIdx k).foldl (fun (cs : Array Value) (p : Value × Nat) => cs.setIfInBounds (off + p.2) p.1) C).size = C.size ∧
      ∀ j : Nat, ((l.zipIdx k).foldl (fun (cs : Array Value) (p : Value × Nat) => cs.setIfInBounds (off + p.2) p.1) C)[j]? = if off + k ≤ j ∧ j < off + k + l.length then l[j - (off + k)]? else C[j]? := by
    intro l
    induction l with
    | nil => intro k C _; simp; omega
    | cons x l ih =>
      intro k C hC
      simp only [List.zipIdx_cons, List.foldl_cons, List.length_cons] at hC ⊢
      obtain ⟨h1, h2⟩ := ih (k + 1) (C.setIfInBounds (off + k) x) (by simp; omega)
      refine ⟨by rw [h1]; simp, fun j => ?_⟩
      rw [h2 j]
      by_cases hj : off + (k + 1) ≤ j ∧ j < off + (k + 1) + l.length
      · rw [if_pos hj, if_pos (by omega)]
        have : j - (off + k) = (j - (off + (k + 1))) + 1 := by omega
        rw [this, List.getElem?_cons_succ]
      · rw [if_neg hj, Array.getElem?_setIfInBounds]
        by_cases hk : off + k = j
        · rw [if_pos hk, if_pos (by omega), if_pos (by omega)]
          have : j - (off + k) = 0 := by omega
          rw [this]; rfl
        · rw [if_neg hk, if_neg (by omega)]
  have := (gen D.toList 0 C (by simpa using h)).2 j
  have e : D.zipIdx.foldl (fun cs (c, i) => cs.setIfInBounds (off + i) c) C = (D.toList.zipIdx 0).foldl (fun (cs : Array Value) (p : Value × Nat) => cs.setIfInBounds (off + p.2) p.1) C := by
    rw [← Array.foldl_toList, Array.toList_zipIdx]
  rw [e, this]
  simp

/-- Pointwise. -/
def VRa (S : Nat → Prop) (w : World) (cs : List AV) (C : Array Value) : Prop := cs.length = C.size ∧ ∀ (j : Nat) (a : AV) (v : Value), cs[j]? = some a → C[j]? = some v → VR S w a v

theorem fold_size (C D : Array Value) (off : Nat) : (D.zipIdx.foldl (fun cs (c, i) => cs.setIfInBounds (off + i) c) C).size = C.size := by
  rw [← Array.foldl_toList]
  generalize D.zipIdx.toList = l
  induction l generalizing C with
  | nil => rfl
  | cons x l ih => simp only [List.foldl_cons]; rw [ih]; simp

theorem splice_sound {cs ds : List AV} {C D : Array Value} {off sz : Nat} (hc : VRa S w cs C) (hd : VRa S w ds D) (hl : ds.length = sz) (ho : off + sz ≤ cs.length) :
    VRa S w (cs.take off ++ ds ++ cs.drop (off + sz)) (D.zipIdx.foldl (fun cs (c, i) => cs.setIfInBounds (off + i) c) C) := by
  have hD : D.size = sz := hd.1 ▸ hl
  have hC := hc.1
  refine ⟨by rw [fold_size]; simp; omega, fun j a v ha hv => ?_⟩
  rw [put_cells C D off (by omega)] at hv
  rw [List.append_assoc, List.getElem?_append] at ha
  simp only [List.length_take] at ha
  by_cases h1 : j < off
  · rw [if_pos (by omega), List.getElem?_take, if_pos h1] at ha
    rw [if_neg (by omega)] at hv
    exact hc.2 j a v ha hv
  · rw [if_neg (by omega), List.getElem?_append] at ha
    have e : min off cs.length = off := by omega
    rw [e] at ha
    by_cases h2 : j < off + sz
    · rw [if_pos (by omega)] at ha
      rw [if_pos (by omega)] at hv
      exact hd.2 _ a v ha hv
    · rw [if_neg (by omega), List.getElem?_drop] at ha
      rw [if_neg (by omega)] at hv
      have e2 : off + sz + (j - off - ds.length) = j := by omega
      rw [e2] at ha
      exact hc.2 j a v ha hv

theorem fill_sound {place : Nat → Option (Nat × Nat)} {ρ : Operand → AV} {a : Operand → Value} : ∀ (l : List (Nat × Operand)) (ps : List ((Nat × Nat) × Operand)) (cs out : List AV) (C : Array Value),
    (∀ p ∈ l, VR S w (ρ p.2) (a p.2)) → partsOf place l = some ps → VRa S w cs C → fillA cs (ps.map fun p => (p.1, ρ p.2)) = some out →
    ∃ D, Instr.fill place C (l.map fun p => (p.1, a p.2)) = some D ∧ VRa S w out D
  | [], ps, cs, out, C, _, hp, hc, hf => by
    simp only [partsOf, Option.some.injEq] at hp
    subst hp
    simp only [List.map_nil, fillA, Option.some.injEq] at hf
    subst hf
    exact ⟨C, rfl, hc⟩
  | (i, x) :: r, ps, cs, out, C, ha, hp, hc, hf => by
    simp only [partsOf] at hp
    split at hp
    · rename_i p q hp1 hq
      simp only [Option.some.injEq] at hp
      subst hp
      obtain ⟨off, sz⟩ := p
      simp only [List.map_cons, fillA] at hf
      split at hf
      · rename_i ds hds
        split at hf
        · rename_i hcond
          obtain ⟨h1, h2⟩ := cells_sound (ha (i, x) (by simp)) hds
          have hsp := splice_sound (off := off) (sz := sz) hc ⟨h1, h2⟩ hcond.1 hcond.2
          obtain ⟨D, hD1, hD2⟩ := fill_sound r q _ out _ (fun p hp' => ha p (by simp [hp'])) hq hsp hf
          refine ⟨D, ?_, hD2⟩
          simp only [List.map_cons, Instr.fill, hp1]
          have e1 : (a x).cells.size = sz := h1 ▸ hcond.1
          rw [if_neg]
          · exact hD1
          · simp only [Bool.or_eq_true, decide_eq_true_eq]
            have := hc.1
            omega
        · cases hf
      · cases hf
    · cases hp

theorem stradd_run {a b : ByteArray} (h : a.size + b.size ≤ 9223372036854775807) (w : World) : (Op.stringOp .add a b).run P w = .ok (.string (a ++ b)) w := by
  have h1 : ¬ (((a.size + b.size : Nat) : Int) > IntKind.i64.max) := by
    have : IntKind.i64.max = 9223372036854775807 := by decide
    rw [this]; omega
  unfold Op.stringOp
  simp only
  rw [if_neg h1]
  rfl

theorem bin_run {op : BinOp} {t : TypeId} {x y : Operand} {u v : Value} {k : Value → Prop} (hb : binK op u v k) : ∃ r, k r ∧ ∀ w, (do eqGuard op t x y u v; binOp op t u v : Sem Value).run P w = .ok r w := by
  unfold binK at hb
  split at hb <;> first
    | exact hb.elim
    | (obtain ⟨rfl, hb⟩ := hb; exact ⟨_, hb, fun w => by simp [eqGuard, binOp, Op.intArith, Op.intBits, Op.intCmp, bind, Sem.bind, Sem.run, pure]⟩)
    | (obtain ⟨rfl, h0, hb⟩ := hb; exact ⟨_, hb, fun w => by simp [eqGuard, binOp, Op.intDiv, h0, bind, Sem.bind, Sem.run, pure]⟩)
    | (obtain ⟨h0, hb⟩ := hb; have h1 : ¬ (_ : Int) < 0 := Int.not_lt.mpr h0; exact ⟨_, hb, fun w => by simp [eqGuard, binOp, Op.shift, h1, bind, Sem.bind, Sem.run, pure]⟩)
    | (obtain ⟨h0, hb⟩ := hb; exact ⟨_, hb, fun w => stradd_run h0 w⟩)
    | exact ⟨_, hb, fun w => by simp [eqGuard, binOp, Op.stringOp, bind, Sem.bind, Sem.run, pure]⟩

theorem un_run {op : UnOp} {u : Value} {k : Value → Prop} (hb : unK op u k) : ∃ r, k r ∧ ∀ w, (Op.unary op u).run P w = .ok r w := by
  unfold unK at hb
  split at hb <;> first
    | exact hb.elim
    | exact ⟨_, hb, fun w => by simp [Op.unary, Op.intArith, Op.intBits, bind, Sem.bind, Sem.run, pure]⟩

theorem okT_parts {t : TypeId} (h : okT P t = true) : (∃ i, P.info? t = some i) ∧ ∃ d, P.underlying t = some d := by
  simp only [okT, Bool.and_eq_true] at h
  exact ⟨Option.isSome_iff_exists.1 h.1, Option.isSome_iff_exists.1 h.2⟩

theorem isAgg_run {t : TypeId} (h : okT P t = true) (w : World) : (isAgg t).run P w = .ok (aggB P t) w := by
  obtain ⟨_, d, hd⟩ := okT_parts h
  unfold isAgg aggB
  simp only [underlying, program, bind, Sem.bind, Sem.run, hd, pure]
  cases d <;> rfl

theorem sizeOf_run {t : TypeId} (h : okT P t = true) (w : World) : (sizeOf t).run P w = .ok (P.cellsOf t) w := by
  obtain ⟨⟨i, hi⟩, _⟩ := okT_parts h
  unfold sizeOf typeInfo Program.cellsOf
  simp only [program, bind, Sem.bind, Sem.run, hi, pure]
  rfl

/-- A run, step by step. -/
theorem run_bind {α β : Type} {e : Sem α} {f : α → Sem β} {w w' : World} {a : α} (h : e.run P w = .ok a w') : (e >>= f).run P w = (f a).run P w' := by
  rw [Sem.run_bind, h]; rfl

theorem underlying_run {t : TypeId} {d : TypeDesc} (h : P.underlying t = some d) (w : World) : (underlying t).run P w = .ok d w := by
  simp only [underlying, program, bind, Sem.bind, Sem.run, h, pure]

theorem zero_run {t : TypeId} {z : List AV} (h : zeroA P t = some z) (w : World) : ∃ v, (zeroValue t).run P w = .ok v w ∧ z = v.cells.toList.map .pl := by
  simp only [zeroA, Option.bind_eq_some_iff, Option.map_eq_some_iff] at h
  obtain ⟨i, hi, v, hv, rfl⟩ := h
  exact ⟨v, by simp only [zeroValue, typeInfo, program, bind, Sem.bind, Sem.run, hi, pure, hv], rfl⟩

theorem VRa.pl (C : Array Value) : VRa S w (C.toList.map .pl) C := by
  refine ⟨by simp, fun j x v hx hv => ?_⟩
  simp only [List.getElem?_map, Option.map_eq_some_iff] at hx
  obtain ⟨y, hy, rfl⟩ := hx
  have : C[j]? = some y := by simpa using hy
  rw [this] at hv
  obtain rfl := Option.some.inj hv
  exact .pl _

theorem Addr.add_plain (b o n : Nat) : (⟨b, o, none⟩ : Addr).add n = ⟨b, o + n, none⟩ := by
  unfold Addr.add
  split
  · rename_i h; subst h; rfl
  · rfl

theorem VRa.extract {cs : List AV} {C : Array Value} (h : VRa S w cs C) (off sz : Nat) (hl : off + sz ≤ cs.length) : VRa S w ((cs.drop off).take sz) (C.extract off (off + sz)) := by
  have h1 := h.1
  refine ⟨by simp; omega, fun j a v ha hv => ?_⟩
  rw [List.getElem?_take] at ha
  rw [Array.getElem?_extract] at hv
  split at ha
  · split at hv
    · rw [List.getElem?_drop] at ha
      exact h.2 _ a v ha hv
    · cases hv
  · cases ha

theorem VR.ep_drop {cs : List AV} {b o : Nat} {f : Nat → Value} (hS : S b) (hb : b < w.heap.size) (hc : ∀ (j : Nat) (a : AV), cs[j]? = some a → w.cell? ⟨b, o + j, none⟩ = some (f j))
    (h : ∀ (j : Nat) (a : AV), cs[j]? = some a → VR S w a (f j)) (n : Nat) : VR S w (.ep (cs.drop n)) (.pointer (some ⟨b, o + n, none⟩)) :=
  .ep b (o + n) _ (fun j => f (n + j)) hS hb (fun j a hj => by rw [List.getElem?_drop] at hj; rw [← hc _ a hj, Nat.add_assoc]) (fun j a hj => by rw [List.getElem?_drop] at hj; exact h _ a hj)

/-! ### Equality of structs -/
def valOf : AV → Value
  | .pl v => v
  | _ => undef

theorem eqL_len : ∀ (ks : List Nat) (xs ys : List AV) (r : Bool), eqL ks xs ys = some r → xs.length = ks.length ∧ ys.length = ks.length := by
  intro ks
  induction ks with
  | nil =>
    intro xs ys r h
    cases xs with
    | nil => cases ys with
      | nil => exact ⟨rfl, rfl⟩
      | cons y ys => simp [eqL] at h
    | cons x xs => simp [eqL] at h
  | cons k ks ih =>
    intro xs ys r h
    unfold eqL at h
    split at h
    · first | contradiction | simp_all
    · rename_i h1; obtain ⟨rfl, rfl⟩ := List.cons.inj h1
      simp only [Option.map_eq_some_iff] at h
      obtain ⟨q, hq, _⟩ := h
      have := ih _ _ _ hq
      simp [this.1, this.2]
    · rename_i h1; obtain ⟨rfl, rfl⟩ := List.cons.inj h1
      split at h
      · simp only [Option.map_eq_some_iff] at h
        obtain ⟨q, hq, _⟩ := h
        have := ih _ _ _ hq
        simp [this.1, this.2]
      · cases h
    · rename_i h1; obtain ⟨rfl, rfl⟩ := List.cons.inj h1
      simp only [Option.map_eq_some_iff] at h
      obtain ⟨q, hq, _⟩ := h
      have := ih _ _ _ hq
      simp [this.1, this.2]
    · cases h

theorem eqL_append : ∀ (k1 k2 : List Nat) (xs ys : List AV) (r : Bool), eqL (k1 ++ k2) xs ys = some r →
    ∃ r1 r2, eqL k1 (xs.take k1.length) (ys.take k1.length) = some r1 ∧ eqL k2 (xs.drop k1.length) (ys.drop k1.length) = some r2 ∧ r = (r1 && r2) := by
  intro k1
  induction k1 with
  | nil => intro k2 xs ys r h; exact ⟨true, r, by simp [eqL], by simpa using h, by simp⟩
  | cons k k1 ih =>
    intro k2 xs ys r h
    rw [List.cons_append] at h
    unfold eqL at h
    split at h
    · first | contradiction | simp_all
    · rename_i h1; obtain ⟨rfl, rfl⟩ := List.cons.inj h1
      simp only [Option.map_eq_some_iff] at h
      obtain ⟨q, hq, rfl⟩ := h
      obtain ⟨r1, r2, g1, g2, rfl⟩ := ih _ _ _ _ hq
      exact ⟨_, r2, by simp [eqL, g1]; rfl, by simpa using g2, by simp [Bool.and_assoc]⟩
    · rename_i h1; obtain ⟨rfl, rfl⟩ := List.cons.inj h1
      split at h
      · rename_i hj
        simp only [Option.map_eq_some_iff] at h
        obtain ⟨q, hq, rfl⟩ := h
        obtain ⟨r1, r2, g1, g2, rfl⟩ := ih _ _ _ _ hq
        exact ⟨_, r2, by simp [eqL, g1, hj]; rfl, by simpa using g2, by simp [Bool.and_assoc]⟩
      · cases h
    · rename_i h1; obtain ⟨rfl, rfl⟩ := List.cons.inj h1
      simp only [Option.map_eq_some_iff] at h
      obtain ⟨q, hq, rfl⟩ := h
      obtain ⟨r1, r2, g1, g2, rfl⟩ := ih _ _ _ _ hq
      exact ⟨_, r2, by simp [eqL, g1]; rfl, by simpa using g2, by simp [Bool.and_assoc]⟩
    · cases h

/-- What a type's value looks like. -/
def lookV (P : Program) (t : TypeId) (xs : List AV) : Value := if aggB P t then .agg (xs.map valOf).toArray else (xs.map valOf).headD undef

theorem eqF_run {D : Nat} {g : TypeId → Option (List Nat)} (hg : ∀ t ks xs ys r w, g t = some ks → eqL ks xs ys = some r → (Op.equalIn D t (lookV P t xs) (lookV P t ys)).run P w = .ok r w) {X Y : List AV} :
    ∀ (fs : List Field) (off : Nat) (ks : List Nat) (r : Bool) (w : World), flatF P g off fs = some ks → eqL ks (X.drop off) (Y.drop off) = some r →
      (Op.eqFields D (X.map valOf).toArray (Y.map valOf).toArray fs).run P w = .ok r w
  | [], off, ks, r, w, hf, he => by
    simp only [flatF, Option.some.injEq] at hf
    subst hf
    have : r = true := by
      unfold eqL at he
      split at he <;> simp_all
    subst this
    rfl
  | f :: fs, off, ks, r, w, hf, he => by
    simp only [flatF] at hf
    split at hf
    · rename_i hc
      obtain ⟨hn, rfl, hok⟩ := hc
      split at hf
      · rename_i k1 hk1
        split at hf
        · rename_i hc2
          simp only [Option.map_eq_some_iff] at hf
          obtain ⟨k2, hk2, rfl⟩ := hf
          obtain ⟨r1, r2, g1, g2, rfl⟩ := eqL_append k1 k2 _ _ r he
          have l1 := eqL_len _ _ _ _ g1
          have look : ∀ (Z : List AV), ((Z.drop f.offset).take k1.length).length = k1.length → (part f.type (Z.map valOf).toArray f.offset).run P w = .ok (lookV P f.type ((Z.drop f.offset).take k1.length)) w := by
            intro Z hZ
            unfold part
            rw [run_bind (isAgg_run hok w)]
            unfold lookV
            cases hag : aggB P f.type with
            | true =>
              simp only [if_true]
              rw [run_bind (sizeOf_run hok w), hc2.1.symm]
              simp only [pure, Sem.run]
              congr 2
              apply Array.ext_getElem?
              intro j
              rw [Array.getElem?_extract]
              simp only [List.getElem?_toArray, List.getElem?_map, List.getElem?_take, List.getElem?_drop]
              split
              · rename_i hj
                rw [if_pos (by have : (Z.map valOf).toArray.size = Z.length := by simp
                               omega)]
              · rename_i hj
                split
                · rename_i hj2
                  rw [List.getElem?_eq_none]
                  · rfl
                  · have : (Z.map valOf).toArray.size = Z.length := by simp
                    omega
                · rfl
            | false =>
              simp only [Bool.false_eq_true, if_false]
              have hk : k1.length = 1 := by
                rcases hc2.2 with h | h
                · rw [hag] at h; cases h
                · exact h
              rw [hk] at hZ ⊢
              have hlt : f.offset < Z.length := by
                simp at hZ; omega
              have e1 : (Z.map valOf).toArray[f.offset]? = some (valOf Z[f.offset]) := by simp [hlt]
              rw [e1]
              have e2 : (Z.drop f.offset).take 1 = [Z[f.offset]] := by
                rw [List.drop_eq_getElem_cons hlt]; rfl
              rw [e2]
              rfl
          simp only [Op.eqFields, if_pos hn]
          rw [run_bind (look X l1.1), run_bind (look Y l1.2), run_bind (hg _ _ _ _ _ w hk1 g1)]
          have hrest := eqF_run hg fs (f.offset + k1.length) k2 r2 w hk2 (by simpa [List.drop_drop] using g2)
          cases r1 with
          | true => simpa using hrest
          | false => simp [Sem.run, pure]
        · cases hf
      · cases hf
    · cases hf

theorem eqL_one {k : Nat} {xs ys : List AV} {r : Bool} (h : eqL [k] xs ys = some r) :
    (k = 0 ∧ ∃ a c, xs = [.pl (.bool a)] ∧ ys = [.pl (.bool c)] ∧ r = (a == c)) ∨ (k = 1 ∧ ∃ j a c, xs = [.pl (.int j a)] ∧ ys = [.pl (.int j c)] ∧ r = (a == c)) ∨
      (k = 2 ∧ ∃ a c, xs = [.pl (.string a)] ∧ ys = [.pl (.string c)] ∧ r = (a.toList == c.toList)) := by
  have nil : ∀ {xs ys : List AV} {q : Bool}, eqL [] xs ys = some q → xs = [] ∧ ys = [] ∧ q = true := by
    intro xs ys q h
    unfold eqL at h
    split at h <;> simp_all
  unfold eqL at h
  split at h
  · first | contradiction | simp_all
  · rename_i h1; obtain ⟨rfl, rfl⟩ := List.cons.inj h1
    simp only [Option.map_eq_some_iff] at h
    obtain ⟨q, hq, rfl⟩ := h
    obtain ⟨rfl, rfl, rfl⟩ := nil hq
    exact .inl ⟨rfl, _, _, rfl, rfl, by simp⟩
  · rename_i h1; obtain ⟨rfl, rfl⟩ := List.cons.inj h1
    split at h
    · rename_i hj
      subst hj
      simp only [Option.map_eq_some_iff] at h
      obtain ⟨q, hq, rfl⟩ := h
      obtain ⟨rfl, rfl, rfl⟩ := nil hq
      exact .inr (.inl ⟨rfl, _, _, _, rfl, rfl, by simp⟩)
    · cases h
  · rename_i h1; obtain ⟨rfl, rfl⟩ := List.cons.inj h1
    simp only [Option.map_eq_some_iff] at h
    obtain ⟨q, hq, rfl⟩ := h
    obtain ⟨rfl, rfl, rfl⟩ := nil hq
    exact .inr (.inr ⟨rfl, _, _, rfl, rfl, by simp⟩)
  · cases h

theorem eqIt_run {D : Nat} {e : TypeId} {kk : IntKind} (hu : P.underlying e = some (.int kk)) (hok : okT P e = true) {X Y : List AV} (w : World) : ∀ (m s : Nat) (r : Bool), eqL (List.replicate m 1) (X.drop s) (Y.drop s) = some r →
    (Op.eqItems (D + 1) e 1 (X.map valOf).toArray (Y.map valOf).toArray (List.range' s m)).run P w = .ok r w
  | 0, s, r, h => by
    have : r = true := by
      unfold eqL at h
      split at h <;> simp_all
    subst this
    rfl
  | m + 1, s, r, h => by
    rw [List.replicate_succ] at h
    have hag : aggB P e = false := by simp [aggB, hu]
    obtain ⟨r1, r2, g1, g2, rfl⟩ := eqL_append [1] (List.replicate m 1) _ _ r h
    rcases eqL_one g1 with ⟨h, _⟩ | ⟨_, j, a, c, h1, h2, rfl⟩ | ⟨h, _⟩
    · cases h
    · have one : ∀ {Z : List AV} {v : AV}, (Z.drop s).take 1 = [v] → (part e (Z.map valOf).toArray (s * 1)).run P w = .ok (valOf v) w := by
        intro Z v hz
        have hlt : s < Z.length := by
          rcases Nat.lt_or_ge s Z.length with h | h
          · exact h
          · rw [List.drop_of_length_le h] at hz; cases hz
        have hv : Z[s] = v := by
          rw [List.drop_eq_getElem_cons hlt, List.take_succ_cons] at hz
          exact (List.cons.inj hz).1
        unfold part
        rw [run_bind (isAgg_run hok w)]
        simp only [hag, Bool.false_eq_true, if_false, Nat.mul_one]
        have e1 : (Z.map valOf).toArray[s]? = some (valOf v) := by simp [hlt, hv]
        rw [e1]
        rfl
      rw [List.range'_succ]
      simp only [Op.eqItems]
      rw [run_bind (one (by simpa using h1)), run_bind (one (by simpa using h2))]
      have hint : (Op.equalIn (D + 1) e (valOf (.pl (.int j a))) (valOf (.pl (.int j c)))).run P w = .ok (a == c) w := run_equalIn_int w D e j kk a c hu
      rw [run_bind hint]
      have ih := eqIt_run (D := D) hu hok w m (s + 1) r2 (by simpa [List.drop_drop] using g2)
      cases hac : (a == c) with
      | true => simpa using ih
      | false => simp [Sem.run, pure]
    · cases h

theorem eqK_run : ∀ (d D : Nat), d ≤ D → ∀ (t : TypeId) (ks : List Nat) (xs ys : List AV) (r : Bool) (w : World), flatK P d t = some ks → eqL ks xs ys = some r → (Op.equalIn D t (lookV P t xs) (lookV P t ys)).run P w = .ok r w
  | 0, D, _, t, ks, xs, ys, r, w, hf, he => by simp [flatK] at hf
  | d + 1, D, hD, t, ks, xs, ys, r, w, hf, he => by
    obtain ⟨D, rfl⟩ : ∃ e, D = e + 1 := ⟨D - 1, by omega⟩
    simp only [flatK] at hf
    split at hf
    · rename_i hu
      obtain rfl := Option.some.inj hf
      have hag : aggB P t = false := by simp [aggB, hu]
      rcases eqL_one he with ⟨_, a, c, rfl, rfl, rfl⟩ | ⟨h, _⟩ | ⟨h, _⟩
      · simp only [lookV, hag, Bool.false_eq_true, if_false, List.map_cons, List.map_nil, List.headD_cons, valOf]
        exact run_equalIn_bool' w D t a c hu
      · cases h
      · cases h
    · rename_i kk hu
      obtain rfl := Option.some.inj hf
      have hag : aggB P t = false := by simp [aggB, hu]
      rcases eqL_one he with ⟨h, _⟩ | ⟨_, j, a, c, rfl, rfl, rfl⟩ | ⟨h, _⟩
      · cases h
      · simp only [lookV, hag, Bool.false_eq_true, if_false, List.map_cons, List.map_nil, List.headD_cons, valOf]
        exact run_equalIn_int w D t j kk a c hu
      · cases h
    · rename_i hu
      obtain rfl := Option.some.inj hf
      have hag : aggB P t = false := by simp [aggB, hu]
      rcases eqL_one he with ⟨h, _⟩ | ⟨h, _⟩ | ⟨_, a, c, rfl, rfl, rfl⟩
      · cases h
      · cases h
      · simp only [lookV, hag, Bool.false_eq_true, if_false, List.map_cons, List.map_nil, List.headD_cons, valOf]
        exact run_equalIn_string w D t a c hu
    · rename_i fs hu
      split at hf
      · cases hf
      · rename_i hst
        have hag : aggB P t = true := by simp [aggB, hu]
        have hfo : P.fieldsOf t = fs := by simp [Program.fieldsOf, hu]
        simp only [lookV, hag, if_true]
        rw [run_equalIn_struct (P := P) w D t _ _ (by rw [hfo]; exact hu) (by simpa using hst), hfo]
        exact eqF_run (fun t ks xs ys r w h1 h2 => eqK_run d D (by omega) t ks xs ys r w h1 h2) fs.toList 0 ks r w hf (by simpa using he)
    · rename_i n e hu
      split at hf
      · rename_i kk hk
        split at hf
        · rename_i hc
          obtain ⟨hd, hok, hc1⟩ := hc
          obtain rfl := Option.some.inj hf
          obtain ⟨D, rfl⟩ : ∃ e, D = e + 1 := ⟨D - 1, by omega⟩
          have hag : aggB P t = true := by simp [aggB, hu]
          obtain ⟨⟨i, hi⟩, _⟩ := okT_parts hok
          simp only [lookV, hag, if_true]
          rw [run_equalIn_array w (D + 1) _ _ hu hi, hc1, List.range_eq_range']
          exact eqIt_run hk hok w n 0 r (by simpa using he)
        · cases hf
      · cases hf
    · cases hf

theorem eqL_plain : ∀ (ks : List Nat) (xs ys : List AV) (r : Bool), eqL ks xs ys = some r → (∀ x ∈ xs, ∃ v, x = .pl v) ∧ ∀ y ∈ ys, ∃ v, y = .pl v := by
  intro ks
  induction ks with
  | nil =>
    intro xs ys r h
    have := eqL_len _ _ _ _ h
    have h1 : xs = [] := List.eq_nil_of_length_eq_zero this.1
    have h2 : ys = [] := List.eq_nil_of_length_eq_zero this.2
    subst h1; subst h2
    exact ⟨fun x hx => (by cases hx), fun x hx => (by cases hx)⟩
  | cons k ks ih =>
    intro xs ys r h
    obtain ⟨r1, r2, g1, g2, _⟩ := eqL_append [k] ks xs ys r h
    have h1 := eqL_one g1
    have h2 := ih _ _ _ g2
    have cut : ∀ (zs : List AV), zs = zs.take 1 ++ zs.drop 1 := fun zs => (List.take_append_drop 1 zs).symm
    simp only [List.length_cons, List.length_nil, Nat.zero_add] at h1 h2
    constructor
    · intro x hx
      rw [cut xs] at hx
      rcases List.mem_append.1 hx with hx | hx
      · rcases h1 with ⟨_, a, c, e, _⟩ | ⟨_, j, a, c, e, _⟩ | ⟨_, a, c, e, _⟩ <;> (rw [e] at hx; simp at hx; exact ⟨_, hx⟩)
      · exact h2.1 x hx
    · intro x hx
      rw [cut ys] at hx
      rcases List.mem_append.1 hx with hx | hx
      · rcases h1 with ⟨_, a, c, _, e, _⟩ | ⟨_, j, a, c, _, e, _⟩ | ⟨_, a, c, _, e, _⟩ <;> (rw [e] at hx; simp at hx; exact ⟨_, hx⟩)
      · exact h2.2 x hx

theorem plain_ag {xs : List AV} (h : ∀ x ∈ xs, ∃ v, x = .pl v) {S : Nat → Prop} {w : World} {u : Value} (hv : VR S w (.ag xs) u) : u = .agg (xs.map valOf).toArray := by
  obtain ⟨ds, rfl, hl, hd⟩ := hv.ag_inv
  congr 1
  apply Array.ext_getElem?
  intro j
  simp only [List.getElem?_toArray, List.getElem?_map]
  cases hx : xs[j]? with
  | none =>
    have : xs.length ≤ j := List.getElem?_eq_none_iff.1 hx
    rw [Array.getElem?_eq_none (by omega)]
    rfl
  | some x =>
    have hj : j < ds.size := hl ▸ (List.getElem?_eq_some_iff.1 hx).1
    have hdj : ds[j]? = some ds[j] := Array.getElem?_eq_getElem hj
    obtain ⟨v, rfl⟩ := h x (List.mem_of_getElem? hx)
    rw [hdj, (hd j _ _ hx hdj).pl_inv]
    rfl

theorem bnd_ints {ρ : Operand → AV} {a : Operand → Value} {o : Option Operand} {d : Int} {k : Int → Prop} (h : bndK ρ o d k) : ∃ j, k j ∧ ((o = none ∧ j = d) ∨ ∃ x kk, o = some x ∧ ρ x = .pl (.int kk j)) := by
  unfold bndK at h
  split at h
  · exact ⟨_, h, .inl ⟨rfl, rfl⟩⟩
  · rename_i x
    split at h
    · rename_i kk j hx; exact ⟨j, h, .inr ⟨x, kk, rfl, hx⟩⟩
    · exact h.elim

theorem pu_sound {o : Oper} {ρ : Operand → AV} {H : AH} {k : AV → AH → Prop} (hk : kindOf o.op = .pu) (h : iop P ρ H k (compI P o.op)) : ∃ v, Pu P o ρ v ∧ k v H := by
  obtain ⟨dst, op, type, pos, after, guard⟩ := o
  simp only at hk h ⊢
  cases op with
  | move x => exact ⟨_, fun S a w ha => ⟨a x, rfl, ha x (by simp [Op.operands])⟩, h⟩
  | assign x => exact ⟨_, fun S a w ha => ⟨a x, rfl, ha x (by simp [Op.operands])⟩, h⟩
  | pick c x y =>
    simp only [compI, iop] at h
    split at h
    · rename_i hc
      refine ⟨_, fun S a w ha => ⟨a x, ?_, ha x (by simp [Op.operands])⟩, h⟩
      have h1 := ha c (by simp [Op.operands])
      rw [hc] at h1
      simp only [execOp, h1.pl_inv, asBool]
      rfl
    · rename_i hc
      refine ⟨_, fun S a w ha => ⟨a y, ?_, ha y (by simp [Op.operands])⟩, h⟩
      have h1 := ha c (by simp [Op.operands])
      rw [hc] at h1
      simp only [execOp, h1.pl_inv, asBool]
      rfl
    · exact h.elim
  | build t parts =>
    have go : ∀ (place : Nat → Option (Nat × Nat)) (z : List AV) (ps : List ((Nat × Nat) × Operand)), partsOf place parts.toList = some ps → iop P ρ H k (.build z ps) →
        (∀ (a : Operand → Value) (w : World) (C D : Array Value), z = C.toList.map .pl → Instr.fill place C ((parts.map fun (i, x) => (i, a x)).toList) = some D → (∀ v, (zeroValue t).run P w = .ok v w → v.cells = C → (Instr.build t (parts.map fun (i, x) => (i, a x))).run P w = .ok (.agg D) w)) →
        zeroA P t = some z → ∃ v, Pu P ⟨dst, .build t parts, type, pos, after, guard⟩ ρ v ∧ k v H := by
      intro place z ps hps h hrun hz
      simp only [iop] at h
      split at h
      · rename_i cs hf
        refine ⟨_, fun S a w ha => ?_, h⟩
        obtain ⟨v, hv1, hv2⟩ := zero_run hz w
        subst hv2
        obtain ⟨D, hD, hv⟩ := fill_sound (S := S) (w := w) (a := a) parts.toList ps _ cs v.cells (fun p hp => ha p.2 (by simp only [Op.operands]; simp; exact ⟨p.1, by simpa using hp⟩)) hps (VRa.pl _) hf
        refine ⟨.agg D, ?_, .ag cs D hv.1 hv.2⟩
        simp only [execOp]
        rw [run_bind (hrun a w v.cells D rfl (by rw [Array.toList_map]; exact hD) v hv1 rfl)]
        rfl
      · exact h.elim
    simp only [compI] at h
    split at h
    · rename_i fields z hu hz
      split at h
      · rename_i ps hps
        split at hps
        · rename_i hall
          refine go _ z ps hps h (fun a w C D hzC hf v hv hvc => ?_) hz
          unfold Instr.build
          rw [run_bind hv]
          rw [run_bind (underlying_run hu w)]
          have hpl : ∀ (l : List Field), l.all (fun f => okT P f.type) = true → (l.mapM (fun f => (do pure (f.offset, ← sizeOf f.type) : Sem (Nat × Nat)))).run P w = .ok (l.map fun f => (f.offset, P.cellsOf f.type)) w := by
            intro l
            induction l with
            | nil => intro _; rfl
            | cons f l ih =>
              intro hl
              simp only [List.all_cons, Bool.and_eq_true] at hl
              rw [List.mapM_cons]
              rw [run_bind (a := (f.offset, P.cellsOf f.type)) (w' := w) (by rw [run_bind (sizeOf_run hl.1 w)]; rfl)]
              rw [run_bind (ih hl.2)]
              rfl
          have hpl2 : (fields.mapM (fun f => (do pure (f.offset, ← sizeOf f.type) : Sem (Nat × Nat)))).run P w = .ok (fields.map fun f => (f.offset, P.cellsOf f.type)) w := by
            rw [Array.mapM_eq_mapM_toList, Sem.run_map, hpl _ hall]
            simp only [Result.andThen_ok, Result.ok.injEq, and_true]
            rw [← Array.toList_map]
          simp only
          rw [run_bind hpl2]
          have e : (fun (x : Nat) => (fields.map fun (f : Field) => (f.offset, P.cellsOf f.type))[x]?) = fun (i : Nat) => (fields[i]?).map fun (f : Field) => (f.offset, P.cellsOf f.type) := by
            funext i; simp
          rw [e, hvc, hf]
          rfl
        · cases hps
      · exact h.elim
    · rename_i n e z hu hz
      split at h
      · rename_i ps hps
        split at hps
        · rename_i hok
          refine go _ z ps hps h (fun a w C D hzC hf v hv hvc => ?_) hz
          unfold Instr.build
          rw [run_bind hv]
          rw [run_bind (underlying_run hu w)]
          simp only
          rw [run_bind (sizeOf_run hok w)]
          rw [hvc, hf]
          rfl
        · cases hps
      · exact h.elim
    · exact h.elim
  | nilCheck x =>
    simp only [compI, iop] at h
    split at h
    · rename_i ad hx
      refine ⟨_, fun S a w ha => ⟨.pointer (some ad), ?_, .pl _⟩, h⟩
      have h1 := ha x (by simp [Op.operands])
      rw [hx] at h1
      simp only [execOp, h1.pl_inv]
      rfl
    · rename_i cs hx
      refine ⟨_, fun S a w ha => ?_, h⟩
      have h1 := ha x (by simp [Op.operands])
      rw [hx] at h1
      simp only [execOp]
      generalize a x = u at h1
      cases h1 with
      | ep b o _ f hS hb hc hv => exact ⟨_, rfl, .ep b o cs f hS hb hc hv⟩
    · exact h.elim
  | binOp op t x y t' =>
    have one : iop P ρ H k (.bin op x y) → ∃ v, Pu P ⟨dst, .binOp op t x y t', type, pos, after, guard⟩ ρ v ∧ k v H := by
      intro h
      simp only [iop] at h
      split at h
      · rename_i u v hx hy
        obtain ⟨r, hr, hrun⟩ := bin_run (P := P) (t := t) (x := x) (y := y) h
        refine ⟨_, fun S a w ha => ⟨r, ?_, .pl _⟩, hr⟩
        have h1 := ha x (by simp [Op.operands])
        have h2 := ha y (by simp [Op.operands])
        rw [hx] at h1
        rw [hy] at h2
        simp only [execOp, h1.pl_inv, h2.pl_inv]
        rw [run_bind (hrun w)]
        rfl
      · exact h.elim
    simp only [compI] at h
    split at h
    · exact one h
    · exact one h
    · rename_i hu
      have two : ∀ neq : Bool, op = (if neq then .neq else .eql) → iop P ρ H k (.eqb neq x y) → ∃ v, Pu P ⟨dst, .binOp op t x y t', type, pos, after, guard⟩ ρ v ∧ k v H := by
        intro neq hop h
        simp only [iop] at h
        split at h
        · rename_i u v hx hy
          refine ⟨_, fun S a w ha => ⟨_, ?_, .pl _⟩, h⟩
          have h1 := ha x (by simp [Op.operands])
          have h2 := ha y (by simp [Op.operands])
          rw [hx] at h1
          rw [hy] at h2
          have he : (Op.equal t (.bool u) (.bool v)).run P w = .ok (u == v) w := by
            unfold Op.equal Op.maxDepth
            rw [Op.equalIn]
            rw [run_bind (underlying_run hu w)]
            rfl
          simp only [execOp, h1.pl_inv, h2.pl_inv]
          have hg : (eqGuard op t x y (.bool u) (.bool v)).run P w = .ok () w := by
            subst hop; cases neq <;> rfl
          have hb : (do eqGuard op t x y (.bool u) (.bool v); binOp op t (.bool u) (.bool v) : Sem Value).run P w = .ok (.bool (if neq then !(u == v) else u == v)) w := by
            rw [run_bind hg]
            subst hop
            cases neq with
            | true => simp only [if_true, binOp]; rw [run_bind he]; rfl
            | false => simp only [Bool.false_eq_true, if_false, binOp]; rw [run_bind he]; rfl
          rw [run_bind hb]
          rfl
        · exact h.elim
      split at h
      · exact two false rfl h
      · exact two true rfl h
      · exact h.elim
    · rename_i fs hu
      split at h
      · rename_i ks hks
        split at hks
        · cases hks
        · rename_i hgt
          have two : ∀ neq : Bool, op = (if neq then .neq else .eql) → iop P ρ H k (.eqs neq ks x y) → ∃ v, Pu P ⟨dst, .binOp op t x y t', type, pos, after, guard⟩ ρ v ∧ k v H := by
            intro neq hop h
            simp only [iop] at h
            split at h
            · rename_i xs ys hx hy
              split at h
              · rename_i r hr
                obtain ⟨p1, p2⟩ := eqL_plain _ _ _ _ hr
                refine ⟨_, fun S a w ha => ⟨_, ?_, .pl _⟩, h⟩
                have h1 := ha x (by simp [Op.operands])
                have h2 := ha y (by simp [Op.operands])
                rw [hx] at h1
                rw [hy] at h2
                have hag : aggB P t = true := by simp [aggB, hu]
                have he : (Op.equal t (.agg (xs.map valOf).toArray) (.agg (ys.map valOf).toArray)).run P w = .ok r w := by
                  unfold Op.equal Op.maxDepth
                  have := eqK_run (P := P) 20 10000 (by omega) t ks xs ys r w hks hr
                  simpa only [lookV, hag, if_true] using this
                simp only [execOp, plain_ag p1 h1, plain_ag p2 h2]
                have hg : (eqGuard op t x y (.agg (xs.map valOf).toArray) (.agg (ys.map valOf).toArray)).run P w = .ok () w := by
                  have hgt' : P.eqGuardType P.depth t = false := by simpa using hgt
                  subst hop
                  cases neq with
                  | true => simp [eqGuard, hgt']
                  | false => simp [eqGuard, hgt']
                have hb : (do eqGuard op t x y (.agg (xs.map valOf).toArray) (.agg (ys.map valOf).toArray); binOp op t (.agg (xs.map valOf).toArray) (.agg (ys.map valOf).toArray) : Sem Value).run P w = .ok (.bool (if neq then !r else r)) w := by
                  rw [run_bind hg]
                  subst hop
                  cases neq with
                  | true => simp only [if_true, binOp]; rw [run_bind he]; rfl
                  | false => simp only [Bool.false_eq_true, if_false, binOp]; rw [run_bind he]; rfl
                rw [run_bind hb]
                rfl
              · exact h.elim
            · exact h.elim
          split at h
          · exact two false rfl h
          · exact two true rfl h
          · exact h.elim
      · exact h.elim
    · rename_i an ae hu
      split at h
      · rename_i ks hks
        split at hks
        · cases hks
        · rename_i hgt
          have two : ∀ neq : Bool, op = (if neq then .neq else .eql) → iop P ρ H k (.eqs neq ks x y) → ∃ v, Pu P ⟨dst, .binOp op t x y t', type, pos, after, guard⟩ ρ v ∧ k v H := by
            intro neq hop h
            simp only [iop] at h
            split at h
            · rename_i xs ys hx hy
              split at h
              · rename_i r hr
                obtain ⟨p1, p2⟩ := eqL_plain _ _ _ _ hr
                refine ⟨_, fun S a w ha => ⟨_, ?_, .pl _⟩, h⟩
                have h1 := ha x (by simp [Op.operands])
                have h2 := ha y (by simp [Op.operands])
                rw [hx] at h1
                rw [hy] at h2
                have hag : aggB P t = true := by simp [aggB, hu]
                have he : (Op.equal t (.agg (xs.map valOf).toArray) (.agg (ys.map valOf).toArray)).run P w = .ok r w := by
                  unfold Op.equal Op.maxDepth
                  have := eqK_run (P := P) 20 10000 (by omega) t ks xs ys r w hks hr
                  simpa only [lookV, hag, if_true] using this
                simp only [execOp, plain_ag p1 h1, plain_ag p2 h2]
                have hg : (eqGuard op t x y (.agg (xs.map valOf).toArray) (.agg (ys.map valOf).toArray)).run P w = .ok () w := by
                  have hgt' : P.eqGuardType P.depth t = false := by simpa using hgt
                  subst hop
                  cases neq with
                  | true => simp [eqGuard, hgt']
                  | false => simp [eqGuard, hgt']
                have hb : (do eqGuard op t x y (.agg (xs.map valOf).toArray) (.agg (ys.map valOf).toArray); binOp op t (.agg (xs.map valOf).toArray) (.agg (ys.map valOf).toArray) : Sem Value).run P w = .ok (.bool (if neq then !r else r)) w := by
                  rw [run_bind hg]
                  subst hop
                  cases neq with
                  | true => simp only [if_true, binOp]; rw [run_bind he]; rfl
                  | false => simp only [Bool.false_eq_true, if_false, binOp]; rw [run_bind he]; rfl
                rw [run_bind hb]
                rfl
              · exact h.elim
            · exact h.elim
          split at h
          · exact two false rfl h
          · exact two true rfl h
          · exact h.elim
      · exact h.elim
    · rename_i e hu
      have two : ∀ neq : Bool, op = (if neq then .neq else .eql) → iop P ρ H k (.eqp neq x y) → ∃ v, Pu P ⟨dst, .binOp op t x y t', type, pos, after, guard⟩ ρ v ∧ k v H := by
        intro neq hop h
        simp only [iop] at h
        split at h
        · rename_i u hx hy
          refine ⟨_, fun S a w ha => ⟨_, ?_, .pl _⟩, h⟩
          have h1 := ha x (by simp [Op.operands])
          have h2 := ha y (by simp [Op.operands])
          rw [hx] at h1
          rw [hy] at h2
          have he : (Op.equal t (.pointer u) (.pointer none)).run P w = .ok u.isNone w := by
            unfold Op.equal Op.maxDepth
            rw [Op.equalIn]
            rw [run_bind (underlying_run hu w)]
            cases u <;> rfl
          simp only [execOp, h1.pl_inv, h2.pl_inv]
          have hg : (eqGuard op t x y (.pointer u) (.pointer none)).run P w = .ok () w := by
            subst hop; cases neq <;> rfl
          have hb : (do eqGuard op t x y (.pointer u) (.pointer none); binOp op t (.pointer u) (.pointer none) : Sem Value).run P w = .ok (.bool (if neq then !u.isNone else u.isNone)) w := by
            rw [run_bind hg]
            subst hop
            cases neq with
            | true => simp only [if_true, binOp]; rw [run_bind he]; rfl
            | false => simp only [Bool.false_eq_true, if_false, binOp]; rw [run_bind he]; rfl
          rw [run_bind hb]
          rfl
        · exact h.elim
      split at h
      · exact two false rfl h
      · exact two true rfl h
      · exact h.elim
    · rename_i ke e hu
      have two : ∀ neq : Bool, op = (if neq then .neq else .eql) → iop P ρ H k (.eqm neq x y) → ∃ v, Pu P ⟨dst, .binOp op t x y t', type, pos, after, guard⟩ ρ v ∧ k v H := by
        intro neq hop h
        simp only [iop] at h
        split at h
        · rename_i u hx hy
          refine ⟨_, fun S a w ha => ⟨_, ?_, .pl _⟩, h⟩
          have h1 := ha x (by simp [Op.operands])
          have h2 := ha y (by simp [Op.operands])
          rw [hx] at h1
          rw [hy] at h2
          have he : (Op.equal t (.map u) (.map none)).run P w = .ok u.isNone w := by
            unfold Op.equal Op.maxDepth
            rw [Op.equalIn]
            rw [run_bind (underlying_run hu w)]
            cases u <;> rfl
          simp only [execOp, h1.pl_inv, h2.pl_inv]
          have hg : (eqGuard op t x y (.map u) (.map none)).run P w = .ok () w := by
            subst hop; cases neq <;> rfl
          have hb : (do eqGuard op t x y (.map u) (.map none); binOp op t (.map u) (.map none) : Sem Value).run P w = .ok (.bool (if neq then !u.isNone else u.isNone)) w := by
            rw [run_bind hg]
            subst hop
            cases neq with
            | true => simp only [if_true, binOp]; rw [run_bind he]; rfl
            | false => simp only [Bool.false_eq_true, if_false, binOp]; rw [run_bind he]; rfl
          rw [run_bind hb]
          rfl
        · exact h.elim
      split at h
      · exact two false rfl h
      · exact two true rfl h
      · exact h.elim
    · rename_i e hu
      have two : ∀ neq : Bool, op = (if neq then .neq else .eql) → iop P ρ H k (.eqz neq x y) → ∃ v, Pu P ⟨dst, .binOp op t x y t', type, pos, after, guard⟩ ρ v ∧ k v H := by
        intro neq hop h
        have go : ∀ (u : Option Addr) (n c n' c' : Nat) (w : World) (a : Operand → Value), a x = .slice u n c → a y = .slice none n' c' →
            (execOp a ⟨dst, .binOp op t x y t', type, pos, after, guard⟩).run P w = .ok (.value (.bool (if neq then !u.isNone else u.isNone))) w := by
          intro u n c n' c' w a h1 h2
          have he : (Op.equal t (.slice u n c) (.slice none n' c')).run P w = .ok u.isNone w := by
            unfold Op.equal Op.maxDepth
            rw [Op.equalIn]
            rw [run_bind (underlying_run hu w)]
            cases u <;> rfl
          simp only [execOp, h1, h2]
          have hg : (eqGuard op t x y (.slice u n c) (.slice none n' c')).run P w = .ok () w := by
            subst hop; cases neq <;> rfl
          have hb : (do eqGuard op t x y (.slice u n c) (.slice none n' c'); binOp op t (.slice u n c) (.slice none n' c') : Sem Value).run P w = .ok (.bool (if neq then !u.isNone else u.isNone)) w := by
            rw [run_bind hg]
            subst hop
            cases neq with
            | true => simp only [if_true, binOp]; rw [run_bind he]; rfl
            | false => simp only [Bool.false_eq_true, if_false, binOp]; rw [run_bind he]; rfl
          rw [run_bind hb]
          rfl
        simp only [iop] at h
        split at h
        · rename_i u n c n' c' hx hy
          refine ⟨_, fun S a w ha => ⟨_, go u n c n' c' w a ?_ ?_, .pl _⟩, h⟩
          · have h1 := ha x (by simp [Op.operands])
            rw [hx] at h1
            exact h1.pl_inv
          · have h2 := ha y (by simp [Op.operands])
            rw [hy] at h2
            exact h2.pl_inv
        · rename_i b o n sz xf n' c' hx hy
          refine ⟨_, fun S a w ha => ?_, h⟩
          have h1 := ha x (by simp [Op.operands])
          have h2 := ha y (by simp [Op.operands])
          rw [hx] at h1
          rw [hy] at h2
          generalize hax : a x = ax at h1
          cases h1
          refine ⟨_, go _ _ _ _ _ w a hax h2.pl_inv, ?_⟩
          cases neq <;> exact .pl _
        · rename_i n xf cs n' c' hx hy
          refine ⟨_, fun S a w ha => ?_, h.2⟩
          have h1 := ha x (by simp [Op.operands])
          have h2 := ha y (by simp [Op.operands])
          rw [hx] at h1
          rw [hy] at h2
          generalize hax : a x = ax at h1
          cases h1 with
          | vnil => exact absurd rfl h.1
          | vs =>
            refine ⟨_, go _ _ _ _ _ w a hax h2.pl_inv, ?_⟩
            cases neq <;> exact .pl _
        · exact h.elim
      split at h
      · exact two false rfl h
      · exact two true rfl h
      · exact h.elim
    · exact h.elim
  | convert s t x =>
    simp only [compI] at h
    split at h
    · rename_i k0 j hs ht
      simp only [iop] at h
      split at h
      · rename_i k1 n hx
        refine ⟨_, fun S a w ha => ⟨.int j (j.wrap n), ?_, .pl _⟩, h⟩
        have h1 := ha x (by simp [Op.operands])
        rw [hx] at h1
        simp only [execOp, h1.pl_inv]
        have hc : (convert s t (.int k1 n)).run P w = .ok (.int j (j.wrap n)) w := by
          unfold convert
          rw [run_bind (underlying_run hs w), run_bind (underlying_run ht w)]
          rfl
        rw [run_bind hc]
        rfl
      · exact h.elim
    · exact h.elim
  | unOp op t x =>
    simp only [compI, iop] at h
    split at h
    · rename_i u hx
      obtain ⟨r, hr, hrun⟩ := un_run (P := P) h
      refine ⟨_, fun S a w ha => ⟨r, ?_, .pl _⟩, hr⟩
      have h1 := ha x (by simp [Op.operands])
      rw [hx] at h1
      simp only [execOp, h1.pl_inv]
      rw [run_bind (hrun w)]
      rfl
    · exact h.elim
  | fieldAddr t x f =>
    simp only [compI] at h
    split at h
    · rename_i fields hu
      split at h
      · rename_i fd hf
        split at h
        · rename_i hcond
          simp only [Bool.and_eq_true, bne_iff_ne, ne_eq] at hcond
          have place : ∀ (w : World) (b o : Nat), (fieldPlace ⟨b, o, none⟩ fd).run P w = .ok ⟨b, o + fd.offset, none⟩ w := by
            intro w b o
            unfold fieldPlace
            rw [run_bind (sizeOf_run hcond.1 w)]
            rw [if_neg hcond.2, Addr.add_plain]
            rfl
          have go : ∀ (w : World) (b o : Nat), (Instr.fieldAt t (.pointer (some ⟨b, o, none⟩)) f).run P w = .ok (.pointer (some ⟨b, o + fd.offset, none⟩)) w := by
            intro w b o
            unfold Instr.fieldAt
            rw [run_bind (underlying_run hu w)]
            simp only [hf, Instr.sureAddr]
            rw [run_bind (a := (⟨b, o, none⟩ : Addr)) (w' := w) rfl]
            rw [run_bind (place w b o)]
            rfl
          simp only [iop] at h
          split at h
          · rename_i b o hx
            refine ⟨_, fun S a w ha => ⟨_, ?_, .pl _⟩, h⟩
            have h1 := ha x (by simp [Op.operands])
            rw [hx] at h1
            simp only [execOp, h1.pl_inv]
            rw [run_bind (go w b o)]
            rfl
          · rename_i cs hx
            refine ⟨_, fun S a w ha => ?_, h⟩
            have h1 := ha x (by simp [Op.operands])
            rw [hx] at h1
            simp only [execOp]
            generalize a x = u at h1
            cases h1 with
            | ep b o _ g hS hb hc hv =>
              exact ⟨_, by rw [run_bind (go w b o)]; rfl, VR.ep_drop hS hb hc hv _⟩
          · exact h.elim
        · exact h.elim
      · exact h.elim
    · exact h.elim
  | field t x f =>
    simp only [compI] at h
    split at h
    · rename_i fields hu
      split at h
      · rename_i fd hf
        split at h
        · rename_i hok
          simp only [iop] at h
          split at h
          · rename_i cs hx
            obtain ⟨hle, h⟩ := h
            have key : ∃ v, k v H ∧ ∀ S (a : Operand → Value) w, VR S w (ρ x) (a x) → ∃ u, (Instr.field t (a x) f).run P w = .ok u w ∧ VR S w v u := by
              unfold oneK at h
              cases hag : aggB P fd.type with
              | true =>
                simp only [hag, if_true] at h hle
                refine ⟨_, h, fun S a w h1 => ?_⟩
                rw [hx] at h1
                obtain ⟨ds, hd, hds⟩ := h1.ag_inv
                have hds : VRa S w cs ds := hds
                have hex := hds.extract fd.offset (P.cellsOf fd.type) hle
                refine ⟨_, ?_, .ag _ _ hex.1 hex.2⟩
                unfold Instr.field
                rw [run_bind (underlying_run hu w)]
                simp only [hf, hd, asAgg]
                rw [run_bind (a := ds) (w' := w) rfl]
                unfold part
                rw [run_bind (isAgg_run hok w)]
                simp only [hag, if_true]
                rw [run_bind (sizeOf_run hok w)]
                rfl
              | false =>
                simp only [hag, Bool.false_eq_true, if_false] at h hle
                split at h
                · rename_i x0 hx0
                  refine ⟨_, h, fun S a w h1 => ?_⟩
                  rw [hx] at h1
                  obtain ⟨ds, hd, hds⟩ := h1.ag_inv
                  have hds : VRa S w cs ds := hds
                  have hlt : fd.offset < ds.size := by have := hds.1; omega
                  have hc0 : cs[fd.offset]? = some x0 := by
                    have := congrArg (·[0]?) hx0
                    simpa [List.getElem?_take, List.getElem?_drop] using this
                  have hd0 : ds[fd.offset]? = some ds[fd.offset] := Array.getElem?_eq_getElem hlt
                  refine ⟨_, ?_, hds.2 _ _ _ hc0 hd0⟩
                  unfold Instr.field
                  rw [run_bind (underlying_run hu w)]
                  simp only [hf, hd, asAgg]
                  rw [run_bind (a := ds) (w' := w) rfl]
                  unfold part
                  rw [run_bind (isAgg_run hok w)]
                  simp only [hag, Bool.false_eq_true, if_false, hd0]
                  rfl
                · exact h.elim
            obtain ⟨v, hv, hrun⟩ := key
            refine ⟨v, fun S a w ha => ?_, hv⟩
            obtain ⟨u, h1, h2⟩ := hrun S a w (ha x (by simp [Op.operands]))
            refine ⟨u, ?_, h2⟩
            simp only [execOp]
            rw [run_bind h1]
            rfl
          · exact h.elim
        · exact h.elim
      · exact h.elim
    · exact h.elim
  | indexAddr t x i =>
    have fin : ∀ v, k v H → (∀ S (a : Operand → Value) w, VR S w (ρ x) (a x) → VR S w (ρ i) (a i) → ∃ u, (Instr.indexAt t (a x) (a i)).run P w = .ok u w ∧ VR S w v u) →
        ∃ v, Pu P ⟨dst, .indexAddr t x i, type, pos, after, guard⟩ ρ v ∧ k v H := by
      intro v hv hrun
      refine ⟨v, fun S a w ha => ?_, hv⟩
      obtain ⟨u, h1, h2⟩ := hrun S a w (ha x (by simp [Op.operands])) (ha i (by simp [Op.operands]))
      refine ⟨u, ?_, h2⟩
      simp only [execOp]
      rw [run_bind h1]
      rfl
    simp only [compI] at h
    split at h
    · rename_i n e hu
      split at h
      · rename_i hok
        have hrun : ∀ (b o : Nat) (kk : IntKind) (j : Int) (w : World), 0 ≤ j → j < n → (Instr.indexAt t (.pointer (some ⟨b, o, none⟩)) (.int kk j)).run P w = .ok (.pointer (some ⟨b, o + j.toNat * P.cellsOf e, none⟩)) w := by
          intro b o kk j w h0 h1
          unfold Instr.indexAt
          rw [run_bind (a := (kk, j)) (w' := w) rfl]
          simp only
          rw [run_bind (underlying_run hu w)]
          simp only [Instr.sureAddr]
          rw [run_bind (a := (⟨b, o, none⟩ : Addr)) (w' := w) rfl]
          rw [run_bind (a := (some (⟨b, o, none⟩ : Addr), n, e)) (w' := w) rfl]
          simp only
          rw [run_bind (underlying_run hu w)]
          rw [if_pos ⟨h0, h1⟩]
          rw [run_bind (sizeOf_run hok w), Addr.add_plain]
          rfl
        simp only [iop] at h
        split at h
        · rename_i b o kk j hx hi
          obtain ⟨h0, h1, h⟩ := h
          refine fin _ h fun S a w hx' hi' => ?_
          rw [hx] at hx'; rw [hi] at hi'
          rw [hx'.pl_inv, hi'.pl_inv]
          exact ⟨_, hrun b o kk j w h0 h1, .pl _⟩
        · rename_i cs kk j hx hi
          obtain ⟨h0, h1, h⟩ := h
          refine fin _ h fun S a w hx' hi' => ?_
          rw [hx] at hx'; rw [hi] at hi'
          rw [hi'.pl_inv]
          generalize a x = u at hx'
          cases hx' with
          | ep b o _ g hS hb hc hv => exact ⟨_, hrun b o kk j w h0 h1, VR.ep_drop hS hb hc hv _⟩
        · exact h.elim
      · exact h.elim
    · rename_i e hu
      split at h
      · rename_i hok
        have hrun : ∀ (b o n c : Nat) (kk : IntKind) (j : Int) (w : World), 0 ≤ j → j < n → (Instr.indexAt t (.slice (some ⟨b, o, none⟩) n c) (.int kk j)).run P w = .ok (.pointer (some ⟨b, o + j.toNat * P.cellsOf e, none⟩)) w := by
          intro b o n c kk j w h0 h1
          unfold Instr.indexAt
          rw [run_bind (a := (kk, j)) (w' := w) rfl]
          simp only
          rw [run_bind (underlying_run hu w)]
          simp only
          rw [run_bind (a := (some (⟨b, o, none⟩ : Addr), n, e)) (w' := w) rfl]
          simp only
          rw [run_bind (underlying_run hu w)]
          rw [if_pos ⟨h0, h1⟩]
          rw [run_bind (sizeOf_run hok w), Addr.add_plain]
          rfl
        simp only [iop] at h
        split at h
        · rename_i b o n sz xx kk j hx hi
          obtain ⟨h0, h1, h⟩ := h
          refine fin _ h fun S a w hx' hi' => ?_
          rw [hx] at hx'; rw [hi] at hi'
          rw [hi'.pl_inv]
          generalize a x = u at hx'
          cases hx' with
          | sl _ _ _ _ c _ C T F _ _ _ _ => exact ⟨_, hrun b o n c kk j w h0 h1, .pl _⟩
        · rename_i n xx cs kk j hx hi
          obtain ⟨h0, h1, h⟩ := h
          refine fin _ h fun S a w hx' hi' => ?_
          rw [hx] at hx'; rw [hi] at hi'
          rw [hi'.pl_inv]
          generalize a x = u at hx'
          cases hx' with
          | vnil => simp at h1; omega
          | vs b o _ c _ _ g hS hn hx2 hb hc hv => exact ⟨_, hrun b o n c kk j w h0 h1, VR.ep_drop hS hb hc hv _⟩
        · exact h.elim
      · exact h.elim
    · exact h.elim
  | index t x i => simp only [compI, iop] at h
  | extract x i =>
    simp only [compI, iop] at h
    split at h
    · rename_i vs hx
      split at h
      · rename_i v hv
        refine ⟨v, fun S a w ha => ?_, h⟩
        have h1 := ha x (by simp [Op.operands])
        rw [hx] at h1
        obtain ⟨ds, hd, hl, hd2⟩ := h1.tp_inv
        have hlt : i < ds.size := hl ▸ (List.getElem?_eq_some_iff.1 hv).1
        have hdi : ds[i]? = some ds[i] := Array.getElem?_eq_getElem hlt
        refine ⟨ds[i], ?_, hd2 i v _ hv hdi⟩
        simp only [execOp, hd, Instr.extract, hdi]
        rfl
      · exact h.elim
    · exact h.elim
  | slice t x lo hi mx =>
    -- the bounds
    have bnd : ∀ (o : Option Operand) (d : Int) (kk : Int → Prop), bndK ρ o d kk → (∀ y, o = some y → y ∈ (Op.slice t x lo hi mx).operands) → ∃ j, kk j ∧ ∀ (S : Nat → Prop) (a : Operand → Value) (w : World), (∀ z ∈ (Op.slice t x lo hi mx).operands, VR S w (ρ z) (a z)) → (o = none ∧ j = d) ∨ ∃ ik, o.map a = some (.int ik j) := by
      intro o d kk h ho
      obtain ⟨j, hj, h1⟩ := bnd_ints (a := fun _ => undef) h
      refine ⟨j, hj, fun S a w ha => ?_⟩
      rcases h1 with h1 | ⟨y, ik, rfl, hy⟩
      · exact .inl h1
      · have := ha y (ho y rfl)
        rw [hy] at this
        exact .inr ⟨ik, by simp [this.pl_inv]⟩
    have oplo : ∀ y, lo = some y → y ∈ (Op.slice t x lo hi mx).operands := fun y hy => by simp [Op.operands, hy]
    have ophi : ∀ y, hi = some y → y ∈ (Op.slice t x lo hi mx).operands := fun y hy => by simp [Op.operands, hy]
    have opmx : ∀ y, mx = some y → y ∈ (Op.slice t x lo hi mx).operands := fun y hy => by simp [Op.operands, hy]
    have sb : ∀ (ik : IntKind) (j : Int) (y : Nat) (c : BoundsCode) (w : World), 0 ≤ j → j ≤ y → (Instr.sliceBound (.int ik j) y c).run P w = .ok j.toNat w := by
      intro ik j y c w h0 h1
      unfold Instr.sliceBound
      rw [run_bind (a := (ik, j)) (w' := w) rfl]
      simp only
      rw [if_pos ⟨h0, h1⟩]
      rfl
    simp only [compI] at h
    split at h
    · rename_i e hu
      split at h
      · rename_i hok
        simp only [Bool.and_eq_true, Bool.or_eq_true] at hok
        obtain ⟨hok, hmx⟩ := hok
        -- the machine's own bounds
        have sbs : ∀ (S : Nat → Prop) (a : Operand → Value) (w : World) (n c : Nat) (l hh m : Int), ((hi = none ∧ hh = n) ∨ ∃ ik, hi.map a = some (.int ik hh)) → ((mx = none ∧ m = hh) ∨ ∃ ik, mx.map a = some (.int ik m)) → ((lo = none ∧ l = 0) ∨ ∃ ik, lo.map a = some (.int ik l)) →
            0 ≤ l → l ≤ hh → hh ≤ n → m = hh → n ≤ c → (Instr.sliceBounds true n c (lo.map a) (hi.map a) (mx.map a)).run P w = .ok (l.toNat, hh.toNat, if mx.isSome then hh.toNat else c) w := by
          intro S a w n c l hh m h1 h2 h3 g1 g2 g3 g4 g5
          rcases h2 with ⟨rfl, h2⟩ | ⟨ik2, h2⟩
          · simp only [Option.map_none]
            unfold Instr.sliceBounds
            simp only
            rw [run_bind (a := c) (w' := w) rfl]
            rcases h1 with ⟨rfl, h1⟩ | ⟨ik1, h1⟩
            · simp only [Option.map_none]
              rw [run_bind (a := n) (w' := w) rfl]
              rcases h3 with ⟨rfl, h3⟩ | ⟨ik3, h3⟩
              · simp only [Option.map_none]
                rw [run_bind (a := 0) (w' := w) rfl]
                subst h1; subst h3; rfl
              · rw [h3]
                simp only
                rw [run_bind (sb ik3 l n _ w g1 (by omega))]
                subst h1; rfl
            · rw [h1]
              simp only
              rw [run_bind (sb ik1 hh c _ w (by omega) (by omega))]
              rcases h3 with ⟨rfl, h3⟩ | ⟨ik3, h3⟩
              · simp only [Option.map_none]
                rw [run_bind (a := 0) (w' := w) rfl]
                subst h3; rfl
              · rw [h3]
                simp only
                rw [run_bind (sb ik3 l hh.toNat _ w g1 (by omega))]
                rfl
          · rcases h1 with ⟨rfl, h1⟩ | ⟨ik1, h1⟩
            · exfalso
              rcases hmx with hmx | hmx
              · cases mx with
                | none => cases h2
                | some _ => cases hmx
              · cases hmx
            · have hms : mx.isSome = true := by
                cases mx with
                | none => cases h2
                | some _ => rfl
              rw [h1, h2]
              simp only [hms, if_true]
              unfold Instr.sliceBounds
              simp only [if_true]
              rw [run_bind (sb ik2 m c _ w (by omega) (by omega))]
              rw [run_bind (sb ik1 hh m.toNat _ w (by omega) (by omega))]
              rcases h3 with ⟨rfl, h3⟩ | ⟨ik3, h3⟩
              · simp only [Option.map_none]
                rw [run_bind (a := 0) (w' := w) rfl]
                subst h3; subst g4; rfl
              · rw [h3]
                simp only
                rw [run_bind (sb ik3 l hh.toNat _ w g1 (by omega))]
                subst g4; rfl
        have fin : ∀ v, k v H → (∀ (S : Nat → Prop) (a : Operand → Value) (w : World), (∀ z ∈ (Op.slice t x lo hi mx).operands, VR S w (ρ z) (a z)) → ∃ u, (Instr.sliceAt t (a x) (lo.map a) (hi.map a) (mx.map a)).run P w = .ok u w ∧ VR S w v u) →
            ∃ v, Pu P ⟨dst, .slice t x lo hi mx, type, pos, after, guard⟩ ρ v ∧ k v H := by
          intro v hv hrun
          refine ⟨v, fun S a w ha => ?_, hv⟩
          obtain ⟨u, h1, h2⟩ := hrun S a w ha
          refine ⟨u, ?_, h2⟩
          simp only [execOp]
          rw [run_bind h1]
          rfl
        have run : ∀ (S : Nat → Prop) (a : Operand → Value) (w : World) (ad : Option Addr) (n c l hh m : Nat), a x = .slice ad n c → (Instr.sliceBounds true n c (lo.map a) (hi.map a) (mx.map a)).run P w = .ok (l, hh, m) w →
            (Instr.sliceAt t (a x) (lo.map a) (hi.map a) (mx.map a)).run P w = .ok (.slice (if m = l then ad else ad.map (·.add (l * P.cellsOf e))) (hh - l) (m - l)) w := by
          intro S a w ad n c l hh m hx hb
          unfold Instr.sliceAt
          rw [run_bind (underlying_run hu w)]
          simp only [hx]
          unfold Instr.slice
          rw [run_bind (underlying_run hu w)]
          simp only
          rw [run_bind hb]
          simp only
          rw [run_bind (sizeOf_run hok w)]
          rfl
        have opx : x ∈ (Op.slice t x lo hi mx).operands := by simp [Op.operands]
        have mxc : ∀ (a : Operand → Value) (hh m : Int), (mx = none ∧ m = hh) ∨ (∃ ik, mx.map a = some (.int ik m)) → True := fun _ _ _ _ => trivial
        simp only [iop] at h
        split at h
        · rename_i n xf cs hx
          obtain ⟨hh, h, b1⟩ := bnd _ _ _ h ophi
          obtain ⟨m, h, b2⟩ := bnd _ _ _ h opmx
          obtain ⟨l, h, b3⟩ := bnd _ _ _ h oplo
          obtain ⟨g1, g2, g3, g4, h⟩ := h
          refine fin _ h fun S a w ha => ?_
          have hv := ha x opx
          rw [hx] at hv
          generalize hxv : a x = xv at hv
          cases hv with
          | vnil _ ad c hc =>
            have e1 : hh = 0 := by simp at g3; omega
            have e2 : l = 0 := by omega
            have hb := sbs S a w 0 c l hh m (b1 S a w ha) (b2 S a w ha) (b3 S a w ha) g1 g2 g3 g4 (Nat.zero_le _)
            subst e1; subst e2
            rw [hxv.symm, run S a w ad 0 c _ _ _ hxv hb]
            refine ⟨_, rfl, ?_⟩
            simp only [Int.toNat_zero, Nat.sub_zero, Nat.zero_mul, List.drop_zero, List.take_zero, Int.sub_zero]
            refine .vnil _ _ _ fun hf => ?_
            cases hm : mx.isSome with
            | true => simp
            | false =>
              simp only [hm, Bool.false_or, Bool.and_eq_true] at hf
              simp [hc hf.1]
          | vs b o _ c _ _ f hS hn hxx hb' hc hv =>
            have hb := sbs S a w n c l hh m (b1 S a w ha) (b2 S a w ha) (b3 S a w ha) g1 g2 g3 g4 hn
            rw [hxv.symm, run S a w (some ⟨b, o, none⟩) n c _ _ _ hxv hb]
            refine ⟨_, rfl, ?_⟩
            have hlen : hh.toNat - l.toNat = (hh - l).toNat := by omega
            rw [hlen]
            by_cases hem : hh = l
            · subst hem
              have e0 : (hh - hh).toNat = 0 := by omega
              rw [e0]
              simp only [Nat.zero_mul, List.take_zero]
              refine .vnil _ _ _ fun hf => ?_
              cases hm : mx.isSome with
              | true => simp
              | false =>
                simp only [hm, Bool.false_or, Bool.and_eq_true, decide_eq_true_eq] at hf
                have := hxx hf.1
                simp
                omega
            · have hne : ¬ ((if mx.isSome = true then hh.toNat else c) = l.toNat) := by
                split <;> omega
              rw [if_neg hne]
              simp only [Option.map_some, Addr.add_plain]
              refine .vs b _ _ _ _ _ (fun j => f (l.toNat * P.cellsOf e + j)) hS (by split <;> omega) ?_ hb' ?_ ?_
              · intro hf
                cases hm : mx.isSome with
                | true => simp; omega
                | false =>
                  simp only [hm, Bool.false_or, Bool.and_eq_true, decide_eq_true_eq] at hf
                  have := hxx hf.1
                  simp
                  omega
              · intro j y hj
                rw [List.getElem?_take] at hj
                split at hj
                · rw [List.getElem?_drop] at hj
                  rw [Nat.add_assoc]
                  exact hc _ y hj
                · cases hj
              · intro j y hj
                rw [List.getElem?_take] at hj
                split at hj
                · rw [List.getElem?_drop] at hj
                  exact hv _ y hj
                · cases hj
        · rename_i b o n sz' xf hx
          obtain ⟨rfl, h⟩ := h
          obtain ⟨hh, h, b1⟩ := bnd _ _ _ h ophi
          obtain ⟨m, h, b2⟩ := bnd _ _ _ h opmx
          obtain ⟨l, h, b3⟩ := bnd _ _ _ h oplo
          obtain ⟨g1, g2, g3, g4, h1, h2, h3⟩ := h
          have flag : ∀ (c : Nat), (xf = true → c = n) → (mx.isSome || (xf && decide (hh = n))) = true → (if mx.isSome = true then hh.toNat else c) = hh.toNat := by
            intro c hxx hf
            cases hm : mx.isSome with
            | true => simp
            | false =>
              simp only [hm, Bool.false_or, Bool.and_eq_true, decide_eq_true_eq] at hf
              have := hxx hf.1
              simp
              omega
          by_cases hl0 : l = 0
          · refine fin _ (h1 hl0) fun S a w ha => ?_
            have hv := ha x opx
            rw [hx] at hv
            generalize hxv : a x = xv at hv
            cases hv with
            | sl _ _ _ _ c _ C T F c1 c2 c3 c4 =>
              have hb := sbs S a w n c l hh m (b1 S a w ha) (b2 S a w ha) (b3 S a w ha) g1 g2 g3 g4 c3
              subst hl0
              rw [hxv.symm, run S a w (some ⟨b, o, none⟩) n c _ _ _ hxv hb]
              refine ⟨_, rfl, ?_⟩
              have e1 : (if (if mx.isSome = true then hh.toNat else c) = (0 : Int).toNat then some (⟨b, o, none⟩ : Addr) else (some (⟨b, o, none⟩ : Addr)).map (·.add ((0 : Int).toNat * P.cellsOf e))) = some ⟨b, o, none⟩ := by
                have eB : (some (⟨b, o, none⟩ : Addr)).map (fun x => x.add ((0 : Int).toNat * P.cellsOf e)) = some ⟨b, o, none⟩ := by simp [Addr.add_plain]
                rw [eB]
                exact ite_self _
              rw [e1]
              simp only [Int.toNat_zero, Nat.sub_zero]
              refine .sl b o _ _ _ _ C T F c1 ?_ (by split <;> omega) (fun hf => flag c c4 hf)
              have : (if mx.isSome = true then hh.toNat else c) ≤ c := by split <;> omega
              have := Nat.mul_le_mul_right (P.cellsOf e) this
              omega
          · by_cases hem : l = hh
            · refine fin _ (h3 hl0 hem) fun S a w ha => ?_
              have hv := ha x opx
              rw [hx] at hv
              generalize hxv : a x = xv at hv
              cases hv with
              | sl _ _ _ _ c _ C T F c1 c2 c3 c4 =>
                have hb := sbs S a w n c l hh m (b1 S a w ha) (b2 S a w ha) (b3 S a w ha) g1 g2 g3 g4 c3
                subst hem
                rw [hxv.symm, run S a w (some ⟨b, o, none⟩) n c _ _ _ hxv hb]
                refine ⟨_, rfl, ?_⟩
                rw [Nat.sub_self]
                refine .vnil _ _ _ fun hf => ?_
                simp [hf]
            · refine fin _ (h2 hl0 (by omega)) fun S a w ha => ?_
              have hv := ha x opx
              rw [hx] at hv
              generalize hxv : a x = xv at hv
              cases hv with
              | sl _ _ _ _ c _ C T F c1 c2 c3 c4 =>
                have hb := sbs S a w n c l hh m (b1 S a w ha) (b2 S a w ha) (b3 S a w ha) g1 g2 g3 g4 c3
                rw [hxv.symm, run S a w (some ⟨b, o, none⟩) n c _ _ _ hxv hb]
                refine ⟨_, rfl, ?_⟩
                have hne : ¬ ((if mx.isSome = true then hh.toNat else c) = l.toNat) := by
                  split <;> omega
                rw [if_neg hne]
                simp only [Option.map_some, Addr.add_plain]
                have hlen : hh.toNat - l.toNat = (hh - l).toNat := by omega
                rw [hlen]
                refine .sl b _ _ _ _ _ C T F c1 ?_ (by split <;> omega) (fun hf => ?_)
                · have hle : l.toNat + ((if mx.isSome = true then hh.toNat else c) - l.toNat) ≤ c := by split <;> omega
                  have := Nat.mul_le_mul_right (P.cellsOf e) hle
                  rw [Nat.add_mul] at this
                  omega
                · rw [flag c c4 hf]; omega
        · rename_i hx
          obtain ⟨hh, h, b1⟩ := bnd _ _ _ h ophi
          obtain ⟨m, h, b2⟩ := bnd _ _ _ h opmx
          obtain ⟨l, h, b3⟩ := bnd _ _ _ h oplo
          obtain ⟨e1, e2, e3, hk⟩ := h
          subst e1; subst e2; subst e3
          refine fin _ hk fun S a w ha => ?_
          have hv := ha x opx
          rw [hx] at hv
          have hb := sbs S a w 0 0 0 0 0 (b1 S a w ha) (b2 S a w ha) (b3 S a w ha) (by omega) (by omega) (by omega) rfl (by omega)
          rw [run S a w none 0 0 _ _ _ hv.pl_inv hb]
          refine ⟨_, rfl, ?_⟩
          cases mx.isSome <;> exact .pl _
        · exact h.elim
      · exact h.elim
    · rename_i hu
      split at h
      · rename_i hmx
        have hmx : mx = none := by simpa using hmx
        subst hmx
        simp only [iop] at h
        split at h
        · rename_i s hx
          obtain ⟨hh, h, b1⟩ := bnd _ _ _ h ophi
          obtain ⟨l, h, b3⟩ := bnd _ _ _ h oplo
          obtain ⟨g1, g2, g3, h⟩ := h
          refine ⟨_, fun S a w ha => ⟨_, ?_, .pl _⟩, h⟩
          have hv := ha x (by simp [Op.operands])
          rw [hx] at hv
          have hb : (Instr.sliceBounds false s.size s.size (lo.map a) (hi.map a) none).run P w = .ok (l.toNat, hh.toNat, s.size) w := by
            unfold Instr.sliceBounds
            simp only
            rw [run_bind (a := s.size) (w' := w) rfl]
            rcases b1 S a w ha with ⟨rfl, h1⟩ | ⟨ik1, h1⟩
            · simp only [Option.map_none]
              rw [run_bind (a := s.size) (w' := w) rfl]
              rcases b3 S a w ha with ⟨rfl, h3⟩ | ⟨ik3, h3⟩
              · simp only [Option.map_none]
                rw [run_bind (a := 0) (w' := w) rfl]
                subst h1; subst h3; rfl
              · rw [h3]
                simp only
                rw [run_bind (sb ik3 l s.size _ w g1 (by omega))]
                subst h1; rfl
            · rw [h1]
              simp only
              rw [run_bind (sb ik1 hh s.size _ w (by omega) (by omega))]
              rcases b3 S a w ha with ⟨rfl, h3⟩ | ⟨ik3, h3⟩
              · simp only [Option.map_none]
                rw [run_bind (a := 0) (w' := w) rfl]
                subst h3; rfl
              · rw [h3]
                simp only
                rw [run_bind (sb ik3 l hh.toNat _ w g1 (by omega))]
                rfl
          have hrun : (Instr.sliceAt t (a x) (lo.map a) (hi.map a) none).run P w = .ok (.string (s.extract l.toNat hh.toNat)) w := by
            unfold Instr.sliceAt
            rw [run_bind (underlying_run hu w)]
            simp only [hv.pl_inv]
            unfold Instr.slice
            rw [run_bind (underlying_run hu w)]
            simp only [Option.isSome_none, Bool.false_eq_true, if_false]
            rw [run_bind hb]
            rfl
          simp only [execOp, Option.map_none]
          rw [run_bind hrun]
          rfl
        · exact h.elim
      · exact h.elim
    · exact h.elim
  | makeFunc fn first cap =>
    cases fn with
    | func f =>
      simp only [compI, iop] at h
      refine ⟨_, fun S a w ha => ⟨_, rfl, ?_⟩, h⟩
      refine .fn f _ _ _ _ (by simp) (by simp) ?_ ?_
      · intro j x v hx hv
        simp only [List.getElem?_map, Option.map_eq_some_iff] at hx
        obtain ⟨y, hy, rfl⟩ := hx
        simp only [Array.getElem?_map, Option.map_eq_some_iff] at hv
        obtain ⟨z, hz, rfl⟩ := hv
        have : first[j]? = some y := by simpa using hy
        rw [this] at hz
        obtain rfl := Option.some.inj hz
        exact ha y (by simp [Op.operands, Array.mem_of_getElem? this])
      · intro j x v hx hv
        simp only [List.getElem?_map, Option.map_eq_some_iff] at hx
        obtain ⟨y, hy, rfl⟩ := hx
        simp only [Array.getElem?_map, Option.map_eq_some_iff] at hv
        obtain ⟨z, hz, rfl⟩ := hv
        have : cap[j]? = some y := by simpa using hy
        rw [this] at hz
        obtain rfl := Option.some.inj hz
        exact ha y (by simp [Op.operands, Array.mem_of_getElem? this])
    | _ => simp only [compI, iop] at h
  | call c =>
    obtain ⟨callee, args, argTypes⟩ := c
    cases callee with
    | builtin b =>
      have mm : ∀ mx : Bool, iop P ρ H k (.minmax mx args.toList) → b = (if mx then .max else .min) → ∃ v, Pu P ⟨dst, .call ⟨.builtin b, args, argTypes⟩, type, pos, after, guard⟩ ρ v ∧ k v H := by
        intro mx h hb
        simp only [iop] at h
        split at h
        · rename_i j a0 r hr
          have key : ∃ u, k (.pl u) H ∧ ∀ S (a : Operand → Value) w, (∀ x ∈ args, VR S w (ρ x) (a x)) → (match (args.map a).toList with | [] => (stuck "" : Sem Value) | x :: rest => rest.foldlM (if mx then Builtin.max2 else Builtin.min2) x).run P w = .ok u w := by
            have kk : ∀ S (a : Operand → Value) w, (∀ x ∈ args, VR S w (ρ x) (a x)) → ∃ rest, (args.map a).toList = .int j a0 :: rest ∧ VRs S w r rest := by
              intro S a w ha
              have e1 : (args.map a).toList = args.toList.map a := Array.toList_map ..
              rw [e1]
              cases hl : args.toList with
              | nil => rw [hl] at hr; cases hr
              | cons x l =>
                rw [hl] at hr
                simp only [List.map_cons, List.cons.injEq] at hr ⊢
                have hx := ha x (by rw [← Array.mem_toList_iff, hl]; simp)
                rw [hr.1] at hx
                refine ⟨l.map a, ⟨hx.pl_inv, rfl⟩, by rw [← hr.2]; simp, fun i y z hy hz => ?_⟩
                rw [← hr.2] at hy
                simp only [List.getElem?_map, Option.map_eq_some_iff] at hy hz
                obtain ⟨p, hp, rfl⟩ := hy
                obtain ⟨q, hq, rfl⟩ := hz
                rw [hp] at hq
                obtain rfl := Option.some.inj hq
                exact ha p (by rw [← Array.mem_toList_iff, hl]; exact List.mem_cons_of_mem _ (List.mem_of_getElem? hp))
            have gen : ∀ (l : List AV) (a0 : Int), minmaxK mx j a0 l (fun v => k (.pl v) H) → ∃ u, k (.pl u) H ∧ ∀ S w (vs : List Value), VRs S w l vs → ((vs.foldlM (if mx then Builtin.max2 else Builtin.min2) (.int j a0) : Sem Value)).run P w = .ok u w := by
              intro l
              induction l with
              | nil =>
                intro a0 h
                refine ⟨_, h, fun S w vs hv => ?_⟩
                have : vs = [] := List.length_eq_zero_iff.1 hv.1.symm
                subst this
                rfl
              | cons x l ih =>
                intro a0 h
                unfold minmaxK at h
                split at h
                · rename_i heq; cases heq
                · rename_i j' b' r' heq
                  obtain ⟨rfl, rfl⟩ := List.cons.inj heq
                  obtain ⟨rfl, h⟩ := h
                  obtain ⟨u, hu, hrun⟩ := ih _ h
                  refine ⟨u, hu, fun S w vs hv => ?_⟩
                  cases vs with
                  | nil => cases hv.1
                  | cons v vs =>
                    have h0 := hv.2 0 _ v rfl rfl
                    obtain rfl := h0.pl_inv
                    have := hrun S w vs ⟨by have := hv.1; simpa using this, fun i y z hy hz => hv.2 (i + 1) y z (by simpa using hy) (by simpa using hz)⟩
                    simp only [List.foldlM_cons]
                    cases mx with
                    | true => simpa [Builtin.max2, min2I, bind, Sem.bind, pure] using this
                    | false => simpa [Builtin.min2, min2I, bind, Sem.bind, pure] using this
                · exact h.elim
            obtain ⟨u, hu, hrun⟩ := gen r a0 h
            refine ⟨u, hu, fun S a w ha => ?_⟩
            obtain ⟨rest, h1, h2⟩ := kk S a w ha
            rw [h1]
            exact hrun S w rest h2
          obtain ⟨u, hu, hrun⟩ := key
          refine ⟨_, fun S a w ha => ⟨u, ?_, .pl _⟩, hu⟩
          have h1 := hrun S a w (fun x hx => ha x (by simp [Op.operands, Call.operands, hx]))
          subst hb
          cases mx with
          | true =>
            simp only [execOp, resolve, if_true]
            rw [run_bind (a := (⟨.builtin .max argTypes type (args.map fun | .const _ => true | _ => false), args.map a⟩ : Deferred)) (w' := w) rfl]
            simp only [invoke, builtin]
            rw [run_bind (a := u) (w' := w) ?_]
            · rfl
            · unfold Builtin.max_
              simp only [if_true] at h1
              split at h1
              · cases h1
              · rename_i heq; rw [heq]; exact h1
          | false =>
            simp only [execOp, resolve, Bool.false_eq_true, if_false]
            rw [run_bind (a := (⟨.builtin .min argTypes type (args.map fun | .const _ => true | _ => false), args.map a⟩ : Deferred)) (w' := w) rfl]
            simp only [invoke, builtin]
            rw [run_bind (a := u) (w' := w) ?_]
            · rfl
            · unfold Builtin.min_
              simp only [Bool.false_eq_true, if_false] at h1
              split at h1
              · cases h1
              · rename_i heq; rw [heq]; exact h1
        · exact h.elim
      cases b with
      | min => exact mm false h rfl
      | max => exact mm true h rfl
      | cap =>
        simp only [compI] at h
        split at h
        · rename_i x t hargs htypes
          obtain rfl : args = #[x] := by apply Array.toList_inj.1; exact hargs
          obtain rfl : argTypes = #[t] := by apply Array.toList_inj.1; exact htypes
          split at h
          · rename_i e hu
            have go : ∀ (a : Operand → Value) w (b : Option Addr) (n c : Nat), a x = .slice b n c →
                (execOp a ⟨dst, .call ⟨.builtin .cap, #[x], #[t]⟩, type, pos, after, guard⟩).run P w = .ok (.value (.int .i64 c)) w := by
              intro a w b n c hx
              simp only [execOp, resolve]
              rw [run_bind (a := (⟨.builtin .cap #[t] type (#[x].map fun | .const _ => true | _ => false), #[x].map a⟩ : Deferred)) (w' := w) rfl]
              simp only [invoke, builtin]
              have h1 : (Builtin.cap_ #[t] type (#[x].map a)).run P w = .ok (.int .i64 c) w := by
                have e : #[x].map a = #[a x] := by simp
                rw [e, hx]
                simp only [Builtin.cap_]
                show ((underlying t >>= fun d => _) : Sem Value).run P w = _
                rw [run_bind (underlying_run hu w)]
                rfl
              rw [run_bind h1]
              rfl
            simp only [iop] at h
            split at h
            · rename_i b n c hx
              refine ⟨_, fun S a w ha => ⟨_, go a w b n c ?_, .pl _⟩, h⟩
              have h1 := ha x (by simp [Op.operands, Call.operands])
              rw [hx] at h1
              exact h1.pl_inv
            · rename_i b o n sz hx
              refine ⟨_, fun S a w ha => ?_, h⟩
              have h1 := ha x (by simp [Op.operands, Call.operands])
              rw [hx] at h1
              generalize hax : a x = ax at h1
              cases h1 with
              | sl _ _ _ _ c _ C T F g1 g2 g3 g4 =>
                obtain rfl := g4 rfl
                exact ⟨_, go a w _ _ _ hax, .pl _⟩
            · rename_i n cs hx
              refine ⟨_, fun S a w ha => ?_, h⟩
              have h1 := ha x (by simp [Op.operands, Call.operands])
              rw [hx] at h1
              generalize hax : a x = ax at h1
              cases h1 with
              | vnil _ b c g1 =>
                obtain rfl := g1 rfl
                exact ⟨_, go a w _ _ _ hax, .pl _⟩
              | vs b o _ c _ _ f g1 g2 g3 =>
                obtain rfl := g3 rfl
                exact ⟨_, go a w _ _ _ hax, .pl _⟩
            · exact h.elim
          · exact h.elim
        · exact h.elim
      | _ => simp [kindOf] at hk
    | _ => simp [kindOf] at hk
  | _ => simp [kindOf] at hk
end
end Go.Ab
