/-
  Rows whose table of numbers is laid by the program's text: the table as cells that don't change.
-/
import Derived.Test.YtohedpgoioemnaaGreatDoorAbL
import Derived.LaidHandle
namespace Go.Ab
open Go.RowKit Go.ChangeShapes Go.WideShapes
set_option linter.unusedSimpArgs false
set_option linter.unusedVariables false

section
variable {H : Type} {enc : TypeId × Value → H} {P : Program} {w : World} {base : Nat} {spare : Nat → Bool} {held : Bool}

theorem mapM_ints {k : IntKind} (f : Nat → Option (DataW H × List MemPlace)) : ∀ (L : List Nat) (xs : List (DataW H × List MemPlace)) (ns : List Int), L.mapM f = some xs → xs.map (·.1) = ns.map (fun z => .lit (.int k z)) →
    L.length = ns.length ∧ ∀ (j i : Nat) (z : Int), L[j]? = some i → ns[j]? = some z → ∃ p, f i = some (.lit (.int k z), p)
  | [], xs, ns, h, he => by
    simp only [List.mapM_nil, Option.pure_def, Option.some.injEq] at h
    subst h
    cases ns with
    | nil => exact ⟨rfl, fun j i z h => by simp at h⟩
    | cons z r => simp at he
  | a :: L, xs, ns, h, he => by
    rw [List.mapM_cons] at h
    simp only [Option.bind_eq_bind, Option.bind_eq_some_iff, Option.pure_def, Option.some.injEq] at h
    obtain ⟨y, hy, ys, hys, rfl⟩ := h
    cases ns with
    | nil => simp at he
    | cons z r =>
      simp only [List.map_cons, List.cons.injEq] at he
      obtain ⟨h1, h2⟩ := mapM_ints f L ys r hys he.2
      refine ⟨by simp [h1], fun j i z' hj hz => ?_⟩
      cases j with
      | zero =>
        simp at hj hz
        subst hj; subst hz
        exact ⟨y.2, by rw [hy, ← he.1]⟩
      | succ j => exact h2 j i z' (by simpa using hj) (by simpa using hz)

theorem int_cell {fuel : Nat} {e : TypeId} {k : IntKind} (he : P.underlying e = some (.int k)) {c : Value} {z : Int} {p : List MemPlace} (h : DataW.trod enc P w base spare held fuel e [c] = some (.lit (.int k z), p)) : c = .int k z := by
  cases fuel with
  | zero => simp [DataW.trod] at h
  | succ fuel =>
    unfold DataW.trod at h
    rw [he] at h
    cases c <;> simp at h
    obtain ⟨⟨rfl, _⟩, rfl, _⟩ := h
    rfl

theorem trod_ints {fuel m : Nat} {t e : TypeId} {k : IntKind} {cs : List Value} {ns : List Int} {ps : List MemPlace} (hu : P.underlying t = some (.array m e)) (he : P.underlying e = some (.int k)) (hce : P.cellsOf e = 1) (hct : P.cellsOf t = m)
    (h : DataW.trod enc P w base spare held fuel t cs = some (.agg (ns.map fun z => .lit (.int k z)), ps)) : cs = ns.map (Value.int k) := by
  cases fuel with
  | zero => simp [DataW.trod] at h
  | succ fuel =>
    unfold DataW.trod at h
    rw [hu] at h
    have h : ∃ xs : List (DataW H × List MemPlace), cs.length = P.cellsOf t ∧ (List.range m).mapM (fun i => DataW.trod enc P w base spare held fuel e ((cs.drop (i * P.cellsOf e)).take (P.cellsOf e))) = some xs ∧ xs.map (·.1) = ns.map (fun z => .lit (.int k z)) := by
      split at h <;> rename_i hm <;> first | (cases hm; done) | skip
      · cases hm
        split at h
        · rename_i hlen
          simp only [Option.map_eq_some_iff] at h
          obtain ⟨xs, h1, h2⟩ := h
          simp only [Prod.mk.injEq, DataW.agg.injEq] at h2
          exact ⟨xs, hlen, h1, h2.1⟩
        · cases h
      all_goals first | cases h | simp_all
    obtain ⟨xs, hlen, h1, h2⟩ := h
    obtain ⟨h3, h4⟩ := mapM_ints _ _ _ _ h1 h2
    simp only [List.length_range] at h3
    apply List.ext_getElem?
    intro j
    rcases Nat.lt_or_ge j m with hj | hj
    · have hz : ns[j]? = some ns[j] := List.getElem?_eq_getElem (by omega)
      obtain ⟨p, hp⟩ := h4 j j ns[j] (by simp [hj]) hz
      rw [hce, Nat.mul_one] at hp
      have hjc : j < cs.length := by omega
      have hd : (cs.drop j).take 1 = [cs[j]] := by rw [List.drop_eq_getElem_cons hjc]; rfl
      rw [hd] at hp
      have := int_cell he hp
      rw [List.getElem?_map, hz, List.getElem?_eq_getElem hjc, this]
      rfl
    · rw [List.getElem?_eq_none (by omega), List.getElem?_eq_none (by simp; omega)]

/-- The view in which one variable is told. -/
def tabH (g : Nat) (cs : List AV) : AH := fun b => if b = g then some (.ro cs) else none
theorem tabH_ro (g : Nat) (cs : List AV) : Ro g cs (tabH g cs) := by simp [Ro, tabH]

theorem law_contract_laid {name : String} {g m : Nat} {t e : TypeId} {k : IntKind} {ns : List Int} (hg : P.globalNamed name = some g) (ht : (P.globals[g]?).map (·.type) = some t) (hu' : P.underlying t = some (.array m e)) (he : P.underlying e = some (.int k))
    (hce : P.cellsOf e = 1) (hct : P.cellsOf t = m)
    {f : FuncId} {fn : Func} {s : ChangeSpec} {L : List (Bool × List Lf)} (hlo : laidOutB P = true) (hL : leafsAll P fn.params.toList = some L)
    (hvars : s.vars = []) (hspec : ∀ (ds : List (DataW H)), ds.length = fn.params.toList.length → (s.fn H ds).results = [.lit (.bool true)] ∧ (s.fn H ds).args = ds ∧ (s.fn H ds).vars = [])
    (hres : ∃ t, fn.resultTypes.toList = [t] ∧ P.underlying t = some .bool) (hread : ∀ t ∈ fn.params.toList, P.readableRec t = true ∧ t < P.types.size)
    (h : ∀ as, FitsT L as → ACall P f as (tabH g (ns.map fun z => .pl (.int k z))) (fun v _ => v = .pl (.bool true)))
    (W : World) (hlaid : laidMet P [(name, .agg (ns.map fun z => .lit (.int k z)))] W) (base : Nat) (args : Array Value) (ds gs : List (DataW H)) (before : List MemPlace)
    (hval : ∀ (j : Nat) t v, fn.params[j]? = some t → args[j]? = some v → Value.okWide P W .any base t v)
    (hW : DataW.Whole enc P fn.params.toList s.vars false W args.toList ds gs before) :
    Calls P f args W fun e W' => ∃ v, e = .returned v ∧ s.post enc P fn false true false false W args v W' := by
  refine law_contractH hlo hL hvars hspec hres hread _ h W ?_ base args ds gs before hval hW
  obtain ⟨ps, ⟨g', t', cs, fuel, p, q, hg', ht', hvar, hd, _, _⟩, _⟩ := hlaid
  obtain rfl := Option.some.inj (hg.symm.trans hg')
  obtain rfl := Option.some.inj (ht.symm.trans ht')
  have hcs := trod_ints hu' he hce hct hd
  have hheap : ∃ T F, W.heap[g]? = some (.cells cs T F) := by
    simp only [World.var?, hg, Option.bind_some] at hvar
    split at hvar
    · rename_i T F hh
      obtain rfl := Option.some.inj hvar
      exact ⟨_, _, hh⟩
    · cases hvar
  obtain ⟨T, F, hh⟩ := hheap
  have hlt : g < W.heap.size := by
    rcases Nat.lt_or_ge g W.heap.size with h | h
    · exact h
    · rw [Array.getElem?_eq_none h] at hh; cases hh
  have one : ∀ b o, tabH g (ns.map fun z => AV.pl (.int k z)) b = some o → b = g ∧ o = .ro (ns.map fun z => .pl (.int k z)) := by
    intro b o hb
    unfold tabH at hb
    split at hb
    · rename_i e; exact ⟨e, (Option.some.inj hb).symm⟩
    · cases hb
  refine ⟨Below.refl _ _, fun b hb => hb, fun b hb => hb, ?_, ?_, ?_⟩
  · intro b o hb; obtain ⟨rfl, _⟩ := one b o hb; exact hlt
  · intro b hb
    exfalso
    unfold tabH at hb
    split at hb <;> cases hb
  · intro b o hb
    obtain ⟨rfl, rfl⟩ := one b o hb
    have hsz : cs.size = ns.length := by rw [← Array.length_toList, hcs]; simp
    refine ⟨hlt, cs, T, F, hh, by simp [hsz], fun j a v ha hv => ?_⟩
    have hv' : cs.toList[j]? = some v := by simpa using hv
    rw [hcs] at hv'
    simp only [List.getElem?_map, Option.map_eq_some_iff] at ha hv'
    obtain ⟨z, hz, rfl⟩ := ha
    obtain ⟨z', hz', rfl⟩ := hv'
    rw [hz] at hz'
    obtain rfl := Option.some.inj hz'
    exact .pl _
end
end Go.Ab
