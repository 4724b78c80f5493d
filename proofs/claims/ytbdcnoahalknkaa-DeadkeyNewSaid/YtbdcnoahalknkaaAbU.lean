/-
  Rows whose first argument is a slice: its size is bounded by the row's own reach.
-/
import Derived.Test.YtbdcnoahalknkaaAbL
namespace Go.Ab
open Go.RowKit Go.ChangeShapes Go.WideShapes
set_option linter.unusedSimpArgs false
set_option linter.unusedVariables false
section
variable {H : Type} {enc : TypeId × Value → H} {P : Program}

theorem mapM_len {α β : Type} {f : α → Option β} : ∀ (l : List α) (r : List β), l.mapM f = some r → r.length = l.length
  | [], r, h => by
    simp only [List.mapM_nil, Option.pure_def, Option.some.injEq] at h
    subst h; rfl
  | a :: l, r, h => by
    rw [List.mapM_cons] at h
    simp only [Option.bind_eq_bind, Option.bind_eq_some_iff, Option.pure_def, Option.some.injEq] at h
    obtain ⟨y, _, ys, hys, rfl⟩ := h
    simp [mapM_len l ys hys]
theorem first_size {S : Nat → Prop} {W : World} {t e : TypeId} {ts : List TypeId} {v : Value} {vs : List Value} {d : DataW H} {ds : List (DataW H)} {p : List MemPlace} (hu : P.underlying t = some (.slice e))
    (hT : DataW.TrodAll enc P W 0 (fun _ => true) true (t :: ts) (v :: vs) (d :: ds) p) {ts' : List TypeId} {ds' : List (DataW H)} (hw : (DataW.weightsEach P (t :: ts') (d :: ds')).all (· ≤ reachBytes) = true) {n : Nat} {f : Bool} {cs : List AV} (hx : VR S W (.vs n f cs) v) : n * P.bytesOf e ≤ reachBytes := by
  obtain ⟨v', vs', d', ds'', p', q, hv, hd, _, h1, _⟩ := trodAll_cons hT
  obtain ⟨rfl, rfl⟩ := List.cons.inj hv
  obtain ⟨rfl, rfl⟩ := List.cons.inj hd
  obtain ⟨fuel, h1⟩ := h1
  obtain ⟨a, c, rfl⟩ : ∃ a c, v = .slice a n c := by
    cases hx with
    | vnil x a c => exact ⟨a, c, rfl⟩
    | vs b o n c => exact ⟨_, c, rfl⟩
  have h2 : d.weights P t = d.weights P t := rfl
  cases fuel with
  | zero => simp [DataW.trod] at h1
  | succ fuel =>
    rw [show (Value.slice a n c).cells.toList = [.slice a n c] from rfl] at h1
    unfold DataW.trod at h1
    rw [hu] at h1
    cases a with
    | none =>
      have : n = 0 := by
        cases n with
        | zero => rfl
        | succ n => simp at h1
      subst this; simp
    | some a =>
      simp only at h1
      split at h1
      · simp only [Option.bind_eq_some_iff, Option.map_eq_some_iff] at h1
        obtain ⟨elems, h3, rest, h4, h5⟩ := h1
        have hlen : elems.length = n := by
          have := mapM_len _ _ h3
          simpa using this
        obtain ⟨rfl, _⟩ := Prod.mk.inj h5
        have h6 : (elems.map (·.1)).length + (rest.map (·.1)).length = n + rest.length := by simp [hlen]
        simp only [DataW.weightsEach, List.all_append, Bool.and_eq_true, DataW.weights, hu, List.all_cons, decide_eq_true_eq, h6] at hw
        have := hw.1.1
        have h7 : n * P.bytesOf e ≤ (n + rest.length) * P.bytesOf e := Nat.mul_le_mul_right _ (by omega)
        omega
      · cases h1

theorem law_contractS {f : FuncId} {fn : Func} {s : ChangeSpec} {L : List (Bool × List Lf)} {t0 e0 : TypeId} {tr : List TypeId} (hlo : laidOutB P = true) (hL : leafsAll P fn.params.toList = some L) (hp : fn.params.toList = t0 :: tr) (hu0 : P.underlying t0 = some (.slice e0))
    (hvars : s.vars = []) (hspec : ∀ (ds : List (DataW H)), ds.length = fn.params.toList.length → (s.fn H ds).results = [.lit (.bool true)] ∧ (s.fn H ds).args = ds ∧ (s.fn H ds).vars = [])
    (hres : ∃ t, fn.resultTypes.toList = [t] ∧ P.underlying t = some .bool) (hread : ∀ t ∈ fn.params.toList, P.readableRec t = true ∧ t < P.types.size)
    (h : ∀ as, FitsT L as → (∀ n g cs, as[0]? = some (.vs n g cs) → n * P.bytesOf e0 ≤ reachBytes) → ACall P f as (fun _ => none) (fun v _ => v = .pl (.bool true)))
    (W : World) (base : Nat) (args : Array Value) (ds gs : List (DataW H)) (before : List MemPlace)
    (hval : ∀ (j : Nat) t v, fn.params[j]? = some t → args[j]? = some v → Value.okWide P W .any base t v)
    (hW : DataW.Whole enc P fn.params.toList s.vars false W args.toList ds gs before)
    (hz : (DataW.weightsEach P (fn.params.toList ++ s.plain.varTypes P) (ds ++ gs)).all (· ≤ reachBytes) = true) :
    Calls P f args W fun e W' => ∃ v, e = .returned v ∧ s.post enc P fn false true false false W args v W' := by
  have hRH : RH (fun b => b < W.heap.size) W (fun _ => none) W := ⟨Below.refl _ _, fun b hb => hb, fun b hb => hb, fun k o h => (by cases h), fun k h => (by cases h), fun k o h => (by cases h)⟩
  obtain ⟨t1, hrt, hu⟩ := hres
  have hW0 := hW
  obtain ⟨p, q, hA, hV, hpq, hfz, _⟩ := hW
  rw [hvars] at hV
  obtain ⟨rfl, rfl⟩ := trodVars_none hV
  obtain ⟨as, h1, h2, h3⟩ := args_told _ _ _ _ _ hL (fun j t v ht hv => hval j t v (by simpa using ht) (by simpa using hv)) hA
  have hsz : ∀ n g cs, as[0]? = some (.vs n g cs) → n * P.bytesOf e0 ≤ reachBytes := by
    intro n g cs ha
    have hA' := hA
    rw [hp] at hA'
    obtain ⟨v, vs, d, ds', p1, q1, e1, e2, _, _, _⟩ := trodAll_cons hA'
    rw [e1, e2] at hA'
    have hv := h1.2 0 _ v ha (by rw [e1]; rfl)
    rw [hp, e2, List.cons_append, List.cons_append] at hz
    exact first_size hu0 hA' (ts' := tr ++ s.plain.varTypes P) (ds' := ds' ++ []) hz hv
  refine (h as h2 hsz _ W W args hRH h1).mono ?_
  rintro e W' ⟨u, S', x, H', rfl, hE, hR, hx, rfl⟩
  cases hx
  obtain ⟨pa, hpa⟩ := trodAll_below (enc := enc) hlo hR.below _ _ _ _ hread hA
  obtain ⟨e1, e2, e3⟩ := hspec ds h3
  have hsz1 : fn.resultTypes.size = 1 := by rw [← Array.length_toList, hrt]; rfl
  refine ⟨_, rfl, ds, [], before, [], pa, [], hW0, ?_, ?_, ?_, hR.below.frame _, fun h => by cases h⟩
  · rw [List.append_nil, e1, hrt, hsz1]
    exact trodAll_mk1 (shut_bool hu true)
  · rw [List.append_nil, e2]
    exact hpa
  · rw [List.append_nil, e3, hvars]
    rfl
end
end Go.Ab
