/-
  Functions; what is told less of; a row that will not change any more.
-/
import Derived.Test.YtmpncpamndhmcaaGreatAbH
namespace Go.Ab
open Go.RowKit
set_option linter.unusedSimpArgs false
set_option linter.unusedVariables false

/-! ### Functions -/
def opSlots (o : Oper) : List Nat := o.dst.toList ++ o.op.operands.toList.filterMap fun | .tmp t => some t | _ => none

/-- The slots that each region, each test looks at. -/
def slotSets : Code → List (List Nat)
  | .seq a b => slotSets a ++ slotSets b
  | .region _ ops _ => [(ops.toList.flatMap opSlots).eraseDups]
  | .cond c a b => (match c with | .tmp t => [[t]] | _ => []) ++ slotSets a ++ slotSets b
  | .block _ a | .loop a | .scope a => slotSets a
  | .rangeFunc f ps a b => [(match f with | .tmp t => [t] | _ => []) ++ ps.toList] ++ slotSets a ++ slotSets b
  | _ => []

def resSlots (fn : Func) : List Nat := fn.results.toList.map fun | .tmp t => t | .cell a _ => a

def keepOf (fn : Func) (c : Code) : List Nat :=
  let sets := slotSets c ++ [resSlots fn, List.range (fn.params.size + fn.nfree)]
  (List.range fn.ntmps).filter fun t => decide (2 ≤ (sets.filter (·.contains t)).length)

/-- A result: a slot, or a variable. -/
inductive RV where
  | t (t : Nat)
  | c (t : Nat) (agg : Bool) (sz : Nat)

structure CF where
  n : Nat
  keep : List Nat
  body : CC
  res : List RV

def resOf (P : Program) : ResultVar → Option RV
  | .tmp t => some (.t t)
  | .cell a t => if okT P t then some (.c a (aggB P t) (if aggB P t then P.cellsOf t else 1)) else none

def compF (P : Program) (f : FuncId) : Option CF :=
  match P.funcs[f]? with
  | some fn => match fn.body with
    | some c => match comp P (keepOf fn c) c, fn.results.toList.mapM (resOf P) with
      | some cc, some rs => some ⟨fn.ntmps, keepOf fn c, cc, rs⟩
      | _, _ => none
    | none => none
  | none => none

def rvK (s : ASt) (k : AV → Prop) : RV → Prop
  | .t t => k (s.t t)
  | .c t agg sz => seeK s.H (s.t t) sz fun cs => oneK agg cs k

def rvsK (s : ASt) : List RV → (List AV → Prop) → Prop
  | [], k => k []
  | r :: rs, k => rvK s (fun v => rvsK s rs fun vs => k (v :: vs)) r

def resK (s : ASt) (rs : List RV) (k : AV → Prop) : Prop :=
  match rs with
  | [r] => rvK s k r
  | rs => rvsK s rs fun vs => k (.tp vs)

def startA (cf : CF) (args : List AV) (H : AH) : ASt := ⟨cf.n, env (cf.keep.map fun k => (k, args.getD k .any)), H⟩

def endA (cf : CF) (K : AV → AH → Prop) (e : Exit) (s : ASt) : Prop := (e = .normal ∨ e = .ret) ∧ resK s cf.res fun v => K v s.H

def resV (a : Act) : ResultVar → Sem Value
  | .tmp t => pure (a.tmps.getD t undef)
  | .cell ad t => do loadVar t (← asAddr (a.tmps.getD ad undef))

theorem rv_sound {P : Program} {s : ASt} {k : AV → Prop} {rv : ResultVar} {r : RV} (hr : resOf P rv = some r) (h : rvK s k r) :
    ∃ v, k v ∧ ∀ B S W0 a w, Rel B S W0 s a w → ∃ u, (resV a rv).run P w = .ok u w ∧ VR S w v u := by
  cases rv with
  | tmp t =>
    simp only [resOf, Option.some.injEq] at hr
    subst hr
    refine ⟨_, h, fun B S W0 a w hrel => ⟨_, rfl, ?_⟩⟩
    exact hrel.ev (.tmp t)
  | cell ad t =>
    simp only [resOf] at hr
    split at hr
    · rename_i hok
      obtain rfl := Option.some.inj hr
      simp only [rvK] at h
      obtain ⟨v, hv, hrun⟩ := load_sound hok h
      refine ⟨v, hv, fun B S W0 a w hrel => ?_⟩
      have h1 := hrel.ev (.tmp ad)
      obtain ⟨r, h2, h3⟩ := hrun S W0 w _ hrel.heap h1
      refine ⟨r, ?_, h3⟩
      -- the address is one
      have hp : ∃ x, a.eval (.tmp ad) = .pointer (some x) := by
        unfold Instr.loadAt Instr.sureAddr at h2
        cases hh : a.eval (.tmp ad) with
        | pointer y =>
          cases y with
          | some x => exact ⟨x, rfl⟩
          | none => rw [hh] at h2; cases h2
        | _ => rw [hh] at h2; cases h2
      obtain ⟨x, hx⟩ := hp
      have e : a.tmps.getD ad undef = .pointer (some x) := hx
      simp only [resV, e, asAddr]
      rw [run_bind (a := x) (w' := w) rfl]
      unfold Instr.loadAt at h2
      rw [hx] at h2
      simp only [Instr.sureAddr] at h2
      rw [run_bind (a := x) (w' := w) rfl] at h2
      exact h2
    · cases hr

theorem rvs_sound {P : Program} {s : ASt} : ∀ (rvs : List ResultVar) (rs : List RV) (k : List AV → Prop), rvs.mapM (resOf P) = some rs → rvsK s rs k →
    ∃ vs, vs.length = rvs.length ∧ k vs ∧ ∀ B S W0 a w, Rel B S W0 s a w → ∃ us, (rvs.mapM (resV a)).run P w = .ok us w ∧ VRs S w vs us
  | [], rs, k, hm, h => by
    simp only [List.mapM_nil, Option.pure_def, Option.some.injEq] at hm
    subst hm
    exact ⟨[], rfl, h, fun B S W0 a w _ => ⟨[], rfl, rfl, fun j a v ha => by simp at ha⟩⟩
  | rv :: rvs, rs, k, hm, h => by
    rw [List.mapM_cons] at hm
    simp only [Option.bind_eq_bind, Option.bind_eq_some_iff, Option.pure_def, Option.some.injEq] at hm
    obtain ⟨r, hr, rs', hrs, rfl⟩ := hm
    simp only [rvsK] at h
    obtain ⟨v, h, hv⟩ := rv_sound hr h
    obtain ⟨vs, hl, h, hvs⟩ := rvs_sound rvs rs' _ hrs h
    refine ⟨v :: vs, by simp [hl], h, fun B S W0 a w hrel => ?_⟩
    obtain ⟨u, h1, h2⟩ := hv B S W0 a w hrel
    obtain ⟨us, h3, h4⟩ := hvs B S W0 a w hrel
    refine ⟨u :: us, ?_, by simp [h4.1], fun j x y hx hy => ?_⟩
    · rw [List.mapM_cons, run_bind h1, run_bind h3]
      rfl
    · cases j with
      | zero => simp at hx hy; subst hx; subst hy; exact h2
      | succ j => exact h4.2 j x y (by simpa using hx) (by simpa using hy)

theorem res_sound {P : Program} {fn : Func} {s : ASt} {rs : List RV} {k : AV → Prop} (hm : fn.results.toList.mapM (resOf P) = some rs) (h : resK s rs k) : ∃ v, ResR P fn s v ∧ k v := by
  have arr : ∀ (a : Act) (w : World) (us : List Value), (fn.results.toList.mapM (resV a)).run P w = .ok us w →
      (results fn a.tmps).run P w = .ok (if h : us.toArray.size = 1 then us.toArray[0] else .tuple us.toArray) w := by
    intro a w us hus
    have e : results fn a.tmps = (fn.results.mapM (resV a) >>= fun vs => pure (if h : vs.size = 1 then vs[0] else .tuple vs)) := by
      unfold results
      congr 1
    have : (fn.results.mapM (resV a)).run P w = .ok us.toArray w := by
      rw [Array.mapM_eq_mapM_toList, Sem.run_map, hus]
      rfl
    rw [e, run_bind this]
    rfl
  have gen : ∀ k, rvsK s rs k → ∃ vs, vs.length = fn.results.toList.length ∧ k vs ∧ ∀ B S W0 a w, Rel B S W0 s a w → ∃ us, (results fn a.tmps).run P w = .ok (if h : us.toArray.size = 1 then us.toArray[0] else .tuple us.toArray) w ∧ VRs S w vs us := by
    intro k h
    obtain ⟨vs, h0, h1, h2⟩ := rvs_sound _ _ k hm h
    refine ⟨vs, h0, h1, fun B S W0 a w hrel => ?_⟩
    obtain ⟨us, h3, h4⟩ := h2 B S W0 a w hrel
    exact ⟨us, arr a w us h3, h4⟩
  have lens : ∀ (rvs : List ResultVar) (rs : List RV), rvs.mapM (resOf P) = some rs → rvs.length = rs.length := by
    intro rvs
    induction rvs with
    | nil => intro rs h; simp only [List.mapM_nil, Option.pure_def, Option.some.injEq] at h; subst h; rfl
    | cons x l ih =>
      intro rs h
      rw [List.mapM_cons] at h
      simp only [Option.bind_eq_bind, Option.bind_eq_some_iff, Option.pure_def, Option.some.injEq] at h
      obtain ⟨r, _, rs', hrs, rfl⟩ := h
      simp [ih rs' hrs]
  unfold resK at h
  split at h
  · rename_i r
    obtain ⟨vs, _, ⟨v, rfl, hk⟩, h2⟩ := gen (fun vs => ∃ v, vs = [v] ∧ k v) (by
      simp only [rvsK]
      cases r with
      | t t => exact ⟨_, rfl, h⟩
      | c t agg sz =>
        simp only [rvK] at h ⊢
        have mono : ∀ (k1 k2 : List AV → Prop), (∀ cs, k1 cs → k2 cs) → seeK s.H (s.t t) sz k1 → seeK s.H (s.t t) sz k2 := by
          intro k1 k2 hk h
          unfold seeK at h ⊢
          split at h
          · exact ⟨h.1, hk _ h.2⟩
          · split at h
            · exact ⟨h.1, hk _ h.2⟩
            · exact ⟨h.1, hk _ h.2⟩
            · exact h.elim
          · exact h.elim
        refine mono _ _ (fun cs h => ?_) h
        show oneK agg cs _
        unfold oneK at h ⊢
        split
        · rename_i ha; rw [if_pos ha] at h; exact ⟨_, rfl, h⟩
        · rename_i ha
          rw [if_neg ha] at h
          split at h
          · exact ⟨_, rfl, h⟩
          · exact h.elim)
    refine ⟨v, fun B S W0 a w hrel => ?_, hk⟩
    obtain ⟨us, h3, h4⟩ := h2 B S W0 a w hrel
    have hl : us.length = 1 := h4.1.symm
    match us, hl with
    | [u], _ => exact ⟨u, h3, h4.2 0 v u rfl rfl⟩
  · rename_i hne
    obtain ⟨vs, hvl, hk, h2⟩ := gen _ h
    refine ⟨_, fun B S W0 a w hrel => ?_, hk⟩
    obtain ⟨us, h3, h4⟩ := h2 B S W0 a w hrel
    have hlen : us.length = rs.length := by rw [← h4.1, hvl, lens _ _ hm]
    have h1 : us.toArray.size ≠ 1 := by
      intro e
      have : rs.length = 1 := by rw [← hlen]; simpa using e
      obtain ⟨r, hr⟩ := List.length_eq_one_iff.1 this
      exact hne r hr
    rw [dif_neg h1] at h3
    exact ⟨_, h3, .tp vs us.toArray (by simpa using h4.1) (fun j x y hx hy => h4.2 j x y hx (by simpa using hy))⟩

theorem ACall_c {P : Program} {f : FuncId} {args : List AV} {H : AH} {K : AV → AH → Prop} {cf : CF} (hm : P.follows .mixedOrders = true) (hc : compF P f = some cf) (hn : args.length ≤ cf.n)
    (h : wpc P cf.body (endA cf K) (startA cf args H)) : ACall P f args H K := by
  unfold compF at hc
  split at hc
  · rename_i fn hf
    split at hc
    · rename_i c hb
      split at hc
      · rename_i cc rs hcc hrs
        obtain rfl := Option.some.inj hc
        refine ACall_of hf hb hn ?_
        refine T_less (env ((keepOf fn c).map fun k => (k, args.getD k .any))) (fun j => env_less (fun k => args.getD k .any) _ j) ?_
        refine (wpc_sound hm c cc _ _ hcc h).mono ?_
        rintro e s ⟨he, hk⟩
        obtain ⟨v, h1, h2⟩ := res_sound hrs hk
        exact ⟨he, v, h1, h2⟩
      · cases hc
    · cases hc
  · cases hc
end Go.Ab
