/-
  A range over a function: its rounds as abstract steps, and the statement out of the function's contract.
-/
import Derived.Test.YtmpncpamndhmcaaGreatAbG
namespace Go.Ab
open Go.RowKit
set_option linter.unusedSimpArgs false
set_option linter.unusedVariables false

theorem marks_inj : ∀ {a b : List Nat}, marks a = marks b → a = b
  | [], [], _ => rfl
  | [], y :: b, h => by simp [marks] at h
  | x :: a, [], h => by simp [marks] at h
  | x :: a, y :: b, h => by
    simp only [marks, List.map_cons, List.cons.injEq, Deferred.mk.injEq, Target.collected.injEq, and_true] at h
    rw [h.1, marks_inj h.2]

/-- Slots, in order, written. -/
def setAs (n : Nat) : (Nat → AV) → List (Nat × AV) → Nat → AV
  | t, [] => t
  | t, (p, v) :: r => setAs n (setE n t p v) r

/-- A round's end: it goes on, or it has left. -/
def rndQ (l : Nat) (ob : Option Code → AO) (K : AV → AH → Prop) (e : Exit) (s : ASt) : Prop :=
  match e with
  | .normal => K (.pl (.bool true)) (upd s.H l (ob none))
  | .ret => K (.pl (.bool false)) (upd s.H l (ob (some .ret)))
  | .exit id => K (.pl (.bool false)) (upd s.H l (ob (some (.exit id))))
  | _ => False

/-- Behind the function: on behind the statement, or out by the jump that a round has left. -/
def rngK (l : Nat) (ob : Option Code → AO) (Q : Exit → ASt → Prop) (n : Nat) (t : Nat → AV) (_ : AV) (H' : AH) : Prop :=
  (∃ H1, H' = upd H1 l (ob none) ∧ H1 l = none ∧ Q .normal ⟨n, t, H1⟩) ∨ (∃ H1, H' = upd H1 l (ob (some .ret)) ∧ H1 l = none ∧ Q .ret ⟨n, t, H1⟩) ∨
    ∃ id H1, H' = upd H1 l (ob (some (.exit id))) ∧ H1 l = none ∧ Q (.exit id) ⟨n, t, H1⟩

theorem alloc_blind {S : Nat → Prop} {W0 w : World} {H : AH} (hr : RH S W0 H w) (o : Obj) : H w.heap.size = none ∧ Evo S H w S H (w.alloc o) ∧ RH S W0 H (w.alloc o) := by
  have hn : H w.heap.size = none := by
    cases e : H w.heap.size with
    | none => rfl
    | some o => exact absurd (hr.lt _ o e) (by omega)
  have hsz : (w.alloc o).heap.size = w.heap.size + 1 := by show (w.heap.push _).size = _; simp
  have hev : Evo S H w S H (w.alloc o) := by
    refine ⟨by omega, fun b hb _ => Below.heap_alloc _ _ _ hb, ?_, fun _ h => h, fun _ h => .inl h, fun b => .inr (.inl rfl)⟩
    intro b C' T F hb
    exact ⟨C', F, (Below.heap_alloc _ _ _ (Array.getElem?_eq_some_iff.1 hb).1).trans hb, rfl⟩
  exact ⟨hn, hev, hr.below.alloc hr.below.size _, hr.sub, fun b hb => by have := hr.bound b hb; omega, fun k o hk => by have := hr.lt k o hk; omega, hr.free, fun k o hk => (hr.obj k o hk).evo hr hev (Below.heap_alloc _ _ _ (hr.lt k o hk))⟩

/-- The record turns. -/
theorem lp_vr {S : Nat → Prop} {w : World} {l : Nat} {r : Loop} {o : Obj} (hl : w.heap[l]? = some (.loop r)) (hS : ¬ S l) (a : AV) (v : Value) (hv : VR S w a v) : VR S (w.putObj l o) a v :=
  hv.mono (fun b hb _ => World.putObj_heap_other (r := l) (k := b) (fun e => by subst e; exact hS hb)) (by simp) (fun b C T F hc => ⟨C, F, by rw [World.putObj_heap_other (fun e => by subst e; rw [hl] at hc; cases hc)]; exact hc, rfl⟩) (fun _ hb => hb)

theorem lp_put {S : Nat → Prop} {W0 w : World} {H : AH} {l : Nat} {r r' : Loop} {ts : List AV} (ht : r'.tmps = r.tmps) (hr : RH S W0 (upd H l (.lp r ts)) w) :
    RH S W0 (upd H l (.lp r' ts)) (w.putObj l (.loop r')) ∧ Evo S (upd H l (.lp r ts)) w S (upd H l (.lp r' ts)) (w.putObj l (.loop r')) := by
  have hk : upd H l (.lp r ts) l = some (.lp r ts) := by simp [upd]
  obtain ⟨hl, htm⟩ : w.heap[l]? = some (.loop r) ∧ ∀ (j : Nat) (a : AV) (v : Value), ts[j]? = some a → r.tmps[j]? = some v → VR S w a v := hr.obj l _ hk
  have hS : ¬ S l := hr.free l (by rw [hk]; rfl)
  have hlt : l < w.heap.size := hr.lt l _ hk
  have hlow : W0.heap.size ≤ l := Nat.le_of_not_lt fun h => hS (hr.sub l h)
  have other : ∀ k, k ≠ l → (w.putObj l (.loop r')).heap[k]? = w.heap[k]? := fun k hk => World.putObj_heap_other hk
  have hv := lp_vr (o := .loop r') hl hS
  refine ⟨⟨hr.below.trans ⟨rfl, rfl, rfl, by simp, fun k hk => other k (by omega)⟩, hr.sub, fun b hb => by simpa using hr.bound b hb, ?_, ?_, ?_⟩, ⟨by simp, ?_, ?_, fun _ h => h, fun _ h => .inl h, ?_⟩⟩
  · intro k o hk
    rw [World.putObj_size]
    unfold upd at hk
    split at hk
    · rename_i e; omega
    · rename_i e; exact hr.lt k o (by unfold upd; rw [if_neg e]; exact hk)
  · intro k hk
    rw [kd_upd] at hk
    split at hk
    · rename_i e; subst e; exact hS
    · rename_i e; exact hr.free k (by rw [kd_upd, if_neg e]; exact hk)
  · intro k o hko
    unfold upd at hko
    split at hko
    · rename_i e
      subst e
      obtain rfl := Option.some.inj hko
      exact ⟨World.putObj_heap_same hlt, fun j a v ha hv' => hv _ _ (htm j a v ha (by rw [← ht]; exact hv'))⟩
    · rename_i e
      exact (hr.obj k o (by unfold upd; rw [if_neg e]; exact hko)).mono hv (fun _ h => h) (other k e)
  · intro b hb hn
    refine other b fun e => ?_
    subst e
    rw [hk] at hn
    exact hn rfl
  · intro b C T F hc
    exact ⟨C, F, by rw [other b (fun e => by subst e; rw [hl] at hc; cases hc)]; exact hc, rfl⟩
  · intro b
    rw [kd_upd, kd_upd]
    by_cases e : b = l
    · rw [if_pos e, if_pos e]; exact .inr (.inl rfl)
    · rw [if_neg e, if_neg e]; exact .inr (.inl rfl)

theorem evo_less {S : Nat → Prop} {H : AH} {l : Nat} {o : AO} {w : World} (hl : H l = none) : Evo S (upd H l o) w S H w :=
  ⟨Nat.le_refl _, fun _ _ _ => rfl, fun _ C _ F h => ⟨C, F, h, rfl⟩, fun _ h => h, fun _ h => .inl h, fun b => by
    rw [kd_upd]
    by_cases e : b = l
    · subst e; exact .inl (by rw [hl]; rfl)
    · rw [if_neg e]; exact .inr (.inl rfl)⟩

/-- A round's frame, where the record turns. -/
theorem Rel.putl {B : Nat} {S : Nat → Prop} {W0 : World} {s : ASt} {a : Act} {w : World} {l : Nat} {r r' : Loop} {ts : List AV} (h : Rel B S W0 s a w) (hl : s.H l = none) (ht : r'.tmps = r.tmps) (hr : RH S W0 (upd s.H l (.lp r ts)) w) :
    Rel B S W0 s a (w.putObj l (.loop r')) := by
  have hk : upd s.H l (.lp r ts) l = some (.lp r ts) := by simp [upd]
  obtain ⟨hlw, _⟩ : w.heap[l]? = some (.loop r) ∧ ∀ (j : Nat) (a : AV) (v : Value), ts[j]? = some a → r.tmps[j]? = some v → VR S w a v := hr.obj l _ hk
  have hS : ¬ S l := hr.free l (by rw [hk]; rfl)
  obtain ⟨Ds, h1, h2, h3⟩ := h.defers
  refine ⟨⟨Ds, h1, h2, fun D hD => ?_⟩, by simpa using h.base, h.low, h.len, h.out, fun j v hj => lp_vr hlw hS _ _ (h.val j v hj), (lp_put ht hr).1.less hl⟩
  obtain ⟨g1, g2, g3, g4⟩ := h3 D hD
  exact ⟨g1, (World.putObj_heap_other (fun e => by subst e; rw [hlw] at g2; cases g2)).trans g2, g3, g4⟩

theorem setAs_rel {S : Nat → Prop} {w : World} {n : Nat} : ∀ (ps : List Nat) (args : List AV) (cs : List Value) (t : Nat → AV) (tm : Array Value), args.length = cs.length → (∀ (j : Nat) (a : AV) (v : Value), args[j]? = some a → cs[j]? = some v → VR S w a v) →
    n = tm.size → (∀ j, n ≤ j → t j = .any) → (∀ (j : Nat) v, tm[j]? = some v → VR S w (t j) v) →
    n = ((ps.zip cs).foldl (fun tm (p, v) => tm.setIfInBounds p v) tm).size ∧ (∀ j, n ≤ j → setAs n t (ps.zip args) j = .any) ∧ ∀ (j : Nat) v, ((ps.zip cs).foldl (fun tm (p, v) => tm.setIfInBounds p v) tm)[j]? = some v → VR S w (setAs n t (ps.zip args) j) v
  | [], args, cs, t, tm, hl, ha, hn, ho, hv => by simpa [setAs] using ⟨hn, ho, hv⟩
  | p :: ps, [], cs, t, tm, hl, ha, hn, ho, hv => by
    cases cs with
    | nil => simpa [setAs] using ⟨hn, ho, hv⟩
    | cons c cs => simp at hl
  | p :: ps, x :: args, cs, t, tm, hl, ha, hn, ho, hv => by
    cases cs with
    | nil => simp at hl
    | cons c cs =>
      simp only [List.zip_cons_cons, List.foldl_cons, setAs]
      refine setAs_rel ps args cs (setE n t p x) (tm.setIfInBounds p c) (by simpa using hl) (fun j a v h1 h2 => ha (j + 1) a v h1 h2) (by simpa using hn) (fun j hj => ?_) fun j v hj => ?_
      · simp only [setE]
        rw [if_neg (by omega)]
        exact ho j hj
      · rw [Array.getElem?_setIfInBounds] at hj
        simp only [setE]
        by_cases e : p = j
        · subst e
          simp only [if_true] at hj
          split at hj
          · rename_i hlt
            rw [if_pos ⟨rfl, by omega⟩]
            obtain rfl := Option.some.inj hj
            exact ha 0 x _ rfl rfl
          · cases hj
        · rw [if_neg e] at hj
          rw [if_neg (fun h => e h.1.symm)]
          exact hv j v hj

section
variable {P : Program} {Q : Exit → ASt → Prop} {s : ASt}

theorem T_range {f : Operand} {ps : Array Tmp} {as bd : Code} {g : FuncId} {caps : List AV} (hf : s.ev f = .fn g [] caps) (hg : goodCallee P g = true) (hna : noRF as = true) (hnb : noRF bd = true)
    (h : ∀ (l : Nat) (ob : Option Code → AO), s.H l = none → (∀ c, kd (some (ob c)) = 2) →
      (∀ (args : List AV) (H1 : AH) (K : AV → AH → Prop), args.length = ps.size → H1 l = none → T P as (thenA (T P bd (rndQ l ob K)) (fun _ _ => False)) ⟨s.n, setAs s.n s.t (ps.toList.zip args), H1⟩ → AYL P l args (upd H1 l (ob none)) K) →
      ACall P g (.pl (.func (.yield l) #[] #[]) :: caps) (upd s.H l (ob none)) (rngK l ob Q s.n s.t)) : T P (.rangeFunc f ps as bd) Q s := by
  intro r hn B S W0 a w hr
  obtain rfl : r = none := hn.resolve_right (by simp [noRF])
  refine wpIn_rangeFunc (F := FR none) (n := 0) ?_
  intro fn _
  obtain ⟨rc, hrc⟩ : ∃ rc : LoopState → Option Code → Loop, rc = fun st pe => { state := st, pending := pe, fn, tmps := a.tmps, params := ps, assign := as, body := bd, defers := w.heap.size } := ⟨_, rfl⟩
  have htm : ∀ st pe, (rc st pe).tmps = a.tmps := fun st pe => by rw [hrc]
  obtain ⟨ts, hts⟩ : ∃ ts : List AV, ts = (List.range s.n).map s.t := ⟨_, rfl⟩
  have htsj : ∀ (j : Nat) (x : AV), ts[j]? = some x → j < s.n ∧ x = s.t j := by
    intro j x hj
    rw [hts, List.getElem?_map, Option.map_eq_some_iff] at hj
    obtain ⟨y, hy, rfl⟩ := hj
    have := List.getElem?_eq_some_iff.1 hy
    obtain ⟨hlt, he⟩ := this
    simp at hlt he
    exact ⟨hlt, by rw [he]⟩
  obtain ⟨ob, hob⟩ : ∃ ob : Option Code → AO, ob = fun c => .lp (rc (if c.isNone then .ready else .done) c) ts := ⟨_, rfl⟩
  have hkd : ∀ c, kd (some (ob c)) = 2 := fun c => by rw [hob]; rfl
  obtain ⟨hD0, he1, hr1⟩ := alloc_blind hr.heap (.deferred (some []))
  have hsz1 : (w.alloc (.deferred (some []))).heap.size = w.heap.size + 1 := by show (w.heap.push _).size = _; simp
  obtain ⟨hl0, he2, hr2⟩ := evo_new hr1 (.loop (rc .ready none)) (a' := ob none) (hkd none) (fun S' w' he hb => by
    rw [hob]
    exact ⟨hb, fun j x v hx hv => by
      obtain ⟨hj, rfl⟩ := htsj j x hx
      rw [htm] at hv
      exact ((hr.val j v hv).evo hr.heap he1).evo hr1 he⟩)
  rw [hsz1] at hl0 he2 hr2
  obtain ⟨W1, hW1⟩ : ∃ W1, (w.alloc (.deferred (some []))).alloc (.loop (rc .ready none)) = W1 := ⟨_, rfl⟩
  rw [hW1] at he2 hr2
  have hszW : W1.heap.size = w.heap.size + 2 := by rw [← hW1]; show ((w.alloc _).heap.push _).size = _; simp [hsz1]
  have hD1 : W1.heap[w.heap.size]? = some (.deferred (some [])) := by
    rw [← hW1]; exact (Below.heap_alloc _ _ _ (by omega)).trans (by show (w.heap.push _)[w.heap.size]? = _; simp)
  have he12 := he1.trans he2
  obtain ⟨l, hl⟩ : ∃ l, w.heap.size + 1 = l := ⟨_, rfl⟩
  rw [hl] at hl0 he2 hr2 he12
  have hv := hr.ev f
  rw [hf] at hv
  generalize hu : a.eval f = u at hv
  cases hv with
  | fn _ _ _ fv cv g1 g2 g3 g4 =>
  have hfv : fv = #[] := by
    apply Array.eq_empty_of_size_eq_zero
    simpa using g1.symm
  subst hfv
  have hY : ∀ (args : List AV) (H1 : AH) (K : AV → AH → Prop), args.length = ps.size → H1 l = none → T P as (thenA (T P bd (rndQ l ob K)) (fun _ _ => False)) ⟨s.n, setAs s.n s.t (ps.toList.zip args), H1⟩ → AYL P l args (upd H1 l (ob none)) K := by
    intro args H1 K hlen hH1 hT S2 W02 w2 cs hRH hVR
    have hob0 : ob none = .lp (rc .ready none) ts := by rw [hob]; rfl
    rw [hob0] at hRH ⊢
    have hk : upd H1 l (.lp (rc .ready none) ts) l = some (.lp (rc .ready none) ts) := by simp [upd]
    obtain ⟨hl2, htm2⟩ : w2.heap[l]? = some (.loop (rc .ready none)) ∧ ∀ (j : Nat) (a : AV) (v : Value), ts[j]? = some a → (rc .ready none).tmps[j]? = some v → VR S2 w2 a v := hRH.obj l _ hk
    have hlen2 : args.length = cs.size := by have := hVR.1; simpa using this
    have hy := run_yield (P := P) (args := cs) hl2 (by rw [hrc]; simp only; omega)
    have hp : ∀ st pe, (rc st pe).params = ps ∧ (rc st pe).assign = as ∧ (rc st pe).body = bd := fun st pe => by rw [hrc]; exact ⟨rfl, rfl, rfl⟩
    rw [(hp _ _).2.1, (hp _ _).2.2, (hp _ _).1, htm] at hy
    refine ⟨_, _, as, bd, hy, roundIn_of_wpIn (F := Fence.wide) trivial ?_⟩
    obtain ⟨q1, q2, q3⟩ := setAs_rel (S := S2) (w := w2) (n := s.n) ps.toList args cs.toList s.t a.tmps (by simpa using hlen2) hVR.2 hr.len hr.out (fun j v hj => by
      have hjn : j < s.n := by rw [hr.len]; exact (Array.getElem?_eq_some_iff.1 hj).1
      exact htm2 j _ v (by rw [hts]; simp [hjn]) (by rw [htm]; exact hj))
    have hfold : (ps.zip cs).foldl (fun tmps (x : Tmp × Value) => tmps.setIfInBounds x.1 x.2) a.tmps = (ps.toList.zip cs.toList).foldl (fun tm (x : Nat × Value) => tm.setIfInBounds x.1 x.2) a.tmps := by
      rw [← Array.foldl_toList, Array.toList_zip]
    have hrel : Rel w2.heap.size S2 W02 ⟨s.n, setAs s.n s.t (ps.toList.zip args), H1⟩ { tmps := (ps.zip cs).foldl (fun tmps (x : Tmp × Value) => tmps.setIfInBounds x.1 x.2) a.tmps, defers := [] } w2 := by
      rw [hfold]
      exact ⟨⟨[], rfl, List.nodup_nil, fun D hD => by cases hD⟩, Nat.le_refl _, hRH.below.size, q1, q2, q3, hRH.less hH1⟩
    refine wpIn_mono (hT (some l) (.inr hna) _ S2 W02 _ w2 hrel) ?_
    rintro e a1 w3 ⟨S3, s1, he3, hr3, hQ3⟩
    cases e with
    | normal =>
      have hQ3 : T P bd (rndQ l ob K) s1 := hQ3
      obtain ⟨hn3, hf3, hef3⟩ := hRH.frame (ob := .lp (rc .ready none) ts) rfl hH1 he3 hr3.heap
      have hk3 : upd s1.H l (.lp (rc .ready none) ts) l = some (.lp (rc .ready none) ts) := by simp [upd]
      obtain ⟨hl3, _⟩ : w3.heap[l]? = some (.loop (rc .ready none)) ∧ _ := hf3.obj l _ hk3
      have hbz : (Instr.beginRound l).run P w3 = .ok () (w3.putObj l (.loop (rc .busy none))) := by
        have := run_beginRound (P := P) hl3 (by rw [hrc])
        rw [hrc] at this ⊢
        exact this
      refine ⟨_, hbz, ?_⟩
      obtain ⟨hr4, he4⟩ := lp_put (r' := rc .busy none) (by rw [htm, htm]) hf3
      have hrel4 := hr3.putl (r' := rc .busy none) hn3 (by rw [htm, htm]) hf3
      refine wpIn_mono (hQ3 (some l) (.inr hnb) _ S3 W02 a1 _ hrel4) ?_
      rintro e a2 w5 ⟨S4, s2, he5, hr5, hQ5⟩
      obtain ⟨hn5, hf5, hef5⟩ := hr4.frame (ob := .lp (rc .busy none) ts) rfl hn3 he5 hr5.heap
      have hk5 : upd s2.H l (.lp (rc .busy none) ts) l = some (.lp (rc .busy none) ts) := by simp [upd]
      obtain ⟨hl5, _⟩ : w5.heap[l]? = some (.loop (rc .busy none)) ∧ _ := hf5.obj l _ hk5
      have fin : ∀ jump : Option Code, (Instr.endRound l jump).run P w5 = .ok (.bool jump.isNone) (w5.putObj l (.loop (rc (if jump.isNone then .ready else .done) jump))) ∧
          Evo S2 (upd H1 l (.lp (rc .ready none) ts)) w2 S4 (upd s2.H l (ob jump)) (w5.putObj l (.loop (rc (if jump.isNone then .ready else .done) jump))) ∧ RH S4 W02 (upd s2.H l (ob jump)) (w5.putObj l (.loop (rc (if jump.isNone then .ready else .done) jump))) := by
        intro jump
        obtain ⟨hr6, he6⟩ := lp_put (r' := rc (if jump.isNone then .ready else .done) jump) (by rw [htm, htm]) hf5
        have e0 : ob jump = .lp (rc (if jump.isNone then .ready else .done) jump) ts := by rw [hob]
        rw [e0]
        refine ⟨?_, ((hef3.trans he4).trans hef5).trans he6, hr6⟩
        have := run_endRound (P := P) jump hl5
        rw [hrc] at this ⊢
        exact this
      cases e with
      | normal =>
        obtain ⟨g5, g6, g7⟩ := fin none
        exact ⟨_, _, g5, _, S4, _, _, rfl, g6, g7, .pl _, hQ5⟩
      | ret =>
        obtain ⟨g5, g6, g7⟩ := fin (some .ret)
        exact ⟨_, _, g5, _, S4, _, _, rfl, g6, g7, .pl _, hQ5⟩
      | exit id =>
        obtain ⟨g5, g6, g7⟩ := fin (some (.exit id))
        exact ⟨_, _, g5, _, S4, _, _, rfl, g6, g7, .pl _, hQ5⟩
      | goto t => exact hQ5.elim
      | panic ch => exact hQ5.elim
      | outgrown => exact hQ5.elim
    | ret => exact hQ3.elim
    | exit id => exact hQ3.elim
    | goto t => exact hQ3.elim
    | panic ch => exact hQ3.elim
    | outgrown => exact hQ3.elim
  have hsl : s.H l = none := hl0
  have hcall := h l ob hsl hkd hY
  refine ⟨l, [{ target := .collected w.heap.size, args := #[] }], W1, { target := .fn (.func g) cv, args := #[.func (.yield l) #[] #[]] }, W1, g, #[.func (.yield l) #[] #[]] ++ cv, W1, ?_, ?_, fun _ _ => trivial, ?_, by simp [FR], ?_⟩
  · rw [← hW1, hrc, ← hl]; exact run_enterLoop_outer _ _ _ _ _
  · simp only [resolve, hu, Deferred.ofValue]
    simp [Act.eval]
  · simp only [invoke]
    rw [callFunc_run hg]
  · have hargs : VRs S W1 (.pl (.func (.yield l) #[] #[]) :: caps) (#[Value.func (.yield l) #[] #[]] ++ cv).toList := by
      have hc : VRs S W1 caps cv.toList := ⟨by simpa using g2, fun j x v hx hv => ((g4 j x v hx (by simpa using hv)).evo hr.heap he12)⟩
      refine ⟨by simpa using hc.1, fun j x v hx hv => ?_⟩
      cases j with
      | zero =>
        simp at hx hv
        subst hx; subst hv
        exact .pl _
      | succ j =>
        simp at hx hv
        exact hc.2 j x v hx (by simpa using hv)
    refine CallsIn.mono (F := FR none) (callsIn_wide (n := 0 - 1).2 (hcall S W0 W1 _ hr2 hargs)) ?_
    rintro e w3 ⟨u, S', x, H', rfl, he3, hr3, hx3, hK3⟩
    have fin : ∀ (jump : Option Code) (H1 : AH), H' = upd H1 l (ob jump) → H1 l = none → ∃ w4, (Instr.endLoop l).run P w3 = .ok jump w4 ∧ Evo S s.H w S' H1 w4 ∧ Rel B S' W0 ⟨s.n, s.t, H1⟩ { a with defers := [{ target := .collected w.heap.size, args := #[] }] ++ a.defers } w4 := by
      intro jump H1 hH hH1
      subst hH
      have e0 : ob jump = .lp (rc (if jump.isNone then .ready else .done) jump) ts := by rw [hob]
      rw [e0] at hr3 he3
      have hk3 : upd H1 l (.lp (rc (if jump.isNone then .ready else .done) jump) ts) l = some (.lp (rc (if jump.isNone then .ready else .done) jump) ts) := by simp [upd]
      obtain ⟨hl3, _⟩ : w3.heap[l]? = some (.loop (rc (if jump.isNone then .ready else .done) jump)) ∧ _ := hr3.obj l _ hk3
      have hend : (Instr.endLoop l).run P w3 = .ok jump (w3.putObj l (.loop (rc .exhausted jump))) := by
        have := run_endLoop (P := P) hl3 (by rw [hrc]; cases jump <;> simp)
        rw [hrc] at this ⊢
        exact this
      obtain ⟨hr4, he4⟩ := lp_put (r' := rc .exhausted jump) (by rw [htm, htm]) hr3
      have heA := ((he12.trans he3).trans he4).trans (evo_less hH1)
      have hrA := hr4.less hH1
      refine ⟨_, hend, heA, ?_⟩
      have hrel := hr.evo heA hrA
      obtain ⟨Ds, d1, d2, d3⟩ := hrel.defers
      have hne : w.heap.size ≠ l := by omega
      have kd0 : kd (upd s.H l (ob none) w.heap.size) = 0 := by rw [kd_upd, if_neg hne, hD0]; rfl
      have hDn : w.heap.size ∉ Ds := by
        intro hm
        obtain ⟨Ds', e1, _, e3⟩ := hr.defers
        have d1 : a.defers = marks Ds := d1
        have : Ds = Ds' := by
          have hmm : marks Ds = marks Ds' := d1.symm.trans e1
          exact marks_inj hmm
        obtain ⟨_, k2, _⟩ := e3 _ (this ▸ hm)
        have := (Array.getElem?_eq_some_iff.1 k2).1
        omega
      refine ⟨⟨w.heap.size :: Ds, by show _ :: _ = _; rw [show a.defers = marks Ds from d1]; rfl, List.nodup_cons.2 ⟨hDn, d2⟩, fun D hD => ?_⟩, hrel.base, hrel.low, hrel.len, hrel.out, hrel.val, hrA⟩
      rcases List.mem_cons.1 hD with rfl | hD
      · refine ⟨hr.base, ?_, ?_, fun hs => ?_⟩
        · rw [World.putObj_heap_other hne, he3.same _ (by omega) (by rw [kd0]; decide)]
          exact hD1
        · have hd := he3.dom w.heap.size
          rw [kd_upd, if_neg hne, kd0] at hd
          rcases hd with h | h | h
          · exact h
          · exact h
          · omega
        · rcases he3.new _ hs with h | h | h
          · have := hr2.bound _ h
            exact absurd (hr.heap.bound _ h) (by omega)
          · rw [kd0] at h; cases h
          · omega
      · exact d3 D hD
    rcases hK3 with ⟨H1, h1, h2, h3⟩ | ⟨H1, h1, h2, h3⟩ | ⟨id, H1, h1, h2, h3⟩
    · obtain ⟨w4, k1, k2, k3⟩ := fin none H1 h1 h2
      exact ⟨none, w4, k1, S', _, k2, k3, h3⟩
    · obtain ⟨w4, k1, k2, k3⟩ := fin (some .ret) H1 h1 h2
      exact ⟨some .ret, w4, k1, wpIn_ret ⟨S', _, k2, k3, h3⟩⟩
    · obtain ⟨w4, k1, k2, k3⟩ := fin (some (.exit id)) H1 h1 h2
      exact ⟨some (.exit id), w4, k1, wpIn_exit ⟨S', _, k2, k3, h3⟩⟩
end
end Go.Ab
