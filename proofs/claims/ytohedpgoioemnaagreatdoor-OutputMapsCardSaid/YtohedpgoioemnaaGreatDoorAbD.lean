/-
  From abstract steps to the machine: regions, code, calls.
-/
import Derived.Test.YtohedpgoioemnaaGreatDoorAbC
import Derived.Deep.LoopGhost
import Derived.Deep.Draws
import Derived.Laws.World
namespace Go.Ab
open Go.RowKit

section
variable {P : Program} {ops : Array Oper}

/-- The machine is somewhere that K tells. -/
def At (W0 : World) (S : Nat → Prop) (H : AH) (w : World) (K : ASt → Prop) (a' : Act) (w' : World) : Prop :=
  ∃ S' s', Evo S H w S' s'.H w' ∧ Rel S' W0 s' a' w' ∧ K s'

theorem At.trans {W0 w w1 : World} {S S1 : Nat → Prop} {H H1 : AH} {K : ASt → Prop} {a' : Act} {w' : World} (he : Evo S H w S1 H1 w1) (h : At W0 S1 H1 w1 K a' w') : At W0 S H w K a' w' := by
  obtain ⟨S', s', h1, h2, h3⟩ := h
  exact ⟨S', s', he.trans h1, h2, h3⟩

theorem At.mono {W0 w : World} {S : Nat → Prop} {H : AH} {K K' : ASt → Prop} {a' : Act} {w' : World} (hk : ∀ s, K s → K' s) (h : At W0 S H w K a' w') : At W0 S H w K' a' w' := by
  obtain ⟨S', s', h1, h2, h3⟩ := h
  exact ⟨S', s', h1, h2, hk _ h3⟩

theorem want_sound {o : Oper} {S : Nat → Prop} {W0 : World} {s : ASt} {a : Act} {w : World} {b : Bool} (h : wantA ops o s = some b) (hr : Rel S W0 s a w) : Region.wanted o (yielded ops a.tmps) = b := by
  unfold wantA at h
  unfold Region.wanted
  cases hg : o.guard with
  | none => simp only [hg, Option.some.injEq] at h ⊢; exact h
  | some gw =>
    obtain ⟨g, want⟩ := gw
    simp only [hg] at h ⊢
    unfold yielded
    cases ht : (ops[g]?).bind (·.dst) with
    | none => simp [ht] at h
    | some t =>
      simp only [ht, Option.bind_some] at h ⊢
      cases hu : a.tmps[t]? with
      | none =>
        have : s.n ≤ t := by
          rw [hr.len]
          rcases Nat.lt_or_ge t a.tmps.size with h1 | h1
          · rw [Array.getElem?_eq_getElem h1] at hu; cases hu
          · exact h1
        rw [hr.out t this] at h
        cases h
      | some u =>
        have hv := hr.val t u hu
        generalize s.t t = x at h hv
        cases hv with
        | pl => cases u <;> simp_all
        | _ => simp at h

theorem evo_alloc {S : Nat → Prop} {W0 w : World} {H : AH} (hr : RH S W0 H w) (cs : List AV) (C : Array Value) (e : TypeId) (hl : cs.length ≤ C.size)
    (hv : ∀ (j : Nat) (a : AV) (v : Value), cs[j]? = some a → C[j]? = some v → VR S w a v) :
    H w.heap.size = none ∧ Evo S H w S (upd H w.heap.size (.cells cs)) (w.alloc (.cells C e)) ∧ RH S W0 (upd H w.heap.size (.cells cs)) (w.alloc (.cells C e)) := by
  have hn : H w.heap.size = none := by
    cases e : H w.heap.size with
    | none => rfl
    | some o => exact absurd (hr.lt _ o e) (by omega)
  have hsz : (w.alloc (.cells C e)).heap.size = w.heap.size + 1 := by show (w.heap.push _).size = _; simp
  have hev : Evo S H w S (upd H w.heap.size (.cells cs)) (w.alloc (.cells C e)) := by
    refine ⟨by omega, fun b hb _ => Below.heap_alloc _ _ _ hb, ?_, fun _ h => h, fun _ h => .inl h, ?_⟩
    · intro b C' T F hb
      have hb' : b < w.heap.size := by
        rcases Nat.lt_or_ge b w.heap.size with h | h
        · exact h
        · rw [Array.getElem?_eq_none h] at hb; cases hb
      exact ⟨C', F, (Below.heap_alloc _ _ _ hb').trans hb, rfl⟩
    · intro b
      rw [kd_upd]
      split
      · rename_i e; exact .inr (.inr (by omega))
      · exact .inr (.inl rfl)
  refine ⟨hn, hev, ⟨hr.below.alloc hr.below.size _, hr.sub, fun b hb => by have := hr.bound b hb; omega, ?_, ?_, ?_⟩⟩
  · intro k o hk
    unfold upd at hk
    split at hk
    · rename_i e; omega
    · have := hr.lt k o hk; omega
  · intro k hk
    rw [kd_upd] at hk
    split at hk
    · rename_i e
      subst e
      intro hs
      have := hr.bound _ hs
      omega
    · exact hr.free k hk
  · intro k o hk
    unfold upd at hk
    split at hk
    · rename_i e
      subst e
      obtain rfl := Option.some.inj hk
      exact ⟨C, e, by show (w.heap.push _)[w.heap.size]? = _; simp, hl, fun j a v ha hv' => (hv j a v ha hv').evo hr hev⟩
    · exact (hr.obj k o hk).evo hr hev (Below.heap_alloc _ _ _ (hr.lt k o hk))

/-- Operations that need no room told. -/
theorem stepA_sound {i : Nat} {S : Nat → Prop} {W0 : World} {s : ASt} {a : Act} {w : World} {K : ASt → Prop} {Q : Exit → Act → World → Prop} (hr : Rel S W0 s a w) (h : stepA P ops i s K) :
    wpOp P ops Q i (At W0 S s.H w K) a w := by
  unfold stepA at h
  unfold wpOp
  cases ho : ops[i]? with
  | none => simp only [ho] at h
  | some o =>
    simp only [ho] at h ⊢
    cases hw : wantA ops o s with
    | none => simp only [hw] at h
    | some b =>
      simp only [hw] at h
      rw [want_sound hw hr]
      cases b with
      | false =>
        simp only [Bool.false_eq_true, if_false] at h ⊢
        exact ⟨S, _, by rw [ASt.put_H]; exact Evo.refl _ _ _, hr.put o.dst (.pl _), h⟩
      | true =>
        simp only [if_true] at h ⊢
        refine .inl ?_
        have hops : ∀ x ∈ o.op.operands, VR S w (s.ev x) (a.eval x) := fun x _ => hr.ev x
        unfold Oper.wp
        cases hk : kindOf o.op with
        | pu =>
          simp only [hk] at h
          obtain ⟨v, hv, h⟩ := h
          obtain ⟨u, h1, h2⟩ := hv S a.eval w hops
          rw [h1]
          exact ⟨S, _, by rw [ASt.put_H]; exact Evo.refl _ _ _, hr.put o.dst h2, h⟩
        | rd =>
          simp only [hk] at h
          obtain ⟨v, hv, h⟩ := h
          obtain ⟨u, h1, h2⟩ := hv S W0 a.eval w hops hr.heap
          rw [h1]
          exact ⟨S, _, by rw [ASt.put_H]; exact Evo.refl _ _ _, hr.put o.dst h2, h⟩
        | al =>
          simp only [hk] at h
          obtain ⟨ob, hob, h⟩ := h
          obtain ⟨e, he⟩ : ∃ e, o.op = .alloc e := by
            cases hop : o.op with
            | alloc e => exact ⟨e, rfl⟩
            | call c =>
              rw [hop] at hob
              simp [allocOb] at hob
            | _ => simp [hop, kindOf] at hk
          rw [he] at hob
          simp only [allocOb, Option.bind_eq_some_iff, Option.map_eq_some_iff] at hob
          obtain ⟨ti, hti, z, hz, rfl⟩ := hob
          have hrun : (execOp a.eval o).run P w = .ok (.value (.pointer (some ⟨w.heap.size, 0, none⟩))) (w.alloc (.cells z.cells e)) := by
            unfold execOp
            rw [he]
            have h1 : (zeroValue e).run P w = .ok z w := by
              have : zeroValue e = (do match (← typeInfo e).zero with | some v => pure v | none => unsupported (.resourceLimit "a value of more than 2^22 cells")) := rfl
              simp only [zeroValue, typeInfo, program, bind, Sem.bind, Sem.run, hti, pure, hz]
            simp only [zeroValue, typeInfo, program, Instr.alloc, newVar, newRow, newObj, bind, Sem.bind, Sem.run, hti, pure, hz]
            rfl
          rw [hrun]
          obtain ⟨h1, h2, h3⟩ := evo_alloc hr.heap (z.cells.toList.map .pl) z.cells e (by simp) (fun j x v hx hv => by
            simp only [List.getElem?_map, Option.map_eq_some_iff] at hx
            obtain ⟨y, hy, rfl⟩ := hx
            have : z.cells[j]? = some y := by simpa using hy
            rw [this] at hv
            obtain rfl := Option.some.inj hv
            exact .pl _)
          refine ⟨S, (s.put o.dst (ptrA w.heap.size)).wH (upd s.H w.heap.size (.cells (z.cells.toList.map .pl))), h2, ?_, h _ h1⟩
          have := hr.put o.dst (x := ptrA w.heap.size) (v := .pointer (some ⟨w.heap.size, 0, none⟩)) (.pl _)
          exact this.evo (by rw [ASt.put_H]; exact h2) h3
        | ef =>
          simp only [hk] at h
          have := h S W0 a.eval w hops hr.heap
          unfold Oper.upon
          generalize (execOp a.eval o).run P w = r at this
          have fin : ∀ u w', (∃ S' x H', Evo S s.H w S' H' w' ∧ RH S' W0 H' w' ∧ VR S' w' x u ∧ K ((s.put o.dst x).wH H')) → At W0 S s.H w K (a.put o.dst u) w' := by
            rintro u w' ⟨S', x, H', h1, h2, h3, h4⟩
            refine ⟨S', _, h1, ?_, h4⟩
            have h5 := (hr.evo h1 h2).put o.dst h3
            have e : (⟨s.n, s.t, H'⟩ : ASt).put o.dst x = (s.put o.dst x).wH H' := by cases o.dst <;> rfl
            rw [e] at h5
            exact h5
          cases r with
          | ok n w' =>
            cases n <;> simp only [upon] at this <;> first
              | exact fin _ _ this
              | (simp only; refine this.mono fun e w'' he => ?_; cases e <;> first | exact fin _ _ he | exact he.elim)
          | halt x w' => exact this.elim

theorem anyR_sound {M : List Nat} {I : List (Nat × AV)} {K : ASt → Prop} {Q : Exit → Act → World → Prop} {W0 w0 : World} {S0 : Nat → Prop} {H0 : AH} (hQ : ∀ a w, At W0 S0 H0 w0 K a w → Q .normal a w) :
    ∀ (n : Nat) (l : Array Bool) (s : ASt) (S : Nat → Prop) (a : Act) (w : World), Evo S0 H0 w0 S s.H w → Rel S W0 s a w → anyR P ops M I K n l s → wpAny P .any ops Q n l a w
  | 0, _, s, S, _, _, he, hr, h => ⟨h.1, hQ _ _ ⟨S, s, he, hr, h.2⟩⟩
  | n + 1, _, s, S, _, _, he, hr, h => ⟨fun e => hQ _ _ ⟨S, s, he, hr, h.1 e⟩, fun i hi => wpOp_mono (fun a' w' ⟨S', s', he', hr', h'⟩ => anyR_sound hQ n _ s' S' a' w' (he.trans he') hr' h'.2) (stepA_sound hr (h.2 i hi))⟩

/-- One operation after the other. -/
def seqN (P : Program) (ops : Array Oper) : List Nat → (ASt → Prop) → ASt → Prop
  | [], K, s => K s
  | i :: r, K, s => stepA P ops i s (seqN P ops r K)

theorem seqN_sound {K : ASt → Prop} {Q : Exit → Act → World → Prop} {W0 w0 : World} {S0 : Nat → Prop} {H0 : AH} (hQ : ∀ a w, At W0 S0 H0 w0 K a w → Q .normal a w) :
    ∀ (r : List Nat) (s : ASt) (S : Nat → Prop) (a : Act) (w : World), Evo S0 H0 w0 S s.H w → Rel S W0 s a w → seqN P ops r K s → wpOps P ops Q r a w
  | [], s, S, _, _, he, hr, h => hQ _ _ ⟨S, s, he, hr, h⟩
  | i :: r, s, S, _, _, he, hr, h => by
    rw [wpOps_cons]
    exact wpOp_mono (fun a' w' ⟨S', s', he', hr', h'⟩ => seqN_sound hQ r s' S' a' w' (he.trans he') hr' h') (stepA_sound hr h)
end

/-! ### Code -/
/-- From a state that is told, the code comes to an end that is told. -/
def T (P : Program) (c : Code) (Q : Exit → ASt → Prop) (s : ASt) : Prop :=
  ∀ S W0 a w, Rel S W0 s a w → c.wp P (fun e a' w' => At W0 S s.H w (Q e) a' w') a w

def thenA (next : ASt → Prop) (Q : Exit → ASt → Prop) : Exit → ASt → Prop
  | .normal, s => next s
  | e, s => Q e s

theorem Rel.drew {S : Nat → Prop} {W0 : World} {s : ASt} {a : Act} {w : World} (h : Rel S W0 s a w) : Rel S W0 s a w.drew ∧ Evo S s.H w S s.H w.drew := by
  have he : Evo S s.H w S s.H w.drew := ⟨Nat.le_refl _, fun _ _ _ => rfl, fun _ C _ F h => ⟨C, F, h, rfl⟩, fun _ h => h, fun _ h => .inl h, fun _ => .inr (.inl rfl)⟩
  have hr : RH S W0 s.H w.drew := ⟨h.heap.below.drew, h.heap.sub, h.heap.bound, h.heap.lt, h.heap.free, fun k o hk => (h.heap.obj k o hk).evo h.heap he rfl⟩
  exact ⟨h.evo he hr, he⟩

section
variable {P : Program} {Q : Exit → ASt → Prop} {s : ASt}

theorem T.mono {c : Code} {Q' : Exit → ASt → Prop} (h : T P c Q s) (hq : ∀ e s, Q e s → Q' e s) : T P c Q' s :=
  fun S W0 a w hr => wp_mono (h S W0 a w hr) fun e _ _ ha => ha.mono (hq e)

theorem T_region {id : Nat} {ops : Array Oper} (h : seqN P ops (List.range ops.size) (Q .normal) s) : T P (.region id ops false) Q s :=
  fun _ _ _ _ hr => wp_region (seqN_sound (fun _ _ h => h) _ _ _ _ _ (Evo.refl _ _ _) hr h)

theorem T_regionD {id : Nat} {ops : Array Oper} (plan : List Nat) (hm : P.follows .mixedOrders = true) (hp : planned P ops plan = true) (h : seqD P ops (masks ops.toList) plan [] (Q .normal) s) : T P (.region id ops true) Q s := by
  intro S W0 a w hr
  simp only [planned, Bool.and_eq_true] at hp
  obtain ⟨⟨⟨⟨h0, h1⟩, h2⟩, h3⟩, h4⟩ := hp
  have hcov : ∀ j, j < ops.size → (Array.replicate ops.size false).getD j false = false → j ∈ plan := fun j hj _ => by
    simpa using List.all_eq_true.1 h4 j (List.mem_range.2 hj)
  have hcl : Closed ops (Array.replicate ops.size false) := by
    intro j o _ hl
    simp [Array.getD_eq_getD_getElem?, Array.getElem?_replicate] at hl
    split at hl <;> simp at hl
  have hany := any_of_seq h1 h2 plan _ [] s hcl (fun _ h => by cases h) hcov h3 h
  have h0 : plan.length = ops.size := by simpa using h0
  rw [h0] at hany
  exact wp_region_any hm (anyR_sound (fun _ _ h => h) _ _ _ _ _ _ hr.drew.2 hr.drew.1 hany)

theorem T_regionT {id : Nat} {ops : Array Oper} (t : PT) (hm : P.follows .mixedOrders = true) (h1 : masksOk ops (masks ops.toList) = true) (h2 : readsOk ops (masks ops.toList) = true) (h3 : treeOk P ops (masks ops.toList) false (Array.replicate ops.size false) t = true)
    (h : seqT P ops (masks ops.toList) t [] (Q .normal) s) : T P (.region id ops true) Q s := by
  intro S W0 a w hr
  have hcl : Closed ops (Array.replicate ops.size false) := by
    intro j o _ hl
    simp [Array.getD_eq_getD_getElem?, Array.getElem?_replicate] at hl
    split at hl <;> simp at hl
  have hcov : Cov ops (Array.replicate ops.size false) ops.size := ⟨List.range ops.size, by simp, fun j hj _ => List.mem_range.2 hj⟩
  have hany := (any_of_tree h1 h2 t _ [] s hcl (fun _ h => by cases h) h).1 _ hcov h3
  exact wp_region_any hm (anyR_sound (fun _ _ h => h) _ _ _ _ _ _ hr.drew.2 hr.drew.1 hany)

theorem T_seq {x y : Code} (h : T P x (thenA (T P y Q) Q) s) : T P (.seq x y) Q s := by
  intro S W0 a w hr
  refine wp_seq (wp_mono (h S W0 a w hr) ?_)
  intro e a' w' ha
  cases e with
  | normal =>
    obtain ⟨S', s', he, hr', hk⟩ := ha
    exact wp_mono (hk S' W0 a' w' hr') fun e _ _ h => h.trans he
  | _ => exact ha

theorem T_skip (h : Q .normal s) : T P .skip Q s := fun S _ _ _ hr => wp_skip ⟨S, s, Evo.refl _ _ _, hr, h⟩
theorem T_label {l : Nat} (h : Q .normal s) : T P (.label l) Q s := fun S _ _ _ hr => wp_label ⟨S, s, Evo.refl _ _ _, hr, h⟩
theorem T_ret (h : Q .ret s) : T P .ret Q s := fun S _ _ _ hr => wp_ret ⟨S, s, Evo.refl _ _ _, hr, h⟩
theorem T_exit {id : Nat} (h : Q (.exit id) s) : T P (.exit id) Q s := fun S _ _ _ hr => wp_exit ⟨S, s, Evo.refl _ _ _, hr, h⟩
theorem T_goto {id : Nat} (h : Q (.goto id) s) : T P (.goto id) Q s := fun S _ _ _ hr => wp_goto ⟨S, s, Evo.refl _ _ _, hr, h⟩

theorem T_cond {c : Operand} {x y : Code} (b : Bool) (hc : s.ev c = .pl (.bool b)) (h : if b = true then T P x Q s else T P y Q s) : T P (.cond c x y) Q s := by
  intro S W0 a w hr
  have hv := hr.ev c
  rw [hc] at hv
  generalize hu : a.eval c = u at hv
  cases hv
  refine wp_cond hu ?_
  cases b with
  | true => exact h S W0 a w hr
  | false => exact h S W0 a w hr

def blockA (id : Nat) (Q : Exit → ASt → Prop) : Exit → ASt → Prop
  | .exit id', s => if id' = id then Q .normal s else Q (.exit id') s
  | e, s => Q e s

theorem T_block {id : Nat} {c : Code} (h : T P c (blockA id Q) s) : T P (.block id c) Q s := by
  intro S W0 a w hr
  refine wp_block (wp_mono (h S W0 a w hr) ?_)
  intro e a' w' ha
  cases e with
  | exit id' =>
    simp only [Exit.inBlock]
    split
    · rename_i e; exact ha.mono fun s h => by simpa [blockA, e] using h
    · rename_i e; exact ha.mono fun s h => by simpa [blockA, e] using h
  | _ => exact ha

theorem T_less {c : Code} (t : Nat → AV) (ht : ∀ j, t j = s.t j ∨ t j = .any) (h : T P c Q ⟨s.n, t, s.H⟩) : T P c Q s :=
  fun S W0 a w hr => h S W0 a w (hr.less t ht)

theorem T_loop {c : Code} (I : ASt → Prop) (m : ASt → Nat) (h0 : I s) (round : ∀ s, I s → T P c (thenA (fun s' => I s' ∧ m s' < m s) Q) s) : T P (.loop c) Q s := by
  intro S W0 a w hr
  refine wp_loop_ghost (fun n a' w' => At W0 S s.H w (fun s' => I s' ∧ m s' = n) a' w') (m s) ⟨S, s, Evo.refl _ _ _, hr, h0, rfl⟩ ?_
  rintro n a' w' ⟨S', s', he, hr', hI, rfl⟩
  refine wp_mono (round s' hI S' W0 a' w' hr') ?_
  intro e a'' w'' ha
  have ha := At.trans he ha
  cases e with
  | normal => obtain ⟨S2, s2, h1, h2, h3, h4⟩ := ha; exact ⟨m s2, h4, S2, s2, h1, h2, h3, rfl⟩
  | _ => exact ha
end

/-! ### Calls -/
def ACall (P : Program) (f : FuncId) (args : List AV) (H : AH) (K : AV → AH → Prop) : Prop :=
  ∀ S W0 w (cs : Array Value), RH S W0 H w → VRs S w args cs.toList → Calls P f cs w fun e w' => ∃ u S' x H', e = .returned u ∧ Evo S H w S' H' w' ∧ RH S' W0 H' w' ∧ VR S' w' x u ∧ K x H'

theorem ACall.mono {P : Program} {f : FuncId} {args : List AV} {H : AH} {K K' : AV → AH → Prop} (h : ACall P f args H K) (hk : ∀ x H', K x H' → K' x H') : ACall P f args H K' :=
  fun S W0 w cs hr ha => (h S W0 w cs hr ha).mono fun _ _ ⟨u, S', x, H', h1, h2, h3, h4, h5⟩ => ⟨u, S', x, H', h1, h2, h3, h4, hk _ _ h5⟩

/-- The results, as told. -/
def ResR (P : Program) (fn : Func) (s : ASt) (v : AV) : Prop := ∀ S W0 a w, Rel S W0 s a w → ∃ u, (results fn a.tmps).run P w = .ok u w ∧ VR S w v u

def bodyA (P : Program) (fn : Func) (K : AV → AH → Prop) (e : Exit) (s : ASt) : Prop := (e = .normal ∨ e = .ret) ∧ ∃ v, ResR P fn s v ∧ K v s.H

theorem ACall_of {P : Program} {f : FuncId} {fn : Func} {c : Code} {args : List AV} {H : AH} {K : AV → AH → Prop} (hf : P.funcs[f]? = some fn) (hb : fn.body = some c)
    (hn : args.length ≤ fn.ntmps) (h : T P c (bodyA P fn K) ⟨fn.ntmps, fun j => args.getD j .any, H⟩) : ACall P f args H K := by
  intro S W0 w cs hr ha
  refine calls_of_wp hf hb ?_
  have hl : args.length = cs.size := by have := ha.1; simpa using this
  have hrel : Rel S W0 ⟨fn.ntmps, fun j => args.getD j .any, H⟩ { tmps := cs ++ Array.replicate (fn.ntmps - cs.size) undef, defers := [] } w := by
    refine ⟨rfl, by simp; omega, fun j hj => ?_, fun j v hv => ?_, hr⟩
    · simp only at hj ⊢
      rw [List.getD_eq_getElem?_getD, List.getElem?_eq_none (by omega)]
      rfl
    simp only at hv ⊢
    rw [List.getD_eq_getElem?_getD]
    rcases Nat.lt_or_ge j args.length with hlt | hlt
    · rw [List.getElem?_eq_getElem hlt]
      rw [Array.getElem?_append, if_pos (hl ▸ hlt)] at hv
      exact ha.2 j _ v (List.getElem?_eq_getElem hlt) (by simpa using hv)
    · rw [List.getElem?_eq_none hlt]
      exact .any _
  refine wp_mono (h S W0 _ w hrel) ?_
  rintro e a' w' ⟨S', s', he, hr', hk, v, hres, hK⟩
  obtain ⟨u, h1, h2⟩ := hres S' W0 a' w' hr'
  rcases hk with rfl | rfl
  · exact ⟨hr'.defers, u, h1, u, S', v, s'.H, rfl, he, hr'.heap, h2, hK⟩
  · exact ⟨hr'.defers, u, h1, u, S', v, s'.H, rfl, he, hr'.heap, h2, hK⟩
end Go.Ab
