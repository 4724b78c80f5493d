/-
  From abstract steps to the machine: regions, code, calls.
-/
import Derived.Test.YtmpncpamndhmcaaGreatAbC
import Derived.OrdersIn
import Derived.Deep.LoopGhost
import Derived.Laws.World
import Derived.RangeFuncLeaves
namespace Go.Ab
open Go.RowKit

section
variable {P : Program} {ops : Array Oper}

/-- The machine is somewhere that K tells. -/
def At (B : Nat) (W0 : World) (S : Nat → Prop) (H : AH) (w : World) (K : ASt → Prop) (a' : Act) (w' : World) : Prop :=
  ∃ S' s', Evo S H w S' s'.H w' ∧ Rel B S' W0 s' a' w' ∧ K s'

theorem At.trans {B : Nat} {W0 w w1 : World} {S S1 : Nat → Prop} {H H1 : AH} {K : ASt → Prop} {a' : Act} {w' : World} (he : Evo S H w S1 H1 w1) (h : At B W0 S1 H1 w1 K a' w') : At B W0 S H w K a' w' := by
  obtain ⟨S', s', h1, h2, h3⟩ := h
  exact ⟨S', s', he.trans h1, h2, h3⟩

theorem At.mono {B : Nat} {W0 w : World} {S : Nat → Prop} {H : AH} {K K' : ASt → Prop} {a' : Act} {w' : World} (hk : ∀ s, K s → K' s) (h : At B W0 S H w K a' w') : At B W0 S H w K' a' w' := by
  obtain ⟨S', s', h1, h2, h3⟩ := h
  exact ⟨S', s', h1, h2, hk _ h3⟩

theorem want_sound {o : Oper} {B : Nat} {S : Nat → Prop} {W0 : World} {s : ASt} {a : Act} {w : World} {b : Bool} (h : wantA ops o s = some b) (hr : Rel B S W0 s a w) : Region.wanted o (yielded ops a.tmps) = b := by
  unfold wantA at h
  unfold Region.wanted
  cases hg : o.guard with
  | none => simp only [hg, Option.some.injEq] at h ⊢; exact h
  | some gw =>
    obtain ⟨g, want⟩ := gw
    simp only [hg] at h ⊢
    unfold yielded
    cases ht : (ops[g]?).bind (·.dst) with
    | none => simp [ht] at h
    | some t =>
      simp only [ht, Option.bind_some] at h ⊢
      cases hu : a.tmps[t]? with
      | none =>
        have : s.n ≤ t := by
          rw [hr.len]
          rcases Nat.lt_or_ge t a.tmps.size with h1 | h1
          · rw [Array.getElem?_eq_getElem h1] at hu; cases hu
          · exact h1
        rw [hr.out t this] at h
        cases h
      | some u =>
        have hv := hr.val t u hu
        generalize s.t t = x at h hv
        cases hv with
        | pl => cases u <;> simp_all
        | _ => simp at h

theorem evo_alloc {S : Nat → Prop} {W0 w : World} {H : AH} (hr : RH S W0 H w) (cs : List AV) (C : Array Value) (e : TypeId) (hl : cs.length ≤ C.size)
    (hv : ∀ (j : Nat) (a : AV) (v : Value), cs[j]? = some a → C[j]? = some v → VR S w a v) :
    H w.heap.size = none ∧ Evo S H w S (upd H w.heap.size (.cells cs)) (w.alloc (.cells C e)) ∧ RH S W0 (upd H w.heap.size (.cells cs)) (w.alloc (.cells C e)) := by
  have hn : H w.heap.size = none := by
    cases e : H w.heap.size with
    | none => rfl
    | some o => exact absurd (hr.lt _ o e) (by omega)
  have hsz : (w.alloc (.cells C e)).heap.size = w.heap.size + 1 := by show (w.heap.push _).size = _; simp
  have hev : Evo S H w S (upd H w.heap.size (.cells cs)) (w.alloc (.cells C e)) := by
    refine ⟨by omega, fun b hb _ => Below.heap_alloc _ _ _ hb, ?_, fun _ h => h, fun _ h => .inl h, ?_⟩
    · intro b C' T F hb
      have hb' : b < w.heap.size := by
        rcases Nat.lt_or_ge b w.heap.size with h | h
        · exact h
        · rw [Array.getElem?_eq_none h] at hb; cases hb
      exact ⟨C', F, (Below.heap_alloc _ _ _ hb').trans hb, rfl⟩
    · intro b
      rw [kd_upd]
      split
      · rename_i e; exact .inr (.inr (by omega))
      · exact .inr (.inl rfl)
  refine ⟨hn, hev, ⟨hr.below.alloc hr.below.size _, hr.sub, fun b hb => by have := hr.bound b hb; omega, ?_, ?_, ?_⟩⟩
  · intro k o hk
    unfold upd at hk
    split at hk
    · rename_i e; omega
    · have := hr.lt k o hk; omega
  · intro k hk
    rw [kd_upd] at hk
    split at hk
    · rename_i e
      subst e
      intro hs
      have := hr.bound _ hs
      omega
    · exact hr.free k hk
  · intro k o hk
    unfold upd at hk
    split at hk
    · rename_i e
      subst e
      obtain rfl := Option.some.inj hk
      exact ⟨C, e, by show (w.heap.push _)[w.heap.size]? = _; simp, hl, fun j a v ha hv' => (hv j a v ha hv').evo hr hev⟩
    · exact (hr.obj k o hk).evo hr hev (Below.heap_alloc _ _ _ (hr.lt k o hk))

/-- Every machine; a frame of a function's, or of a round's. -/
def FR (r : Option Nat) : Fence := { fn := fun _ => True, depth := none, alive := false, round := r }
theorem semAt_of {r : Option Nat} {ρ : Operand → Value} {o : Oper} {w : World} {n : Value → World → Prop} (h : upon P n ((execOp ρ o).run P w)) : (o.semAt r ρ) = execOp ρ o := by
  refine Oper.semAt_eq r ρ o fun c hc => ?_
  unfold execOp at h
  simp only [hc] at h
  rw [Sem.run_bind] at h
  cases hx : (resolve ρ c o.type).run P w with
  | ok d w' => rw [hx] at h; exact h
  | halt e w' => rw [hx] at h; exact h
theorem uponIn_of {r : Option Nat} {o : Oper} {a : Act} {next : Act → World → Prop} {Q : Exit → Act → World → Prop} {res : Result Next} (h : upon P (fun v w' => next (a.put o.dst v) w') res) : o.uponIn (FR r) 0 P a next Q res := by
  cases res with
  | ok x w' =>
    cases x <;> simp only [upon] at h <;> first | exact h.elim | skip
    · exact h
    · exact h
    · refine ⟨by simp [FR], ?_⟩
      have h := callsIn_wide (n := 0).2 h
      exact CallsIn.mono (F := FR r) h fun e w he => by cases e <;> first | exact he | exact he.elim
    · refine ⟨by simp [FR], ?_⟩
      exact RoundIn.mono (F := FR r) h fun e w he => by cases e <;> first | exact he | exact he.elim
  | halt x w' => exact h.elim
theorem opIn_of {r : Option Nat} {o : Oper} {a : Act} {w : World} {next : Act → World → Prop} {Q : Exit → Act → World → Prop} (h : upon P (fun v w' => next (a.put o.dst v) w') ((execOp a.eval o).run P w)) : o.wpIn (FR r) 0 P a w next Q := by
  refine ⟨fun _ _ => trivial, ?_⟩
  have e : (o.semAt (FR r).round a.eval).run P w = (execOp a.eval o).run P w := by rw [semAt_of h]
  rw [e]
  exact uponIn_of h

/-- Operations that need no room told. -/
theorem stepA_sound {r : Option Nat} {B : Nat} {i : Nat} {S : Nat → Prop} {W0 : World} {s : ASt} {a : Act} {w : World} {K : ASt → Prop} {Q : Exit → Act → World → Prop} (hr : Rel B S W0 s a w) (h : stepA P ops i s K) :
    wpOpIn (FR r) 0 P ops Q i (At B W0 S s.H w K) a w := by
  unfold stepA at h
  unfold wpOpIn
  cases ho : ops[i]? with
  | none => simp only [ho] at h
  | some o =>
    simp only [ho] at h ⊢
    cases hw : wantA ops o s with
    | none => simp only [hw] at h
    | some b =>
      simp only [hw] at h
      rw [want_sound hw hr]
      cases b with
      | false =>
        simp only [Bool.false_eq_true, if_false] at h ⊢
        exact ⟨fun _ _ => trivial, S, _, by rw [ASt.put_H]; exact Evo.refl _ _ _, hr.put o.dst (.pl _), h⟩
      | true =>
        simp only [if_true] at h ⊢
        have hops : ∀ x ∈ o.op.operands, VR S w (s.ev x) (a.eval x) := fun x _ => hr.ev x
        refine opIn_of ?_
        cases hk : kindOf o.op with
        | pu =>
          simp only [hk] at h
          obtain ⟨v, hv, h⟩ := h
          obtain ⟨u, h1, h2⟩ := hv S a.eval w hops
          rw [h1]
          exact ⟨S, _, by rw [ASt.put_H]; exact Evo.refl _ _ _, hr.put o.dst h2, h⟩
        | rd =>
          simp only [hk] at h
          obtain ⟨v, hv, h⟩ := h
          obtain ⟨u, h1, h2⟩ := hv S W0 a.eval w hops hr.heap
          rw [h1]
          exact ⟨S, _, by rw [ASt.put_H]; exact Evo.refl _ _ _, hr.put o.dst h2, h⟩
        | al =>
          simp only [hk] at h
          obtain ⟨ob, hob, h⟩ := h
          obtain ⟨e, he⟩ : ∃ e, o.op = .alloc e := by
            cases hop : o.op with
            | alloc e => exact ⟨e, rfl⟩
            | call c =>
              rw [hop] at hob
              simp [allocOb] at hob
            | _ => simp [hop, kindOf] at hk
          rw [he] at hob
          simp only [allocOb, Option.bind_eq_some_iff, Option.map_eq_some_iff] at hob
          obtain ⟨ti, hti, z, hz, rfl⟩ := hob
          have hrun : (execOp a.eval o).run P w = .ok (.value (.pointer (some ⟨w.heap.size, 0, none⟩))) (w.alloc (.cells z.cells e)) := by
            unfold execOp
            rw [he]
            have h1 : (zeroValue e).run P w = .ok z w := by
              have : zeroValue e = (do match (← typeInfo e).zero with | some v => pure v | none => unsupported (.resourceLimit "a value of more than 2^22 cells")) := rfl
              simp only [zeroValue, typeInfo, program, bind, Sem.bind, Sem.run, hti, pure, hz]
            simp only [zeroValue, typeInfo, program, Instr.alloc, newVar, newRow, newObj, bind, Sem.bind, Sem.run, hti, pure, hz]
            rfl
          rw [hrun]
          obtain ⟨h1, h2, h3⟩ := evo_alloc hr.heap (z.cells.toList.map .pl) z.cells e (by simp) (fun j x v hx hv => by
            simp only [List.getElem?_map, Option.map_eq_some_iff] at hx
            obtain ⟨y, hy, rfl⟩ := hx
            have : z.cells[j]? = some y := by simpa using hy
            rw [this] at hv
            obtain rfl := Option.some.inj hv
            exact .pl _)
          refine ⟨S, (s.put o.dst (ptrA w.heap.size)).wH (upd s.H w.heap.size (.cells (z.cells.toList.map .pl))), h2, ?_, h _ h1⟩
          have := hr.put o.dst (x := ptrA w.heap.size) (v := .pointer (some ⟨w.heap.size, 0, none⟩)) (.pl _)
          exact this.evo (by rw [ASt.put_H]; exact h2) h3
        | ef =>
          simp only [hk] at h
          have := h S W0 a.eval w hops hr.heap
          refine upon_mono ?_ this
          rintro u w' ⟨S', x, H', h1, h2, h3, h4⟩
          refine ⟨S', _, h1, ?_, h4⟩
          have h5 := (hr.evo h1 h2).put o.dst h3
          have e : (⟨s.n, s.t, H'⟩ : ASt).put o.dst x = (s.put o.dst x).wH H' := by cases o.dst <;> rfl
          rw [e] at h5
          exact h5

theorem anyR_sound {r : Option Nat} {B : Nat} {M : List Nat} {I : List (Nat × AV)} {K : ASt → Prop} {Q : Exit → Act → World → Prop} {W0 w0 : World} {S0 : Nat → Prop} {H0 : AH} (hQ : ∀ a w, At B W0 S0 H0 w0 K a w → Q .normal a w) :
    ∀ (n : Nat) (l : Array Bool) (s : ASt) (S : Nat → Prop) (a : Act) (w : World), Evo S0 H0 w0 S s.H w → Rel B S W0 s a w → anyR P ops M I K n l s → wpAnyIn (FR r) 0 P .any ops Q n l a w
  | 0, _, s, S, _, _, he, hr, h => ⟨h.1, hQ _ _ ⟨S, s, he, hr, h.2⟩⟩
  | n + 1, _, s, S, _, _, he, hr, h => ⟨fun e => hQ _ _ ⟨S, s, he, hr, h.1 e⟩, fun i hi => wpOpIn_mono (fun a' w' ⟨S', s', he', hr', h'⟩ => anyR_sound hQ n _ s' S' a' w' (he.trans he') hr' h'.2) (stepA_sound hr (h.2 i hi))⟩

/-- One operation after the other. -/
def seqN (P : Program) (ops : Array Oper) : List Nat → (ASt → Prop) → ASt → Prop
  | [], K, s => K s
  | i :: r, K, s => stepA P ops i s (seqN P ops r K)

theorem seqN_sound {r : Option Nat} {B : Nat} {K : ASt → Prop} {Q : Exit → Act → World → Prop} {W0 w0 : World} {S0 : Nat → Prop} {H0 : AH} (hQ : ∀ a w, At B W0 S0 H0 w0 K a w → Q .normal a w) :
    ∀ (rs : List Nat) (s : ASt) (S : Nat → Prop) (a : Act) (w : World), Evo S0 H0 w0 S s.H w → Rel B S W0 s a w → seqN P ops rs K s → wpOpsIn (FR r) 0 P ops Q rs a w
  | [], s, S, _, _, he, hr, h => hQ _ _ ⟨S, s, he, hr, h⟩
  | i :: r, s, S, _, _, he, hr, h => by
    rw [wpOpsIn_cons]
    exact wpOpIn_mono (fun a' w' ⟨S', s', he', hr', h'⟩ => seqN_sound hQ r s' S' a' w' (he.trans he') hr' h') (stepA_sound hr h)
end

/-! ### Code -/
/-- No range over a function in it. -/
def noRF : Code → Bool
  | .seq a b | .cond _ a b => noRF a && noRF b
  | .block _ a | .loop a | .scope a => noRF a
  | .rangeFunc .. => false
  | _ => true
/-- From a state that is told, the code comes to an end that is told: in a function's frame, and, where it has no range over a function, in a round's. -/
def T (P : Program) (c : Code) (Q : Exit → ASt → Prop) (s : ASt) : Prop :=
  ∀ r, (r = none ∨ noRF c = true) → ∀ B S W0 a w, Rel B S W0 s a w → c.wpIn (FR r) 0 P (fun e a' w' => At B W0 S s.H w (Q e) a' w') a w

def thenA (next : ASt → Prop) (Q : Exit → ASt → Prop) : Exit → ASt → Prop
  | .normal, s => next s
  | e, s => Q e s

theorem Rel.drew {B : Nat} {S : Nat → Prop} {W0 : World} {s : ASt} {a : Act} {w : World} (h : Rel B S W0 s a w) : Rel B S W0 s a w.drew ∧ Evo S s.H w S s.H w.drew := by
  have he : Evo S s.H w S s.H w.drew := ⟨Nat.le_refl _, fun _ _ _ => rfl, fun _ C _ F h => ⟨C, F, h, rfl⟩, fun _ h => h, fun _ h => .inl h, fun _ => .inr (.inl rfl)⟩
  have hr : RH S W0 s.H w.drew := ⟨h.heap.below.drew, h.heap.sub, h.heap.bound, h.heap.lt, h.heap.free, fun k o hk => (h.heap.obj k o hk).evo h.heap he rfl⟩
  exact ⟨h.evo he hr, he⟩

theorem wpIn_loop_ghost {F : Fence} {n : Nat} {P : Program} {Q : Exit → Act → World → Prop} {a : Act} {w : World} {c : Code} (I : Nat → Act → World → Prop) (n₀ : Nat) (h₀ : I n₀ a w)
    (round : ∀ k a w, I k a w → c.wpIn F n P (Exit.then (fun a' w' => ∃ n', n' < k ∧ I n' a' w') Q) a w) : (Code.loop c).wpIn F n P Q a w := by
  refine wpIn_loop (fun a w => ∃ n, I n a w) (fun a w => leastOf (fun n => I n a w)) ⟨n₀, h₀⟩ ?_
  intro a w hI
  refine wpIn_mono (round _ a w (leastOf_spec hI).1) ?_
  intro e a' w' hq
  cases e with
  | normal =>
    obtain ⟨n', hlt, hI'⟩ := hq
    exact show (∃ n, I n a' w') ∧ leastOf (fun n => I n a' w') < leastOf (fun n => I n a w) from ⟨⟨n', hI'⟩, Nat.lt_of_le_of_lt ((leastOf_spec ⟨n', hI'⟩).2 n' hI') hlt⟩
  | exit id => exact hq
  | goto l => exact hq
  | ret => exact hq
  | panic ch => exact hq
  | outgrown => exact hq

theorem stepR_scope {P : Program} {b : Frame} {a : Act} {k : List Item} {cs : List Frame} {w : World} {c : Code} : step P (lone (b.atR a (.code (.scope c) :: k)) cs w) = .next (lone (b.atR a (.code c :: .inScope c :: k)) cs w) :=
  step_lone_go (by simp [stepG, stepG.exec, Frame.atR])
theorem stepR_inScope {P : Program} {b : Frame} {a : Act} {k : List Item} {cs : List Frame} {w : World} {c : Code} : step P (lone (b.atR a (.inScope c :: k)) cs w) = .next (lone (b.atR a k) cs w) :=
  step_lone_go (by simp [stepG, stepG.exec, Frame.atR])
theorem wpIn_scope_straight {F : Fence} {n : Nat} {P : Program} {Q : Exit → Act → World → Prop} {a : Act} {w : World} {c : Code} (h : c.wpIn F n P (fun e a w => match e with | .goto _ => False | e => Q e a w) a w) : (Code.scope c).wpIn F n P Q a w := by
  intro b k cs hro hb hr
  have h0 : (lone (b.atR a (.code (.scope c) :: k)) cs w).fenced P F := fenced_calm hb hr rfl
  obtain ⟨e, a₁, w₁, hq, harr⟩ := h b (.inScope c :: k) cs hro hb hr
  cases e with
  | normal => exact ⟨.normal, a₁, w₁, hq, .head h0 stepR_scope (StepsIn.trans harr (.one (fenced_calm hb hr rfl) stepR_inScope))⟩
  | exit id =>
    have hx : exitTo id (.inScope c :: k) = exitTo id k := by simp [exitTo]
    exact ⟨.exit id, a₁, w₁, hq, fun k' hk => .head h0 stepR_scope (harr.1 k' (by rw [hx]; exact hk)),
      fun hr' hk => let ⟨k₁, h1, h2⟩ := harr.2 hr' (by rw [hx]; exact hk); ⟨k₁, h1, .head h0 stepR_scope h2⟩⟩
  | goto l => exact hq.elim
  | ret => exact ⟨_, a₁, w₁, hq, .of_steps (.one h0 stepR_scope) harr⟩
  | panic ch => exact ⟨_, a₁, w₁, hq, .of_steps (.one h0 stepR_scope) harr⟩
  | outgrown => exact ⟨_, a₁, w₁, hq, .of_steps (.one h0 stepR_scope) harr⟩

section
variable {P : Program} {Q : Exit → ASt → Prop} {s : ASt}

theorem T.mono {c : Code} {Q' : Exit → ASt → Prop} (h : T P c Q s) (hq : ∀ e s, Q e s → Q' e s) : T P c Q' s :=
  fun r hn B S W0 a w hr => wpIn_mono (h r hn B S W0 a w hr) fun e _ _ ha => ha.mono (hq e)

theorem T_region {id : Nat} {ops : Array Oper} (h : seqN P ops (List.range ops.size) (Q .normal) s) : T P (.region id ops false) Q s :=
  fun _ _ _ _ _ _ _ hr => wpIn_region (seqN_sound (fun _ _ h => h) _ _ _ _ _ (Evo.refl _ _ _) hr h)

theorem T_regionD {id : Nat} {ops : Array Oper} (plan : List Nat) (hm : P.follows .mixedOrders = true) (hp : planned P ops plan = true) (h : seqD P ops (masks ops.toList) plan [] (Q .normal) s) : T P (.region id ops true) Q s := by
  intro r hn B S W0 a w hr
  simp only [planned, Bool.and_eq_true] at hp
  obtain ⟨⟨⟨⟨h0, h1⟩, h2⟩, h3⟩, h4⟩ := hp
  have hcov : ∀ j, j < ops.size → (Array.replicate ops.size false).getD j false = false → j ∈ plan := fun j hj _ => by
    simpa using List.all_eq_true.1 h4 j (List.mem_range.2 hj)
  have hcl : Closed ops (Array.replicate ops.size false) := by
    intro j o _ hl
    simp [Array.getD_eq_getD_getElem?, Array.getElem?_replicate] at hl
    split at hl <;> simp at hl
  have hany := any_of_seq h1 h2 plan _ [] s hcl (fun _ h => by cases h) hcov h3 h
  have h0 : plan.length = ops.size := by simpa using h0
  rw [h0] at hany
  exact wpIn_region_any hm (anyR_sound (fun _ _ h => h) _ _ _ _ _ _ hr.drew.2 hr.drew.1 hany)

theorem T_regionT {id : Nat} {ops : Array Oper} (t : PT) (hm : P.follows .mixedOrders = true) (h1 : masksOk ops (masks ops.toList) = true) (h2 : readsOk ops (masks ops.toList) = true) (h3 : treeOk P ops (masks ops.toList) false (Array.replicate ops.size false) t = true)
    (h : seqT P ops (masks ops.toList) t [] (Q .normal) s) : T P (.region id ops true) Q s := by
  intro r hn B S W0 a w hr
  have hcl : Closed ops (Array.replicate ops.size false) := by
    intro j o _ hl
    simp [Array.getD_eq_getD_getElem?, Array.getElem?_replicate] at hl
    split at hl <;> simp at hl
  have hcov : Cov ops (Array.replicate ops.size false) ops.size := ⟨List.range ops.size, by simp, fun j hj _ => List.mem_range.2 hj⟩
  have hany := (any_of_tree h1 h2 t _ [] s hcl (fun _ h => by cases h) h).1 _ hcov h3
  exact wpIn_region_any hm (anyR_sound (fun _ _ h => h) _ _ _ _ _ _ hr.drew.2 hr.drew.1 hany)

theorem T_seq {x y : Code} (h : T P x (thenA (T P y Q) Q) s) : T P (.seq x y) Q s := by
  intro r hn B S W0 a w hr
  have hn1 : r = none ∨ noRF x = true := hn.imp id fun e => by simp only [noRF, Bool.and_eq_true] at e; exact e.1
  have hn2 : r = none ∨ noRF y = true := hn.imp id fun e => by simp only [noRF, Bool.and_eq_true] at e; exact e.2
  refine wpIn_seq (wpIn_mono (h r hn1 B S W0 a w hr) ?_)
  intro e a' w' ha
  cases e with
  | normal =>
    obtain ⟨S', s', he, hr', hk⟩ := ha
    exact wpIn_mono (hk r hn2 B S' W0 a' w' hr') fun e _ _ h => h.trans he
  | _ => exact ha

theorem T_skip (h : Q .normal s) : T P .skip Q s := fun _ _ _ S _ _ _ hr => wpIn_skip ⟨S, s, Evo.refl _ _ _, hr, h⟩
theorem T_label {l : Nat} (h : Q .normal s) : T P (.label l) Q s := fun _ _ _ S _ _ _ hr => wpIn_label ⟨S, s, Evo.refl _ _ _, hr, h⟩
theorem T_ret (h : Q .ret s) : T P .ret Q s := fun _ _ _ S _ _ _ hr => wpIn_ret ⟨S, s, Evo.refl _ _ _, hr, h⟩
theorem T_exit {id : Nat} (h : Q (.exit id) s) : T P (.exit id) Q s := fun _ _ _ S _ _ _ hr => wpIn_exit ⟨S, s, Evo.refl _ _ _, hr, h⟩
theorem T_cond {c : Operand} {x y : Code} (b : Bool) (hc : s.ev c = .pl (.bool b)) (h : if b = true then T P x Q s else T P y Q s) : T P (.cond c x y) Q s := by
  intro r hn B S W0 a w hr
  have hn1 : r = none ∨ noRF x = true := hn.imp id fun e => by simp only [noRF, Bool.and_eq_true] at e; exact e.1
  have hn2 : r = none ∨ noRF y = true := hn.imp id fun e => by simp only [noRF, Bool.and_eq_true] at e; exact e.2
  have hv := hr.ev c
  rw [hc] at hv
  generalize hu : a.eval c = u at hv
  cases hv
  refine wpIn_cond hu ?_
  cases b with
  | true => exact h r hn1 B S W0 a w hr
  | false => exact h r hn2 B S W0 a w hr

def blockA (id : Nat) (Q : Exit → ASt → Prop) : Exit → ASt → Prop
  | .exit id', s => if id' = id then Q .normal s else Q (.exit id') s
  | e, s => Q e s

theorem T_block {id : Nat} {c : Code} (h : T P c (blockA id Q) s) : T P (.block id c) Q s := by
  intro r hn B S W0 a w hr
  refine wpIn_block (wpIn_mono (h r hn B S W0 a w hr) ?_)
  intro e a' w' ha
  cases e with
  | exit id' =>
    simp only [Exit.inBlock]
    split
    · rename_i e; exact ha.mono fun s h => by simpa [blockA, e] using h
    · rename_i e; exact ha.mono fun s h => by simpa [blockA, e] using h
  | _ => exact ha

theorem T_less {c : Code} (t : Nat → AV) (ht : ∀ j, t j = s.t j ∨ t j = .any) (h : T P c Q ⟨s.n, t, s.H⟩) : T P c Q s :=
  fun r hn B S W0 a w hr => h r hn B S W0 a w (hr.less t ht)

end

/-! ### Calls -/
def ACall (P : Program) (f : FuncId) (args : List AV) (H : AH) (K : AV → AH → Prop) : Prop :=
  ∀ S W0 w (cs : Array Value), RH S W0 H w → VRs S w args cs.toList → Calls P f cs w fun e w' => ∃ u S' x H', e = .returned u ∧ Evo S H w S' H' w' ∧ RH S' W0 H' w' ∧ VR S' w' x u ∧ K x H'

theorem ACall.mono {P : Program} {f : FuncId} {args : List AV} {H : AH} {K K' : AV → AH → Prop} (h : ACall P f args H K) (hk : ∀ x H', K x H' → K' x H') : ACall P f args H K' :=
  fun S W0 w cs hr ha => (h S W0 w cs hr ha).mono fun _ _ ⟨u, S', x, H', h1, h2, h3, h4, h5⟩ => ⟨u, S', x, H', h1, h2, h3, h4, hk _ _ h5⟩

/-- The results, as told. -/
def ResR (P : Program) (fn : Func) (s : ASt) (v : AV) : Prop := ∀ B S W0 a w, Rel B S W0 s a w → ∃ u, (results fn a.tmps).run P w = .ok u w ∧ VR S w v u

def bodyA (P : Program) (fn : Func) (K : AV → AH → Prop) (e : Exit) (s : ASt) : Prop := (e = .normal ∨ e = .ret) ∧ ∃ v, ResR P fn s v ∧ K v s.H

/-- The way out: the marks are taken, then the results are told. -/
theorem leave_marks {P : Program} {fn : Func} {R : Ending → World → Prop} {B : Nat} {S : Nat → Prop} {W0 : World} {s : ASt} {tm : Array Value} {S0 : Nat → Prop} {H0 : AH} {w0 : World} (hB : B = w0.heap.size)
    (hR : ∀ w, Rel B S W0 s ⟨tm, []⟩ w → Evo S0 H0 w0 S s.H w → ∃ v, (results fn tm).run P w = .ok v w ∧ R (.returned v) w) :
    ∀ (Ds : List Nat) (w : World), Rel B S W0 s ⟨tm, marks Ds⟩ w → Evo S0 H0 w0 S s.H w → LeavesInM Fence.wide 0 P fn tm R (marks Ds) .returning w
  | [], w, hr, he => hR w hr he
  | D :: Ds, w, hr, he => by
    obtain ⟨h1, h2, h3, h4, h5⟩ := hr.mark (P := P)
    refine ⟨by simp, .inl ⟨D, _, rfl, h1, leave_marks hB hR Ds _ h2 ⟨?_, ?_, ?_, he.up, ?_, ?_⟩⟩⟩
    · simpa using he.size
    · intro b hb hk
      rw [World.putObj_heap_other (by omega)]
      exact he.same b hb hk
    · intro b C T F hc
      obtain ⟨C', F', g1, g2⟩ := he.cells b C T F hc
      refine ⟨C', F', ?_, g2⟩
      have hb : b < w0.heap.size := (Array.getElem?_eq_some_iff.1 hc).1
      rw [World.putObj_heap_other (by omega)]
      exact g1
    · intro b hb
      exact he.new b hb
    · exact he.dom

theorem ACall_of {P : Program} {f : FuncId} {fn : Func} {c : Code} {args : List AV} {H : AH} {K : AV → AH → Prop} (hf : P.funcs[f]? = some fn) (hb : fn.body = some c)
    (hn : args.length ≤ fn.ntmps) (h : T P c (bodyA P fn K) ⟨fn.ntmps, fun j => args.getD j .any, H⟩) : ACall P f args H K := by
  intro S W0 w cs hr ha
  refine callsIn_wide.1 (callsIn_of_wp_marks (F := Fence.wide) (n := 0) hf hb trivial ?_)
  have hl : args.length = cs.size := by have := ha.1; simpa using this
  have hrel : Rel w.heap.size S W0 ⟨fn.ntmps, fun j => args.getD j .any, H⟩ { tmps := cs ++ Array.replicate (fn.ntmps - cs.size) undef, defers := [] } w := by
    refine ⟨⟨[], rfl, List.nodup_nil, fun D hD => by cases hD⟩, Nat.le_refl _, hr.below.size, by simp; omega, fun j hj => ?_, fun j v hv => ?_, hr⟩
    · simp only at hj ⊢
      rw [List.getD_eq_getElem?_getD, List.getElem?_eq_none (by omega)]
      rfl
    simp only at hv ⊢
    rw [List.getD_eq_getElem?_getD]
    rcases Nat.lt_or_ge j args.length with hlt | hlt
    · rw [List.getElem?_eq_getElem hlt]
      rw [Array.getElem?_append, if_pos (hl ▸ hlt)] at hv
      exact ha.2 j _ v (List.getElem?_eq_getElem hlt) (by simpa using hv)
    · rw [List.getElem?_eq_none hlt]
      exact .any _
  refine wpIn_mono (h none (.inl rfl) _ S W0 _ w hrel) ?_
  rintro e a' w' ⟨S', s', he, hr', hk, v, hres, hK⟩
  have fin : LeavesInM Fence.wide 0 P fn a'.tmps (fun e w' => ∃ u S' x H', e = .returned u ∧ Evo S H w S' H' w' ∧ RH S' W0 H' w' ∧ VR S' w' x u ∧ K x H') a'.defers .returning w' := by
    obtain ⟨tm, df⟩ := a'
    obtain ⟨Ds, hd, _⟩ := hr'.defers
    obtain rfl : df = marks Ds := hd
    refine leave_marks rfl (fun w2 hr2 he2 => ?_) Ds w' hr' he
    obtain ⟨u, h1, h2⟩ := hres _ S' W0 _ w2 hr2
    exact ⟨u, h1, u, S', v, s'.H, rfl, he2, hr2.heap, h2, hK⟩
  rcases hk with rfl | rfl
  · exact fin
  · exact fin
end Go.Ab
