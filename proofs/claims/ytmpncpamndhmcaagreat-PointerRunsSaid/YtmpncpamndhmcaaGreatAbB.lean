/-
  A region that leaves its order open: what holds in one order that is planned ahead holds in every order.
-/
import Derived.Test.YtmpncpamndhmcaaGreatAbA
namespace Go.Ab
open Go.RowKit

inductive Kind where
  | pu | rd | al | ef
  deriving DecidableEq

/-- pu: numbers and addresses. rd: reads memory. al: a new variable. ef: all else. -/
def kindOf : Op → Kind
  | .move _ | .assign _ | .pick .. | .build .. | .nilCheck _ | .binOp .. | .unOp .. | .convert .. | .fieldAddr .. | .field .. | .indexAddr .. | .index .. | .extract .. | .slice .. | .makeFunc .. => .pu
  | .load .. | .lookup .. => .rd
  | .call { callee := .builtin .cap, .. } | .call { callee := .builtin .min, .. } | .call { callee := .builtin .max, .. } => .pu
  | .call { callee := .builtin .len, .. } => .rd
  | .alloc _ => .al
  | _ => .ef

def ASt.wH (s : ASt) (H : AH) : ASt := ⟨s.n, s.t, H⟩
@[simp] theorem ASt.wH_H (s : ASt) (H : AH) : (s.wH H).H = H := rfl
@[simp] theorem ASt.wH_wH (s : ASt) (H H' : AH) : (s.wH H).wH H' = s.wH H' := rfl
@[simp] theorem ASt.wH_t (s : ASt) (H : AH) : (s.wH H).t = s.t := rfl

/-- Is an operation wanted? -/
def wantA (ops : Array Oper) (o : Oper) (s : ASt) : Option Bool :=
  match o.guard with
  | none => some true
  | some (j, want) =>
    match (ops[j]?).bind (·.dst) with
    | some t => match s.t t with
      | .pl (.bool b) => some (b == want)
      | .pl _ => some false
      | _ => none
    | none => none

def allocOb (P : Program) : Op → Option AO
  | .alloc e => (P.info? e).bind fun i => i.zero.map fun z => .cells (z.cells.toList.map .pl)
  | _ => none

theorem allocOb_kd {P : Program} {o : Op} {ob : AO} (h : allocOb P o = some ob) : kd (some ob) = 2 := by
  cases o with
  | alloc e =>
    simp only [allocOb, Option.bind_eq_some_iff, Option.map_eq_some_iff] at h
    obtain ⟨_, _, _, _, rfl⟩ := h
    rfl
  | _ => simp [allocOb] at h

def ptrA (k : Nat) : AV := .pl (.pointer (some ⟨k, 0, none⟩))

/-- An operation that changes nothing here. -/
def Ls (P : Program) (ops : Array Oper) (c : Nat) (v : AV) (s : ASt) : Prop :=
  ∃ o, ops[c]? = some o ∧ ((wantA ops o s = some false ∧ v = undefA) ∨
    (wantA ops o s = some true ∧ ((kindOf o.op = .pu ∧ Pu P o s.ev v) ∨ (kindOf o.op = .rd ∧ Rd P o s.ev s.H v))))

def stepA (P : Program) (ops : Array Oper) (i : Nat) (s : ASt) (K : ASt → Prop) : Prop :=
  match ops[i]? with
  | none => False
  | some o =>
    match wantA ops o s with
    | none => False
    | some false => K (s.put o.dst undefA)
    | some true =>
      match kindOf o.op with
      | .pu => ∃ v, Pu P o s.ev v ∧ K (s.put o.dst v)
      | .rd => ∃ v, Rd P o s.ev s.H v ∧ K (s.put o.dst v)
      | .al => ∃ ob, allocOb P o.op = some ob ∧ ∀ k, s.H k = none → K (ASt.wH (s.put o.dst (ptrA k)) (upd s.H k ob))
      | .ef => OpR P o s.ev s.H fun v H' => K (ASt.wH (s.put o.dst v) (H'))

theorem stepA_mono {P : Program} {ops : Array Oper} {i : Nat} {s : ASt} {K K' : ASt → Prop} (h : ∀ s, K s → K' s) (hs : stepA P ops i s K) : stepA P ops i s K' := by
  unfold stepA at *
  cases ho : ops[i]? with
  | none => simp only [ho] at hs
  | some o =>
    simp only [ho] at hs ⊢
    cases hw : wantA ops o s with
    | none => simp only [hw] at hs
    | some b =>
      simp only [hw] at hs ⊢
      cases b with
      | false => exact h _ hs
      | true =>
        simp only at hs ⊢
        cases hk : kindOf o.op with
        | pu => simp only [hk] at hs ⊢; exact let ⟨v, h1, h2⟩ := hs; ⟨v, h1, h _ h2⟩
        | rd => simp only [hk] at hs ⊢; exact let ⟨v, h1, h2⟩ := hs; ⟨v, h1, h _ h2⟩
        | al => simp only [hk] at hs ⊢; exact let ⟨ob, h1, h2⟩ := hs; ⟨ob, h1, fun k hk => h _ (h2 k hk)⟩
        | ef => simp only [hk] at hs ⊢; exact hs.mono fun v H' h1 => h _ h1

theorem stepA_ls {P : Program} {ops : Array Oper} {i : Nat} {o : Oper} {v : AV} {s : ASt} {K : ASt → Prop} (ho : ops[i]? = some o) (hl : Ls P ops i v s) (hk : K (s.put o.dst v)) : stepA P ops i s K := by
  obtain ⟨o', ho', h⟩ := hl
  obtain rfl := Option.some.inj (ho.symm.trans ho')
  unfold stepA
  simp only [ho]
  rcases h with ⟨hw, rfl⟩ | ⟨hw, ⟨hk', hp⟩ | ⟨hk', hp⟩⟩
  · simp only [hw]; exact hk
  · simp only [hw, hk']; exact ⟨v, hp, hk⟩
  · simp only [hw, hk']; exact ⟨v, hp, hk⟩

/-! ### What comes before what -/
def maskAt (o : Oper) (M : List Nat) : Nat := o.after.toList.foldl (fun s e => if Region.binds .any e then s ||| 2 ^ e.on ||| M.getD e.on 0 else s) 0
def masks (ops : List Oper) : List Nat := ops.foldl (fun acc o => acc ++ [maskAt o acc]) []
def masksOk (ops : Array Oper) (M : List Nat) : Bool :=
  (List.range ops.size).all fun j => match ops[j]? with
    | some o => M.getD j 0 == maskAt o M && o.after.toList.all fun e => !Region.binds .any e || decide (e.on < j)
    | none => true
def aft (M : List Nat) (j c : Nat) : Bool := (M.getD j 0).testBit c

theorem testBit_fold (M : List Nat) (c : Nat) : ∀ (l : List Edge) (s : Nat), (l.foldl (fun s e => if Region.binds .any e then s ||| 2 ^ e.on ||| M.getD e.on 0 else s) s).testBit c = true →
    s.testBit c = true ∨ ∃ e ∈ l, Region.binds .any e = true ∧ (e.on = c ∨ aft M e.on c = true)
  | [], s, h => .inl h
  | e :: l, s, h => by
    simp only [List.foldl_cons] at h
    rcases testBit_fold M c l _ h with h1 | ⟨e', he, h1⟩
    · by_cases hb : Region.binds .any e = true
      · simp only [hb, if_true, Nat.testBit_or, Bool.or_eq_true, Nat.testBit_two_pow, decide_eq_true_eq] at h1
        rcases h1 with (h1 | h1) | h1
        · exact .inl h1
        · exact .inr ⟨e, by simp, hb, .inl h1⟩
        · exact .inr ⟨e, by simp, hb, .inr h1⟩
      · simp only [hb] at h1
        exact .inl h1
    · exact .inr ⟨e', by simp [he], h1⟩

/-- Nothing is listed ahead of what it waits for. -/
def Closed (ops : Array Oper) (l : Array Bool) : Prop := ∀ j o, ops[j]? = some o → l.getD j false = true → ∀ e ∈ o.after, Region.binds .any e = true → l.getD e.on false = true

theorem getD_set {l : Array Bool} {i j : Nat} {d : Bool} (hi : i < l.size) : (l.setIfInBounds i true).getD j d = if i = j then true else l.getD j d := by
  simp only [Array.getD_eq_getD_getElem?, Array.getElem?_setIfInBounds]
  split
  · rename_i h; subst h; simp
  · rfl

theorem ready_lt {ops : Array Oper} {l : Array Bool} {j : Nat} (h : j ∈ Region.ready .any ops l) : j < l.size := by
  obtain ⟨h1, _⟩ := mem_ready.1 h
  rcases Nat.lt_or_ge j l.size with h2 | h2
  · exact h2
  · simp [Array.getD_eq_getD_getElem?, Array.getElem?_eq_none h2] at h1

theorem Closed.set {ops : Array Oper} {l : Array Bool} {i : Nat} (h : Closed ops l) (hi : i ∈ Region.ready .any ops l) : Closed ops (l.setIfInBounds i true) := by
  have hl := ready_lt hi
  obtain ⟨_, oi, hoi, hall⟩ := mem_ready.1 hi
  intro j o hj hlj e he hb
  rw [getD_set hl] at hlj ⊢
  split
  · rfl
  · by_cases hij : i = j
    · subst hij
      obtain rfl := Option.some.inj (hoi.symm.trans hj)
      exact hall e he hb
    · rw [if_neg hij] at hlj
      exact h j o hj hlj e he hb

/-- What may come up does not wait for what has not. -/
theorem not_aft {ops : Array Oper} {M : List Nat} (hM : masksOk ops M = true) {l : Array Bool} (hc : Closed ops l) {c : Nat} (hun : l.getD c false = false) :
    ∀ (n j : Nat), j < n → ((∃ o, ops[j]? = some o) ∧ l.getD j false = true ∨ j ∈ Region.ready .any ops l) → aft M j c = false := by
  intro n
  induction n with
  | zero => intro j h; omega
  | succ n ih =>
    intro j hj h
    have hall : ∃ o, ops[j]? = some o ∧ ∀ e ∈ o.after, Region.binds .any e = true → l.getD e.on false = true := by
      rcases h with ⟨⟨o, ho⟩, hl⟩ | h
      · exact ⟨o, ho, hc j o ho hl⟩
      · obtain ⟨_, o, ho, h1⟩ := mem_ready.1 h
        exact ⟨o, ho, h1⟩
    obtain ⟨o, ho, hall⟩ := hall
    have hlt : j < ops.size := (Array.getElem?_eq_some_iff.1 ho).1
    have h1 := List.all_eq_true.1 hM j (List.mem_range.2 hlt)
    simp only [ho, Bool.and_eq_true, beq_iff_eq, List.all_eq_true] at h1
    obtain ⟨h1, h2⟩ := h1
    cases hab : aft M j c with
    | false => rfl
    | true =>
      unfold aft at hab
      rw [h1] at hab
      rcases testBit_fold M c _ 0 hab with h3 | ⟨e, he, hb, h3⟩
      · simp at h3
      · have he' : e ∈ o.after := by simpa using he
        have hle := hall e he' hb
        have hlt' : e.on < j := by
          have := h2 e he
          simpa [hb] using this
        rcases h3 with h3 | h3
        · rw [h3, hun] at hle; cases hle
        · have heo : ∃ o', ops[e.on]? = some o' := ⟨ops[e.on]'(by omega), Array.getElem?_eq_getElem (by omega)⟩
          rw [ih e.on (by omega) (.inl ⟨heo, hle⟩)] at h3
          cases h3

/-! ### Operations that have nothing to do with each other -/
theorem ASt.ev_put {s : ASt} {d : Option Tmp} {v : AV} {x : Operand} (h : ∀ t, d = some t → x ≠ .tmp t) : (s.put d v).ev x = s.ev x := by
  cases d with
  | none => rfl
  | some t =>
    cases x with
    | tmp u =>
      have hne : ¬ (u = t) := fun e => h t rfl (e ▸ rfl)
      simp [ASt.ev, ASt.put, setE, hne]
    | _ => rfl

theorem ASt.put_comm (s : ASt) {x y : Option Tmp} (v u : AV) (h : ∀ d, x = some d → y ≠ some d) : (s.put x v).put y u = (s.put y u).put x v := by
  cases x with
  | none => rfl
  | some d =>
    cases y with
    | none => rfl
    | some e =>
      have hne : d ≠ e := fun he => h d rfl (he ▸ rfl)
      simp only [ASt.put]
      congr 1
      funext j
      simp only [setE]
      by_cases h1 : j = d ∧ d < s.n
      · rw [if_neg (fun h2 : j = e ∧ e < s.n => hne (h1.1.symm.trans h2.1)), if_pos h1, if_pos h1]
      · rw [if_neg h1, if_neg h1]

@[simp] theorem ASt.put_H (s : ASt) (d : Option Tmp) (v : AV) : (s.put d v).H = s.H := by cases d <;> rfl
theorem ASt.put_withH (s : ASt) (d : Option Tmp) (v : AV) (H : AH) : (s.wH H).put d v = (s.put d v).wH H := by cases d <;> rfl
theorem ASt.ev_withH (s : ASt) (H : AH) : ((ASt.wH (s) (H)) : ASt).ev = s.ev := by funext x; cases x <;> rfl

theorem looks_op {ops : Array Oper} {o : Oper} {d : Tmp} (h : d ∉ o.looksAt ops) : ∀ x ∈ o.op.operands, x ≠ .tmp d := by
  intro x hx he
  subst he
  exact h (List.mem_append_left _ (List.mem_filterMap.2 ⟨.tmp d, by simpa using hx, rfl⟩))

theorem wantA_put {ops : Array Oper} {o : Oper} {s : ASt} {d : Option Tmp} {v : AV} (h : ∀ t, d = some t → t ∉ o.looksAt ops) : wantA ops o (s.put d v) = wantA ops o s := by
  cases d with
  | none => rfl
  | some t =>
    unfold wantA
    cases hg : o.guard with
    | none => rfl
    | some gw =>
      obtain ⟨g, want⟩ := gw
      dsimp only
      cases ht : (ops[g]?).bind (·.dst) with
      | none => rfl
      | some u =>
        have hne : t ≠ u := fun e => h t rfl (by subst e; simp [Oper.looksAt, hg, ht])
        simp only [ASt.put, setE, if_neg (show ¬ (u = t ∧ t < s.n) from fun e => hne e.1.symm)]

theorem wantA_withH (ops : Array Oper) (o : Oper) (s : ASt) (H : AH) : wantA ops o (ASt.wH (s) (H)) = wantA ops o s := rfl

theorem ev_put_op {ops : Array Oper} {o : Oper} {s : ASt} {d : Option Tmp} {v : AV} (h : ∀ t, d = some t → t ∉ o.looksAt ops) : ∀ x ∈ o.op.operands, (s.put d v).ev x = s.ev x :=
  fun x hx => ASt.ev_put fun t ht => looks_op (h t ht) x hx

theorem Ls.put {P : Program} {ops : Array Oper} {c : Nat} {o : Oper} {v : AV} {s : ASt} {d : Option Tmp} {u : AV} (ho : ops[c]? = some o) (h : ∀ t, d = some t → t ∉ o.looksAt ops) :
    Ls P ops c v (s.put d u) ↔ Ls P ops c v s := by
  have key : ∀ o', ops[c]? = some o' → o' = o := fun o' h' => Option.some.inj (h'.symm.trans ho)
  constructor
  · rintro ⟨o', ho', h1⟩
    obtain rfl := key o' ho'
    refine ⟨o', ho', ?_⟩
    rw [wantA_put h] at h1
    rcases h1 with h1 | ⟨hw, ⟨hk, hp⟩ | ⟨hk, hp⟩⟩
    · exact .inl h1
    · exact .inr ⟨hw, .inl ⟨hk, hp.congr (ev_put_op h)⟩⟩
    · exact .inr ⟨hw, .inr ⟨hk, by rw [ASt.put_H] at hp; exact hp.congr (ev_put_op h)⟩⟩
  · rintro ⟨o', ho', h1⟩
    obtain rfl := key o' ho'
    refine ⟨o', ho', ?_⟩
    rw [wantA_put h]
    rcases h1 with h1 | ⟨hw, ⟨hk, hp⟩ | ⟨hk, hp⟩⟩
    · exact .inl h1
    · exact .inr ⟨hw, .inl ⟨hk, hp.congr (fun x hx => (ev_put_op h x hx).symm)⟩⟩
    · exact .inr ⟨hw, .inr ⟨hk, by rw [ASt.put_H]; exact hp.congr (fun x hx => (ev_put_op h x hx).symm)⟩⟩

/-! ### The view, less one block -/
theorem RH.less {S : Nat → Prop} {W0 w : World} {H : AH} {k : Nat} {ob : AO} (h : RH S W0 (upd H k ob) w) (hk : H k = none) : RH S W0 H w := by
  have up : ∀ j o, H j = some o → upd H k ob j = some o := by
    intro j o hj
    unfold upd
    rw [if_neg]
    · exact hj
    · intro e; subst e; rw [hk] at hj; cases hj
  exact ⟨h.below, h.sub, h.bound, fun j o hj => h.lt j o (up j o hj), fun j hj => h.free j (by cases e : H j with
    | none => rw [e] at hj; cases hj
    | some o => rw [up j o e, ← e]; exact hj), fun j o hj => h.obj j o (up j o hj)⟩

theorem Rd.more {P : Program} {o : Oper} {ρ : Operand → AV} {H : AH} {v : AV} {k : Nat} (ob : AO) (h : Rd P o ρ H v) (hk : H k = none) : Rd P o ρ (upd H k ob) v :=
  fun S W0 a w ha hr => h S W0 a w ha (hr.less hk)

theorem Ls.more {P : Program} {ops : Array Oper} {c : Nat} {v : AV} {s : ASt} {k : Nat} (ob : AO) (h : Ls P ops c v s) (hk : s.H k = none) : Ls P ops c v (ASt.wH (s) (upd s.H k ob)) := by
  obtain ⟨o, ho, h⟩ := h
  refine ⟨o, ho, ?_⟩
  rw [wantA_withH, ASt.ev_withH]
  rcases h with h | ⟨hw, ⟨hk', hp⟩ | ⟨hk', hp⟩⟩
  · exact .inl h
  · exact .inr ⟨hw, .inl ⟨hk', hp⟩⟩
  · exact .inr ⟨hw, .inr ⟨hk', hp.more ob hk⟩⟩

theorem RH.frame {S S' : Nat → Prop} {W0 w w' : World} {H H' : AH} {k : Nat} {ob : AO} (ho : kd (some ob) = 2) (h : RH S W0 (upd H k ob) w) (hk : H k = none) (he : Evo S H w S' H' w') (hr : RH S' W0 H' w') :
    H' k = none ∧ RH S' W0 (upd H' k ob) w' ∧ Evo S (upd H k ob) w S' (upd H' k ob) w' := by
  have hsame : upd H k ob k = some ob := by simp [upd]
  have hlt : k < w.heap.size := h.lt k ob hsame
  have hfree : ¬ S k := h.free k (by rw [hsame]; exact ho)
  have hk0 : kd (H k) = 0 := by rw [hk]; rfl
  have hk' : H' k = none := by
    refine kd_none.1 ?_
    rcases he.dom k with h1 | h1 | h1 <;> omega
  have hS' : ¬ S' k := fun hs => by
    rcases he.new k hs with h1 | h1 | h1
    · exact hfree h1
    · omega
    · omega
  have hless := h.less hk
  refine ⟨hk', ⟨hr.below, hr.sub, hr.bound, ?_, ?_, ?_⟩, ⟨he.size, ?_, he.cells, he.up, ?_, ?_⟩⟩
  · intro j o hj
    unfold upd at hj
    split at hj
    · rename_i e; subst e; exact Nat.lt_of_lt_of_le hlt he.size
    · exact hr.lt j o hj
  · intro j hj
    rw [kd_upd] at hj
    split at hj
    · rename_i e; subst e; exact hS'
    · exact hr.free j hj
  · intro j o hj
    unfold upd at hj
    split at hj
    · rename_i e
      subst e
      obtain rfl := Option.some.inj hj
      exact (h.obj j ob hsame).evo hless he (he.same j hlt (by omega))
    · exact hr.obj j o hj
  · intro b hb hn
    rw [kd_upd] at hn
    split at hn
    · exact absurd ho hn
    · exact he.same b hb hn
  · intro b hb
    rcases he.new b hb with h1 | h1 | h1
    · exact .inl h1
    · refine .inr (.inl ?_)
      rw [kd_upd]
      split
      · exact ho
      · exact h1
    · exact .inr (.inr h1)
  · intro b
    rw [kd_upd, kd_upd]
    by_cases e : b = k
    · subst e; exact .inr (.inl (by simp))
    · rw [if_neg e, if_neg e]
      exact he.dom b

/-- An operation and a block that it is not told of. -/
theorem OpR.frame {P : Program} {o : Oper} {ρ : Operand → AV} {H : AH} {k : Nat} (ob : AO) (ho : kd (some ob) = 2) {K : AV → AH → Prop} (h : OpR P o ρ H K) (hk : H k = none) :
    OpR P o ρ (upd H k ob) fun v H'' => ∃ H', H' k = none ∧ H'' = upd H' k ob ∧ K v H' := by
  intro S W0 a w ha hr
  refine upon_mono ?_ (h S W0 a w ha (hr.less hk))
  rintro v w' ⟨S', x, H', he, hr', hv, hK⟩
  obtain ⟨h1, h2, h3⟩ := hr.frame ho hk he hr'
  exact ⟨S', x, upd H' k ob, h3, h2, hv, H', h1, rfl, hK⟩
end Go.Ab
