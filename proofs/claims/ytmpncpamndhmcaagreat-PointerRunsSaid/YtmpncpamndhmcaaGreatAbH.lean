/-
  Code and functions, written short; and what is to be shown of them.
-/
import Derived.Test.YtmpncpamndhmcaaGreatAbR
import Derived.Scope
namespace Go.Ab
open Go.RowKit
set_option linter.unusedSimpArgs false
set_option linter.unusedVariables false

/-! ### Steps -/
theorem put_wH_self (s : ASt) (d : Option Tmp) (v : AV) : (s.put d v).wH s.H = s.put d v := by cases d <;> rfl

/-- The value that a step comes to. -/
def istepV (P : Program) (x : GI) (s : ASt) (k : AV → Prop) : Prop :=
  match x.g with
  | none => iop P s.ev s.H (fun v _ => k v) x.i
  | some (t, want) => match s.t t with
    | .pl (.bool b) => ((b == want) = true → iop P s.ev s.H (fun v _ => k v) x.i) ∧ ((b == want) = false → k undefA)
    | .pl _ => k undefA
    | _ => False

section
variable {P : Program} {ops : Array Oper} {c : Nat} {o : Oper} {gi : GI} {s : ASt}

theorem compG_guard (hg : compG P ops o = some gi) : gi.d = o.dst ∧ gi.i = compI P o.op ∧ ((gi.g = none ∧ wantA ops o s = some true) ∨ ∃ t want, gi.g = some (t, want) ∧ wantA ops o s = match s.t t with
      | .pl (.bool b) => some (b == want)
      | .pl _ => some false
      | _ => none) := by
  unfold compG at hg
  split at hg
  · rename_i h
    obtain rfl := Option.some.inj hg
    exact ⟨rfl, rfl, .inl ⟨rfl, by simp [wantA, h]⟩⟩
  · rename_i j want h
    split at hg
    · rename_i t ht
      obtain rfl := Option.some.inj hg
      refine ⟨rfl, rfl, .inr ⟨t, want, rfl, ?_⟩⟩
      simp only [wantA, h, ht]
      cases s.t t with
      | pl v => cases v <;> rfl
      | _ => rfl
    · cases hg

theorem step_run {K : ASt → Prop} (ho : ops[c]? = some o) (hw : wantA ops o s = some true) (h : iop P s.ev s.H (fun v H' => K ((s.put o.dst v).wH H')) (compI P o.op)) : stepA P ops c s K := by
  unfold stepA
  simp only [ho, hw]
  cases hk : kindOf o.op with
  | pu =>
    obtain ⟨v, h1, h2⟩ := pu_sound hk h
    exact ⟨v, h1, by rw [put_wH_self] at h2; exact h2⟩
  | rd =>
    obtain ⟨v, h1, h2⟩ := rd_sound hk h
    exact ⟨v, h1, by rw [put_wH_self] at h2; exact h2⟩
  | al =>
    obtain ⟨e, he⟩ : ∃ e, o.op = .alloc e := by
      cases hop : o.op with
      | alloc e => exact ⟨e, rfl⟩
      | call c =>
        rw [hop] at hk
        obtain ⟨callee, args, argTypes⟩ := c
        cases callee with
        | builtin b => cases b <;> simp [kindOf] at hk
        | _ => simp [kindOf] at hk
      | _ => simp [hop, kindOf] at hk
    rw [he] at h ⊢
    simp only [compI] at h
    split at h
    · rename_i z hz
      simp only [iop] at h
      simp only [zeroA, Option.bind_eq_some_iff, Option.map_eq_some_iff] at hz
      obtain ⟨i, hi, v, hv, rfl⟩ := hz
      exact ⟨_, by simp [allocOb, hi, hv], h⟩
    · exact h.elim
  | ef => exact ef_sound (fun f => rfl) hk h

theorem step_of {K : ASt → Prop} (ho : ops[c]? = some o) (hg : compG P ops o = some gi) (h : istep P gi s K) : stepA P ops c s K := by
  obtain ⟨hd, hi, hw | ⟨t, want, hgt, hw⟩⟩ := compG_guard (s := s) hg
  · unfold istep at h
    simp only [hw.1, hd, hi] at h
    exact step_run ho hw.2 h
  · unfold istep at h
    simp only [hgt, hd, hi] at h
    split at h
    · rename_i b hb
      simp only [hb] at hw
      cases hbw : b == want with
      | true => rw [hbw] at hw h; exact step_run ho hw (h.1 rfl)
      | false =>
        rw [hbw] at hw h
        unfold stepA
        simp only [ho, hw]
        exact h.2 rfl
    · rename_i v hne hv
      rw [hv] at hw
      have : wantA ops o s = some false := by
        rw [hw]
        cases v <;> first | rfl | exact absurd rfl (hne _)
      unfold stepA
      simp only [ho, this]
      exact h
    · exact h.elim

theorem stepV_of {k : AV → Prop} (ho : ops[c]? = some o) (hg : compG P ops o = some gi) (hk : kindOf o.op = .pu ∨ kindOf o.op = .rd) (h : istepV P gi s k) : ∃ v, Ls P ops c v s ∧ k v := by
  have run : wantA ops o s = some true → iop P s.ev s.H (fun v _ => k v) (compI P o.op) → ∃ v, Ls P ops c v s ∧ k v := by
    intro hw h
    rcases hk with hk | hk
    · obtain ⟨v, h1, h2⟩ := pu_sound hk h
      exact ⟨v, ⟨o, ho, .inr ⟨hw, .inl ⟨hk, h1⟩⟩⟩, h2⟩
    · obtain ⟨v, h1, h2⟩ := rd_sound hk h
      exact ⟨v, ⟨o, ho, .inr ⟨hw, .inr ⟨hk, h1⟩⟩⟩, h2⟩
  obtain ⟨hd, hi, hw | ⟨t, want, hgt, hw⟩⟩ := compG_guard (s := s) hg
  · unfold istepV at h
    simp only [hw.1, hi] at h
    exact run hw.2 h
  · unfold istepV at h
    simp only [hgt, hi] at h
    split at h
    · rename_i b hb
      simp only [hb] at hw
      cases hbw : b == want with
      | true => rw [hbw] at hw h; exact run hw (h.1 rfl)
      | false => rw [hbw] at hw h; exact ⟨_, ⟨o, ho, .inl ⟨hw, rfl⟩⟩, h.2 rfl⟩
    · rename_i v hne hv
      rw [hv] at hw
      have : wantA ops o s = some false := by
        rw [hw]
        cases v <;> first | rfl | exact absurd rfl (hne _)
      exact ⟨_, ⟨o, ho, .inl ⟨this, rfl⟩⟩, h⟩
    · exact h.elim
end

/-! ### Regions -/
def iseq (P : Program) : List GI → (ASt → Prop) → ASt → Prop
  | [], K, s => K s
  | x :: r, K, s => istep P x s (iseq P r K)

inductive DK where
  | pu | rd
  | ef (chk : List Nat)

/-- What was read is read again. -/
def chkAll (P : Program) (chk : List Nat) (s : ASt) : List (Nat × GI × AV) → Prop
  | [] => True
  | (c, gi, v) :: r => (if chk.contains c = true then istepV P gi s fun v' => v' = v else True) ∧ chkAll P chk s r

def dseq (P : Program) : List (Nat × GI × DK) → List (Nat × GI × AV) → (ASt → Prop) → ASt → Prop
  | [], _, K, s => K s
  | (_, gi, .pu) :: r, I, K, s => istepV P gi s fun v => dseq P r I K (s.put gi.d v)
  | (c, gi, .rd) :: r, I, K, s => istepV P gi s fun v => dseq P r ((c, gi, v) :: I) K (s.put gi.d v)
  | (_, gi, .ef chk) :: r, I, K, s => istep P gi s fun s' => chkAll P chk s' I ∧ dseq P r I K s'

/-- The same with branches: each is to hold. -/
inductive DT where
  | nil
  | cons (x : Nat × GI × DK) (r : DT)
  | br (a b : DT)

def dtree (P : Program) : DT → List (Nat × GI × AV) → (ASt → Prop) → ASt → Prop
  | .nil, _, K, s => K s
  | .cons (_, gi, .pu) r, I, K, s => istepV P gi s fun v => dtree P r I K (s.put gi.d v)
  | .cons (c, gi, .rd) r, I, K, s => istepV P gi s fun v => dtree P r ((c, gi, v) :: I) K (s.put gi.d v)
  | .cons (_, gi, .ef chk) r, I, K, s => istep P gi s fun s' => chkAll P chk s' I ∧ dtree P r I K s'
  | .br a b, I, K, s => dtree P a I K s ∧ dtree P b I K s

def compL (P : Program) (ops : Array Oper) : List Nat → Option (List GI)
  | [] => some []
  | c :: r => match ops[c]? with
    | some o => match compG P ops o, compL P ops r with
      | some g, some l => some (g :: l)
      | _, _ => none
    | none => none

/-- An order: what changes nothing first. -/
def pickN (P : Program) (ops : Array Oper) (M : List Nat) (l : Array Bool) : Option Nat :=
  let rs := Region.ready .any ops l
  match rs.find? fun c => (kindAt ops c == .pu || kindAt ops c == .rd) && okPu ops M l c && selfOk ops c with
  | some c => some c
  | none => rs.find? fun c => (kindAt ops c == .ef || kindAt ops c == .al) && okEf P ops M l c

def planG (P : Program) (ops : Array Oper) (M : List Nat) : Nat → Array Bool → List Nat
  | 0, _ => []
  | n + 1, l => match pickN P ops M l with
    | some c => c :: planG P ops M n (l.setIfInBounds c true)
    | none => []

def compD (P : Program) (ops : Array Oper) (M : List Nat) : List Nat → List Nat → Option (List (Nat × GI × DK))
  | [], _ => some []
  | c :: r, seen => match ops[c]? with
    | none => none
    | some o => match compG P ops o with
      | none => none
      | some g => match kindOf o.op with
        | .pu => (compD P ops M r seen).map fun l => (c, g, .pu) :: l
        | .rd => (compD P ops M r (c :: seen)).map fun l => (c, g, .rd) :: l
        | _ => (compD P ops M r seen).map fun l => (c, g, .ef (seen.filter fun p => !aft M c p)) :: l

/-- A plan that branches where it must. -/
def brs : List (Nat × PT) → PT
  | [] => .nil
  | [(c, r)] => .cons c r
  | (c, r) :: x :: l => .br (.cons c r) (brs (x :: l))
def planT (P : Program) (ops : Array Oper) (M : List Nat) : Nat → Array Bool → PT
  | 0, _ => .nil
  | n + 1, l => match pickN P ops M l with
    | some c => .cons c (planT P ops M n (l.setIfInBounds c true))
    | none => brs ((Region.ready .any ops l).map fun c => (c, planT P ops M n (l.setIfInBounds c true)))

def compT (P : Program) (ops : Array Oper) (M : List Nat) : PT → List Nat → Option DT
  | .nil, _ => some .nil
  | .cons c r, seen => match ops[c]? with
    | none => none
    | some o => match compG P ops o with
      | none => none
      | some g => match kindOf o.op with
        | .pu => (compT P ops M r seen).map fun l => .cons (c, g, .pu) l
        | .rd => (compT P ops M r (c :: seen)).map fun l => .cons (c, g, .rd) l
        | _ => (compT P ops M r seen).map fun l => .cons (c, g, .ef (seen.filter fun p => !aft M c p)) l
  | .br a b, seen => match compT P ops M a seen, compT P ops M b seen with
    | some x, some y => some (.br x y)
    | _, _ => none

section
variable {P : Program} {ops : Array Oper}

theorem seqN_of {K : ASt → Prop} : ∀ (l : List Nat) (is : List GI) (s : ASt), compL P ops l = some is → iseq P is K s → seqN P ops l K s
  | [], is, s, hc, h => by
    simp only [compL, Option.some.injEq] at hc
    subst hc
    exact h
  | c :: r, is, s, hc, h => by
    simp only [compL] at hc
    split at hc
    · rename_i o ho
      split at hc
      · rename_i g l hg hl
        obtain rfl := Option.some.inj hc
        exact stepA_mono (fun s' h' => seqN_of r l s' hl h') (step_of ho hg h)
      · cases hc
    · cases hc

/-- The list of what was read, in both spellings. -/
def Same (P : Program) (ops : Array Oper) (seen : List Nat) (I : List (Nat × AV)) (J : List (Nat × GI × AV)) : Prop :=
  I = J.map (fun x => (x.1, x.2.2)) ∧ seen = J.map (·.1) ∧ ∀ x ∈ J, ∃ o, ops[x.1]? = some o ∧ compG P ops o = some x.2.1 ∧ kindOf o.op = .rd

theorem chk_of {chk : List Nat} {s : ASt} : ∀ (J : List (Nat × GI × AV)), (∀ x ∈ J, ∃ o, ops[x.1]? = some o ∧ compG P ops o = some x.2.1 ∧ kindOf o.op = .rd) → chkAll P chk s J → ∀ x ∈ J, chk.contains x.1 = true → Ls P ops x.1 x.2.2 s
  | [], _, _, x, hx, _ => by cases hx
  | (c, gi, v) :: r, hJ, h, x, hx, hc => by
    rcases List.mem_cons.1 hx with rfl | hx
    · have h1 := h.1
      rw [if_pos hc] at h1
      obtain ⟨o, ho, hg, hk⟩ := hJ (c, gi, v) (by simp)
      obtain ⟨v', h2, rfl⟩ := stepV_of ho hg (.inr hk) h1
      exact h2
    · exact chk_of r (fun y hy => hJ y (by simp [hy])) h.2 x hx hc

theorem seqD_of {M : List Nat} {K : ASt → Prop} : ∀ (plan : List Nat) (ds : List (Nat × GI × DK)) (seen : List Nat) (I : List (Nat × AV)) (J : List (Nat × GI × AV)) (s : ASt),
    Same P ops seen I J → compD P ops M plan seen = some ds → dseq P ds J K s → seqD P ops M plan I K s
  | [], ds, seen, I, J, s, _, hc, h => by
    simp only [compD, Option.some.injEq] at hc
    subst hc
    exact h
  | c :: r, ds, seen, I, J, s, hs, hc, h => by
    simp only [compD] at hc
    split at hc
    · cases hc
    · rename_i o ho
      split at hc
      · cases hc
      · rename_i g hg
        have hd : g.d = o.dst := (compG_guard (s := s) hg).1
        have hka : kindAt ops c = kindOf o.op := by simp [kindAt, ho]
        simp only [seqD, hka, ho]
        have efc : ∀ (l : List (Nat × GI × DK)), compD P ops M r seen = some l → dseq P ((c, g, .ef (seen.filter fun p => !aft M c p)) :: l) J K s → stepA P ops c s fun s' => Again P ops M I c s s' ∧ seqD P ops M r I K s' := by
          intro l hl h
          refine stepA_mono ?_ (step_of ho hg h)
          rintro s' ⟨h1, h2⟩
          refine ⟨fun _ _ p hp ha => ?_, seqD_of r l seen I J s' hs hl h2⟩
          rw [hs.1] at hp
          obtain ⟨x, hx, rfl⟩ := List.mem_map.1 hp
          refine chk_of J hs.2.2 h1 x hx ?_
          simp only [List.contains_iff_mem, List.mem_filter, Bool.not_eq_true']
          exact ⟨by rw [hs.2.1]; exact List.mem_map_of_mem hx, ha⟩
        cases hk : kindOf o.op with
        | pu =>
          simp only [hk, Option.map_eq_some_iff] at hc
          obtain ⟨l, hl, rfl⟩ := hc
          simp only [dseq] at h
          obtain ⟨v, h1, h2⟩ := stepV_of ho hg (.inl hk) h
          rw [hd] at h2
          exact ⟨v, h1, seqD_of r l seen I J _ hs hl h2⟩
        | rd =>
          simp only [hk, Option.map_eq_some_iff] at hc
          obtain ⟨l, hl, rfl⟩ := hc
          simp only [dseq] at h
          obtain ⟨v, h1, h2⟩ := stepV_of ho hg (.inr hk) h
          rw [hd] at h2
          refine ⟨v, h1, seqD_of r l (c :: seen) ((c, v) :: I) ((c, g, v) :: J) _ ⟨by rw [hs.1]; rfl, by rw [hs.2.1]; rfl, fun x hx => ?_⟩ hl h2⟩
          rcases List.mem_cons.1 hx with rfl | hx
          · exact ⟨o, ho, hg, hk⟩
          · exact hs.2.2 x hx
        | al =>
          simp only [hk, Option.map_eq_some_iff] at hc
          obtain ⟨l, hl, rfl⟩ := hc
          exact efc l hl h
        | ef =>
          simp only [hk, Option.map_eq_some_iff] at hc
          obtain ⟨l, hl, rfl⟩ := hc
          exact efc l hl h

theorem seqT_of {M : List Nat} {K : ASt → Prop} : ∀ (plan : PT) (ds : DT) (seen : List Nat) (I : List (Nat × AV)) (J : List (Nat × GI × AV)) (s : ASt),
    Same P ops seen I J → compT P ops M plan seen = some ds → dtree P ds J K s → seqT P ops M plan I K s
  | .nil, ds, seen, I, J, s, _, hc, h => by
    simp only [compT, Option.some.injEq] at hc
    subst hc
    exact h
  | .br a b, ds, seen, I, J, s, hs, hc, h => by
    simp only [compT] at hc
    split at hc
    · rename_i x y hx hy
      obtain rfl := Option.some.inj hc
      exact ⟨seqT_of a x seen I J s hs hx h.1, seqT_of b y seen I J s hs hy h.2⟩
    · cases hc
  | .cons c r, ds, seen, I, J, s, hs, hc, h => by
    simp only [compT] at hc
    split at hc
    · cases hc
    · rename_i o ho
      split at hc
      · cases hc
      · rename_i g hg
        have hd : g.d = o.dst := (compG_guard (s := s) hg).1
        have hka : kindAt ops c = kindOf o.op := by simp [kindAt, ho]
        simp only [seqT, hka, ho]
        have efc : ∀ (l : DT), compT P ops M r seen = some l → dtree P (.cons (c, g, .ef (seen.filter fun p => !aft M c p)) l) J K s → stepA P ops c s fun s' => Again P ops M I c s s' ∧ seqT P ops M r I K s' := by
          intro l hl h
          refine stepA_mono ?_ (step_of ho hg h)
          rintro s' ⟨h1, h2⟩
          refine ⟨fun _ _ p hp ha => ?_, seqT_of r l seen I J s' hs hl h2⟩
          rw [hs.1] at hp
          obtain ⟨x, hx, rfl⟩ := List.mem_map.1 hp
          refine chk_of J hs.2.2 h1 x hx ?_
          simp only [List.contains_iff_mem, List.mem_filter, Bool.not_eq_true']
          exact ⟨by rw [hs.2.1]; exact List.mem_map_of_mem hx, ha⟩
        cases hk : kindOf o.op with
        | pu =>
          simp only [hk, Option.map_eq_some_iff] at hc
          obtain ⟨l, hl, rfl⟩ := hc
          simp only [dtree] at h
          obtain ⟨v, h1, h2⟩ := stepV_of ho hg (.inl hk) h
          rw [hd] at h2
          exact ⟨v, h1, seqT_of r l seen I J _ hs hl h2⟩
        | rd =>
          simp only [hk, Option.map_eq_some_iff] at hc
          obtain ⟨l, hl, rfl⟩ := hc
          simp only [dtree] at h
          obtain ⟨v, h1, h2⟩ := stepV_of ho hg (.inr hk) h
          rw [hd] at h2
          refine ⟨v, h1, seqT_of r l (c :: seen) ((c, v) :: I) ((c, g, v) :: J) _ ⟨by rw [hs.1]; rfl, by rw [hs.2.1]; rfl, fun x hx => ?_⟩ hl h2⟩
          rcases List.mem_cons.1 hx with rfl | hx
          · exact ⟨o, ho, hg, hk⟩
          · exact hs.2.2 x hx
        | al =>
          simp only [hk, Option.map_eq_some_iff] at hc
          obtain ⟨l, hl, rfl⟩ := hc
          exact efc l hl h
        | ef =>
          simp only [hk, Option.map_eq_some_iff] at hc
          obtain ⟨l, hl, rfl⟩ := hc
          exact efc l hl h
end

/-! ### Code -/
inductive CC where
  | skip | ret
  | exit (id : Nat)
  | seq (a b : CC)
  | reg (is : List GI) (keep : List Nat)
  | regD (is : List (Nat × GI × DK)) (keep : List Nat)
  | regT (t : DT) (keep : List Nat)
  | cond (c : Operand) (a b : CC)
  | block (id : Nat) (a : CC)
  | loop (a : CC)
  | rng (f : Operand) (ps : List Nat) (a b : CC)

def env : List (Nat × AV) → Nat → AV
  | [], _ => .any
  | (k, v) :: r, j => if j = k then v else env r j

/-- What is kept of a state behind a region. -/
def ASt.less (keep : List Nat) (s : ASt) : ASt := ⟨s.n, env (keep.map fun k => (k, s.t k)), s.H⟩

theorem env_less (f : Nat → AV) : ∀ (keep : List Nat) (j : Nat), env (keep.map fun k => (k, f k)) j = f j ∨ env (keep.map fun k => (k, f k)) j = .any
  | [], j => .inr rfl
  | k :: r, j => by
    simp only [List.map_cons, env]
    split
    · rename_i h; subst h; exact .inl rfl
    · exact env_less f r j

/-- A part of a view. -/
def Sub (H0 H : AH) : Prop := ∀ j o, H0 j = some o → H j = some o
theorem Sub.refl (H : AH) : Sub H H := fun _ _ h => h
theorem Sub.upd {H H1 : AH} {b : Nat} {o : AO} (h : Sub H H1) (hb : H b = none) : Sub H (Ab.upd H1 b o) := fun j x hj => by
  unfold Ab.upd; rw [if_neg (by rintro rfl; rw [hb] at hj; cases hj)]; exact h j x hj
theorem Sub.del {H H1 : AH} {b : Nat} (h : Sub H H1) (hb : H b = none) : Sub H (Ab.del H1 b) := fun j x hj => by
  unfold Ab.del; rw [if_neg (by rintro rfl; rw [hb] at hj; cases hj)]; exact h j x hj
theorem Sub.cong {H H1 : AH} {b : Nat} {o : AO} (h : Sub H H1) : Sub (Ab.upd H b o) (Ab.upd H1 b o) := fun j x hj => by
  unfold Ab.upd at hj ⊢
  split at hj
  · rename_i e; rw [if_pos e]; exact hj
  · rename_i e; rw [if_neg e]; exact h j x hj
theorem Sub.trans {H H1 H2 : AH} (h : Sub H H1) (k : Sub H1 H2) : Sub H H2 := fun j x hj => k j x (h j x hj)
/-- A loop's invariant, where a part of the view may be forgotten. -/
def Fg (I : ASt → Prop) (s : ASt) : Prop := ∃ H0, Sub H0 s.H ∧ I ⟨s.n, s.t, H0⟩

theorem T_forget {P : Program} {c : Code} {Q : Exit → ASt → Prop} {s : ASt} {H0 : AH} (hs : Sub H0 s.H) (h : T P c Q ⟨s.n, s.t, H0⟩) : T P c Q s := by
  intro r hn B S W0 a w hr
  have hR : RH S W0 H0 w := ⟨hr.heap.below, hr.heap.sub, hr.heap.bound, fun k o hk => hr.heap.lt k o (hs k o hk), fun k hk => hr.heap.free k (by
    cases e : H0 k with
    | none => rw [e] at hk; cases hk
    | some o => rw [hs k o e, ← e]; exact hk), fun k o hk => hr.heap.obj k o (hs k o hk)⟩
  have kdle : ∀ b, kd (H0 b) ≠ 0 → kd (s.H b) = kd (H0 b) := by
    intro b hb
    cases e : H0 b with
    | none => rw [e] at hb; exact absurd rfl hb
    | some o => rw [hs b o e]
  have hd : ∃ Ds : List Nat, a.defers = marks Ds ∧ Ds.Nodup ∧ ∀ D ∈ Ds, B ≤ D ∧ w.heap[D]? = some (.deferred (some [])) ∧ kd (H0 D) = 0 ∧ ¬ S D := by
    obtain ⟨Ds, h1, h2, h3⟩ := hr.defers
    refine ⟨Ds, h1, h2, fun D hD => ?_⟩
    obtain ⟨g1, g2, g3, g4⟩ := h3 D hD
    refine ⟨g1, g2, ?_, g4⟩
    by_cases e : kd (H0 D) = 0
    · exact e
    · rw [← kdle D e]; exact g3
  refine wpIn_mono (h r hn B S W0 a w ⟨hd, hr.base, hr.low, hr.len, hr.out, hr.val, hR⟩) ?_
  rintro e a' w' ⟨S', s', he, hr', hk⟩
  refine ⟨S', s', ⟨he.size, fun b hb hn => he.same b hb (fun (e : kd (H0 b) = 2) => hn (by rw [kdle b (by rw [e]; decide), e])), he.cells, he.up, fun b hb => ?_, fun b => ?_⟩, hr', hk⟩
  · rcases he.new b hb with h1 | h1 | h1
    · exact .inl h1
    · have h1 : kd (H0 b) = 2 := h1
      exact .inr (.inl (by rw [kdle b (by rw [h1]; decide), h1]))
    · exact .inr (.inr h1)
  · rcases he.dom b with h1 | h1 | h1
    · exact .inl h1
    · have h1 : kd (s'.H b) = kd (H0 b) := h1
      by_cases h2 : kd (H0 b) = 0
      · exact .inl (h1.trans h2)
      · exact .inr (.inl (by rw [kdle b h2]; exact h1))
    · exact .inr (.inr h1)

theorem T_loopF {P : Program} {c : Code} {Q : Exit → ASt → Prop} {s : ASt} (I : ASt → Prop) (m : ASt → Nat) (h0 : Fg I s)
    (round : ∀ s, I s → T P c (thenA (fun s' => Fg (fun s'' => I s'' ∧ m s'' < m s) s') Q) s) : T P (.loop c) Q s := by
  intro r hn B S W0 a w hr
  obtain ⟨H0, hs0, h0⟩ := h0
  refine wpIn_loop_ghost (fun n a' w' => At B W0 S s.H w (fun s' => Fg (fun s'' => I s'' ∧ m s'' = n) s') a' w') (m ⟨s.n, s.t, H0⟩) ⟨S, s, Evo.refl _ _ _, hr, H0, hs0, h0, rfl⟩ ?_
  rintro n a' w' ⟨S', s', he, hr', H1, hs1, hI, rfl⟩
  refine wpIn_mono (T_forget hs1 (round _ hI) r hn B S' W0 a' w' hr') ?_
  intro e a'' w'' ha
  have ha := At.trans he ha
  cases e with
  | normal => obtain ⟨S2, s2, h1, h2, H2, hs2, h3, h4⟩ := ha; exact ⟨m ⟨s2.n, s2.t, H2⟩, h4, S2, s2, h1, h2, H2, hs2, h3, rfl⟩
  | _ => exact ha

def wpc (P : Program) : CC → (Exit → ASt → Prop) → ASt → Prop
  | .skip, Q, s => Q .normal s
  | .ret, Q, s => Q .ret s
  | .exit id, Q, s => Q (.exit id) s
  | .seq a b, Q, s => wpc P a (thenA (wpc P b Q) Q) s
  | .reg is keep, Q, s => iseq P is (fun s' => Q .normal (s'.less keep)) s
  | .regD is keep, Q, s => dseq P is [] (fun s' => Q .normal (s'.less keep)) s
  | .regT t keep, Q, s => dtree P t [] (fun s' => Q .normal (s'.less keep)) s
  | .cond c a b, Q, s => match s.ev c with
    | .pl (.bool t) => (t = true → wpc P a Q s) ∧ (t = false → wpc P b Q s)
    | _ => False
  | .block id a, Q, s => wpc P a (blockA id Q) s
  | .loop a, Q, s => ∃ (I : ASt → Prop) (m : ASt → Nat), Fg I s ∧ ∀ s, I s → wpc P a (thenA (fun s' => Fg (fun s'' => I s'' ∧ m s'' < m s) s') Q) s
  | .rng f ps a b, Q, s => match s.ev f with
    | .fn g [] caps => goodCallee P g = true ∧ ∀ (l : Nat) (ob : Option Code → AO), s.H l = none → (∀ c, kd (some (ob c)) = 2) →
        (∀ (args : List AV) (H1 : AH) (K : AV → AH → Prop), args.length = ps.length → H1 l = none → wpc P a (thenA (wpc P b (rndQ l ob K)) (fun _ _ => False)) ⟨s.n, setAs s.n s.t (ps.zip args), H1⟩ → AYL P l args (upd H1 l (ob none)) K) →
        ACall P g (.pl (.func (.yield l) #[] #[]) :: caps) (upd s.H l (ob none)) (rngK l ob Q s.n s.t)
    | _ => False

def comp (P : Program) (keep : List Nat) : Code → Option CC
  | .skip => some .skip
  | .ret => some .ret
  | .exit id => some (.exit id)
  | .label _ => some .skip
  | .seq a b => match comp P keep a, comp P keep b with
    | some x, some y => some (.seq x y)
    | _, _ => none
  | .region _ ops false => (compL P ops (List.range ops.size)).map fun l => .reg l keep
  | .region _ ops true =>
    let M := masks ops.toList
    let plan := planG P ops M ops.size (Array.replicate ops.size false)
    if planned P ops plan then (compD P ops M plan []).map fun l => .regD l keep else
      let t := planT P ops M ops.size (Array.replicate ops.size false)
      if (masksOk ops M && readsOk ops M && treeOk P ops M false (Array.replicate ops.size false) t) = true then (compT P ops M t []).map fun l => .regT l keep else none
  | .cond c a b => match comp P keep a, comp P keep b with
    | some x, some y => some (.cond c x y)
    | _, _ => none
  | .block id a => (comp P keep a).map (.block id)
  | .loop a => (comp P keep a).map .loop
  | .scope a => comp P keep a
  | .goto _ => none
  | .rangeFunc f ps a b => if (noRF a && noRF b) = true then match comp P keep a, comp P keep b with
    | some x, some y => some (.rng f ps.toList x y)
    | _, _ => none else none
  | .refuse _ => none

theorem thenA_mono {n n' : ASt → Prop} {Q : Exit → ASt → Prop} (h : ∀ s, n s → n' s) : ∀ e s, thenA n Q e s → thenA n' Q e s := by
  intro e s hs
  cases e <;> first | exact h s hs | exact hs

def noGotoA (Q : Exit → ASt → Prop) (e : Exit) (s : ASt) : Prop := (∀ l, e ≠ .goto l) ∧ Q e s

section
variable {P : Program} {ρ : Operand → AV} {H : AH}

theorem binK_mono {op : BinOp} {u v : Value} {k k' : Value → Prop} (hk : ∀ x, k x → k' x) (h : binK op u v k) : binK op u v k' := by
  unfold binK at h ⊢
  split at h <;> first
    | exact h.elim
    | exact hk _ h
    | exact ⟨h.1, hk _ h.2⟩
    | exact ⟨h.1, h.2.1, hk _ h.2.2⟩
theorem unK_mono {op : UnOp} {u : Value} {k k' : Value → Prop} (hk : ∀ x, k x → k' x) (h : unK op u k) : unK op u k' := by
  unfold unK at h ⊢
  split at h <;> first
    | exact h.elim
    | exact hk _ h
theorem minmaxK_mono {mx : Bool} {j : IntKind} {k k' : Value → Prop} (hk : ∀ x, k x → k' x) : ∀ (l : List AV) (a : Int), minmaxK mx j a l k → minmaxK mx j a l k'
  | [], a, h => hk _ h
  | x :: l, a, h => by
    unfold minmaxK at h ⊢
    split at h
    · rename_i heq; cases heq
    · rename_i heq; obtain ⟨rfl, rfl⟩ := List.cons.inj heq
      exact ⟨h.1, minmaxK_mono hk l _ h.2⟩
    · exact h.elim
theorem oneK_mono {agg : Bool} {cs : List AV} {k k' : AV → Prop} (hk : ∀ x, k x → k' x) (h : oneK agg cs k) : oneK agg cs k' := by
  unfold oneK at h ⊢
  split
  · rename_i e; rw [if_pos e] at h; exact hk _ h
  · rename_i e
    rw [if_neg e] at h
    split at h
    · exact hk _ h
    · exact h.elim
theorem mapK_mono {x : AV} {k k' : Nat → List (Value × AV) → List Nat → Nat → Prop} (hk : ∀ b es st cl, k b es st cl → k' b es st cl) (h : mapK H x k) : mapK H x k' := by
  unfold mapK at h ⊢
  split at h
  · split at h
    · exact hk _ _ _ _ h
    · exact h.elim
  · exact h.elim
theorem seeK_mono {a : AV} {sz : Nat} {k k' : List AV → Prop} (hk : ∀ x, k x → k' x) (h : seeK H a sz k) : seeK H a sz k' := by
  unfold seeK at h ⊢
  split at h
  · exact ⟨h.1, hk _ h.2⟩
  · split at h
    · exact ⟨h.1, hk _ h.2⟩
    · exact ⟨h.1, hk _ h.2⟩
    · exact h.elim
  · exact h.elim
theorem newsK_mono {y : AV} {sz : Nat} {k k' : Nat → List AV → Prop} (hk : ∀ m x, k m x → k' m x) (h : newsK H y sz k) : newsK H y sz k' := by
  unfold newsK at h ⊢
  split at h
  · exact hk _ _ h
  · exact ⟨h.1, hk _ _ h.2⟩
  · refine ⟨h.1, ?_⟩
    have h2 := h.2
    split at h2
    · exact ⟨h2.1, hk _ _ h2.2⟩
    · exact h2.elim
  · exact h.elim
theorem bndK_mono {o : Option Operand} {d : Int} {k k' : Int → Prop} (hk : ∀ x, k x → k' x) (h : bndK ρ o d k) : bndK ρ o d k' := by
  unfold bndK at h ⊢
  split at h
  · exact hk _ h
  · split at h
    · exact hk _ h
    · exact h.elim

theorem iop_mono {k k' : AV → AH → Prop} (hk : ∀ v H, k v H → k' v H) (i : I) (h : iop P ρ H k i) : iop P ρ H k' i := by
  cases i with
  | mlook ok kk z x i =>
    simp only [iop] at h ⊢
    split at h
    · split at h
      · exact hk _ _ h
      · refine mapK_mono (fun b es st cl h => ?_) h
        split at h
        · exact hk _ _ h
        · exact hk _ _ h
        · exact h.elim
    · exact h.elim
  | mlen x =>
    simp only [iop] at h ⊢
    split at h
    · exact hk _ _ h
    · exact mapK_mono (fun b es st cl h => hk _ _ h) h
  | mmk => exact fun b hb => hk _ _ (h b hb)
  | mupd kk x i v =>
    simp only [iop] at h ⊢
    split at h
    · refine mapK_mono (fun b es st cl h => ?_) h
      split at h
      · exact hk _ _ h
      · exact hk _ _ h
      · exact h.elim
    · exact h.elim
  | mdel kk x i =>
    simp only [iop] at h ⊢
    split at h
    · refine mapK_mono (fun b es st cl h => ?_) h
      split at h
      · exact hk _ _ h
      · exact hk _ _ h
      · exact h.elim
    · exact h.elim
  | mrng x =>
    simp only [iop] at h ⊢
    split at h
    · exact fun b hb => hk _ _ (h b hb)
    · exact mapK_mono (fun m es st cl h b hb => hk _ _ (h b hb)) h
  | ment x =>
    simp only [iop] at h ⊢
    split at h
    · split at h
      · refine mapK_mono (fun b es st cl h => ⟨h.1, ?_⟩) h
        have h2 := h.2
        split at h2
        · exact hk _ _ h2
        · exact h2.elim
      · exact h.elim
    · exact h.elim
  | mnxt x =>
    simp only [iop] at h ⊢
    split at h
    · split at h
      · exact hk _ _ h
      · exact mapK_mono (fun b es st cl h => ⟨h.1, h.2.1, fun e => hk _ _ (h.2.2.1 e), fun j e s h1 h2 h3 => hk _ _ (h.2.2.2 j e s h1 h2 h3)⟩) h
      · exact h.elim
    · exact h.elim
  | call f args => exact ACall.mono h hk
  | callv x args =>
    simp only [iop] at h ⊢
    split at h
    · exact ⟨h.1, h.2.mono hk⟩
    · exact ⟨h.1, h.2.1, h.2.2.1, h.2.2.2.mono hk⟩
    · exact ⟨h.1, h.2.1, h.2.2.mono hk⟩
    · exact h.elim
  | bin op x y =>
    simp only [iop] at h ⊢
    split at h
    · exact binK_mono (fun x h => hk _ _ h) h
    · exact h.elim
  | un op x =>
    simp only [iop] at h ⊢
    split at h
    · exact unK_mono (fun x h => hk _ _ h) h
    · exact h.elim
  | load agg sz a =>
    simp only [iop] at h ⊢
    exact seeK_mono (fun _ h => oneK_mono (fun _ h => hk _ _ h) h) h
  | fld agg off sz x =>
    simp only [iop] at h ⊢
    split at h
    · exact ⟨h.1, oneK_mono (fun _ h => hk _ _ h) h.2⟩
    · exact h.elim
  | minmax mx xs =>
    simp only [iop] at h ⊢
    split at h
    · exact minmaxK_mono (fun _ h => hk _ _ h) _ _ h
    · exact h.elim
  | al z => exact fun b hb => hk _ _ (h b hb)
  | box sz x =>
    simp only [iop] at h ⊢
    split at h
    · exact ⟨h.1, fun b hb => hk _ _ (h.2 b hb)⟩
    · exact h.elim
  | bsl sz n z ps =>
    simp only [iop] at h ⊢
    split at h
    · exact fun b hb => hk _ _ (h b hb)
    · exact h.elim
  | app sz bytes x y =>
    simp only [iop] at h ⊢
    refine newsK_mono (fun m ns h => ?_) h
    refine ⟨h.1, ?_⟩
    have h2 := h.2
    split at h2
    · exact ⟨h2.1, fun hm => hk _ _ (h2.2.1 hm), fun hm b hb => hk _ _ (h2.2.2 hm b hb)⟩
    · refine ⟨h2.1, ?_⟩
      have h3 := h2.2
      split at h3
      · exact ⟨h3.1, h3.2.1, fun b hb => hk _ _ (h3.2.2 b hb)⟩
      · exact h3.elim
    · exact ⟨h2.1, h2.2.1, fun hm => hk _ _ (h2.2.2.1 hm), fun hm b hb => hk _ _ (h2.2.2.2 hm b hb)⟩
    · exact h2.elim
  | sls sz x lo hi mx =>
    simp only [iop] at h ⊢
    split at h
    · exact bndK_mono (fun _ h => bndK_mono (fun _ h => bndK_mono (fun _ h => ⟨h.1, h.2.1, h.2.2.1, h.2.2.2.1, hk _ _ h.2.2.2.2⟩) h) h) h
    · exact ⟨h.1, bndK_mono (fun _ h => bndK_mono (fun _ h => bndK_mono (fun _ h => ⟨h.1, h.2.1, h.2.2.1, h.2.2.2.1, fun e => hk _ _ (h.2.2.2.2.1 e), fun e e2 => hk _ _ (h.2.2.2.2.2.1 e e2), fun e e2 => hk _ _ (h.2.2.2.2.2.2 e e2)⟩) h) h) h.2⟩
    · exact bndK_mono (fun _ h => bndK_mono (fun _ h => bndK_mono (fun _ h => ⟨h.1, h.2.1, h.2.2.1, hk _ _ h.2.2.2⟩) h) h) h
    · exact h.elim
  | slstr x lo hi =>
    simp only [iop] at h ⊢
    split at h
    · exact bndK_mono (fun _ h => bndK_mono (fun _ h => ⟨h.1, h.2.1, h.2.2.1, hk _ _ h.2.2.2⟩) h) h
    · exact h.elim
  | len str x => cases str <;> (simp only [iop] at h ⊢; (split at h <;> first | exact hk _ _ h | exact h.elim))
  | mov x => exact hk _ _ h
  | mkf f a b => exact hk _ _ h
  | bad => exact h
  | store sz a x =>
    simp only [iop] at h ⊢
    split at h
    · split at h
      · exact ⟨h.1, h.2.1, h.2.2.1, hk _ _ h.2.2.2⟩
      · exact h.elim
    · exact h.elim
  | iadA n sz x i =>
    simp only [iop] at h ⊢
    split at h
    · exact ⟨h.1, h.2.1, hk _ _ h.2.2⟩
    · exact ⟨h.1, h.2.1, hk _ _ h.2.2⟩
    · exact h.elim
  | iadS sz x i =>
    simp only [iop] at h ⊢
    split at h
    · exact ⟨h.1, h.2.1, hk _ _ h.2.2⟩
    · exact ⟨h.1, h.2.1, hk _ _ h.2.2⟩
    · exact h.elim
  | eqz neq x y =>
    simp only [iop] at h ⊢
    split at h
    · exact hk _ _ h
    · exact hk _ _ h
    · exact ⟨h.1, hk _ _ h.2⟩
    · exact h.elim
  | apz sz bytes z x n =>
    simp only [iop] at h ⊢
    split at h
    · exact ⟨h.1, h.2.1, fun e => hk _ _ (h.2.2.1 e), fun e b hb => hk _ _ (h.2.2.2 e b hb)⟩
    · exact h.elim
  | mks sz bytes z x n =>
    simp only [iop] at h ⊢
    split at h
    · exact ⟨h.1, h.2.1, h.2.2.1, fun b hb => hk _ _ (h.2.2.2 b hb)⟩
    · exact h.elim
  | clr sz z x =>
    simp only [iop] at h ⊢
    refine ⟨h.1, ?_⟩
    have h := h.2
    split at h
    · refine ⟨h.1, ?_⟩
      have h := h.2
      split at h
      · exact ⟨h.1, hk _ _ h.2⟩
      · exact h.elim
    · exact hk _ _ h
    · exact hk _ _ h
    · exact h.elim
  | ext x i =>
    simp only [iop] at h ⊢
    split at h
    · split at h
      · exact hk _ _ h
      · exact h.elim
    · exact h.elim
  | eqs neq ks x y =>
    simp only [iop] at h ⊢
    split at h
    · split at h
      · exact hk _ _ h
      · exact h.elim
    · exact h.elim
  | _ =>
    simp only [iop] at h ⊢
    split at h <;> first | exact hk _ _ h | exact h.elim

theorem istep_mono {K K' : ASt → Prop} (hk : ∀ s, K s → K' s) {x : GI} {s : ASt} (h : istep P x s K) : istep P x s K' := by
  unfold istep at h ⊢
  split at h
  · exact iop_mono (fun _ _ h => hk _ h) _ h
  · split at h
    · exact ⟨fun e => iop_mono (fun _ _ h => hk _ h) _ (h.1 e), fun e => hk _ (h.2 e)⟩
    · exact hk _ h
    · exact h.elim

theorem istepV_mono {k k' : AV → Prop} (hk : ∀ v, k v → k' v) {x : GI} {s : ASt} (h : istepV P x s k) : istepV P x s k' := by
  unfold istepV at h ⊢
  split at h
  · exact iop_mono (fun _ _ h => hk _ h) _ h
  · split at h
    · exact ⟨fun e => iop_mono (fun _ _ h => hk _ h) _ (h.1 e), fun e => hk _ (h.2 e)⟩
    · exact hk _ h
    · exact h.elim

theorem iseq_mono {K K' : ASt → Prop} (hk : ∀ s, K s → K' s) : ∀ (is : List GI) (s : ASt), iseq P is K s → iseq P is K' s
  | [], _, h => hk _ h
  | x :: r, _, h => istep_mono (fun s h => iseq_mono hk r s h) h

theorem dseq_mono {K K' : ASt → Prop} (hk : ∀ s, K s → K' s) : ∀ (is : List (Nat × GI × DK)) (J : List (Nat × GI × AV)) (s : ASt), dseq P is J K s → dseq P is J K' s
  | [], _, _, h => hk _ h
  | (_, x, .pu) :: r, J, _, h => istepV_mono (fun v h => dseq_mono hk r _ _ h) h
  | (_, x, .rd) :: r, J, _, h => istepV_mono (fun v h => dseq_mono hk r _ _ h) h
  | (_, x, .ef c) :: r, J, _, h => istep_mono (fun s h => ⟨h.1, dseq_mono hk r _ _ h.2⟩) h

theorem dtree_mono {K K' : ASt → Prop} (hk : ∀ s, K s → K' s) : ∀ (t : DT) (J : List (Nat × GI × AV)) (s : ASt), dtree P t J K s → dtree P t J K' s
  | .nil, _, _, h => hk _ h
  | .cons (_, x, .pu) r, J, _, h => istepV_mono (fun v h => dtree_mono hk r _ _ h) h
  | .cons (_, x, .rd) r, J, _, h => istepV_mono (fun v h => dtree_mono hk r _ _ h) h
  | .cons (_, x, .ef c) r, J, _, h => istep_mono (fun s h => ⟨h.1, dtree_mono hk r _ _ h.2⟩) h
  | .br a b, J, s, h => ⟨dtree_mono hk a J s h.1, dtree_mono hk b J s h.2⟩

/-- What holds at each end that is no jump. -/
theorem wpc_mono : ∀ (cc : CC) (Q Q' : Exit → ASt → Prop) (s : ASt), (∀ e s, (∀ l, e ≠ .goto l) → Q e s → Q' e s) → wpc P cc Q s → wpc P cc Q' s
  | .skip, Q, Q', s, hq, h => hq _ _ (by simp) h
  | .ret, Q, Q', s, hq, h => hq _ _ (by simp) h
  | .exit id, Q, Q', s, hq, h => hq _ _ (by simp) h
  | .seq a b, Q, Q', s, hq, h => wpc_mono a _ _ s (fun e s he h => by
      cases e with
      | normal => exact wpc_mono b _ _ s hq h
      | goto l => exact absurd rfl (he l)
      | _ => exact hq _ _ he h) h
  | .reg is keep, Q, Q', s, hq, h => iseq_mono (fun s h => hq _ _ (by simp) h) is s h
  | .regD is keep, Q, Q', s, hq, h => dseq_mono (fun s h => hq _ _ (by simp) h) is _ s h
  | .regT t keep, Q, Q', s, hq, h => dtree_mono (fun s h => hq _ _ (by simp) h) t _ s h
  | .cond c a b, Q, Q', s, hq, h => by
    simp only [wpc] at h ⊢
    split at h
    · exact ⟨fun e => wpc_mono a _ _ s hq (h.1 e), fun e => wpc_mono b _ _ s hq (h.2 e)⟩
    · exact h.elim
  | .block id a, Q, Q', s, hq, h => wpc_mono a _ _ s (fun e s he h => by
      cases e with
      | exit id' =>
        simp only [blockA] at h ⊢
        split
        · rename_i e; rw [if_pos e] at h; exact hq _ _ (by simp) h
        · rename_i e; rw [if_neg e] at h; exact hq _ _ (by simp) h
      | goto l => exact absurd rfl (he l)
      | _ => exact hq _ _ he h) h
  | .loop a, Q, Q', s, hq, ⟨I, m, h0, hr⟩ => ⟨I, m, h0, fun s hI => wpc_mono a _ _ s (fun e s he h => by
      cases e with
      | normal => exact h
      | goto l => exact absurd rfl (he l)
      | _ => exact hq _ _ he h) (hr s hI)⟩
  | .rng f ps a b, Q, Q', s, hq, h => by
    simp only [wpc] at h ⊢
    split at h
    · refine ⟨h.1, fun l ob hl hk hY => (h.2 l ob hl hk hY).mono ?_⟩
      rintro x H' (⟨H1, h1, h2, h3⟩ | ⟨H1, h1, h2, h3⟩ | ⟨id, H1, h1, h2, h3⟩)
      · exact .inl ⟨H1, h1, h2, hq _ _ (by simp) h3⟩
      · exact .inr (.inl ⟨H1, h1, h2, hq _ _ (by simp) h3⟩)
      · exact .inr (.inr ⟨id, H1, h1, h2, hq _ _ (by simp) h3⟩)
    · exact h.elim
end

/-- Behind a region some slots are forgotten. -/
theorem T.less_post {P : Program} {c : Code} {s : ASt} (keep : List Nat) (Q : Exit → ASt → Prop) (h : T P c (thenA (fun s' => Q .normal (s'.less keep)) fun _ _ => False) s) : T P c Q s := by
  intro r hn B S W0 a w hr
  refine wpIn_mono (h r hn B S W0 a w hr) ?_
  rintro e a' w' ⟨S', s', he, hr', hk⟩
  cases e with
  | normal => exact ⟨S', s'.less keep, he, hr'.less _ (fun j => env_less s'.t keep j), hk⟩
  | _ => exact hk.elim

theorem wpc_sound {P : Program} {keep : List Nat} (hm : P.follows .mixedOrders = true) : ∀ (code : Code) (cc : CC) (Q : Exit → ASt → Prop) (s : ASt), comp P keep code = some cc → wpc P cc Q s → T P code Q s
  | .skip, cc, Q, s, hc, h => by
    simp only [comp, Option.some.injEq] at hc
    subst hc
    exact T_skip h
  | .ret, cc, Q, s, hc, h => by
    simp only [comp, Option.some.injEq] at hc
    subst hc
    exact T_ret h
  | .exit id, cc, Q, s, hc, h => by
    simp only [comp, Option.some.injEq] at hc
    subst hc
    exact T_exit h
  | .label l, cc, Q, s, hc, h => by
    simp only [comp, Option.some.injEq] at hc
    subst hc
    exact T_label h
  | .seq a b, cc, Q, s, hc, h => by
    simp only [comp] at hc
    split at hc
    · rename_i x y hx hy
      obtain rfl := Option.some.inj hc
      exact T_seq ((wpc_sound hm a x _ s hx h).mono (thenA_mono fun s' h' => wpc_sound hm b y Q s' hy h'))
    · cases hc
  | .region id ops false, cc, Q, s, hc, h => by
    simp only [comp, Option.map_eq_some_iff] at hc
    obtain ⟨l, hl, rfl⟩ := hc
    refine (T_region (Q := thenA (fun s' => Q .normal (s'.less keep)) fun _ _ => False) (seqN_of _ l s hl h)).less_post keep Q
  | .region id ops true, cc, Q, s, hc, h => by
    simp only [comp] at hc
    split at hc
    · rename_i hp
      simp only [Option.map_eq_some_iff] at hc
      obtain ⟨l, hl, rfl⟩ := hc
      exact (T_regionD (Q := thenA (fun s' => Q .normal (s'.less keep)) fun _ _ => False) _ hm hp (seqD_of _ l [] [] [] s ⟨rfl, rfl, fun _ h => by cases h⟩ hl h)).less_post keep Q
    · split at hc
      · rename_i hp
        simp only [Bool.and_eq_true] at hp
        simp only [Option.map_eq_some_iff] at hc
        obtain ⟨l, hl, rfl⟩ := hc
        exact (T_regionT (Q := thenA (fun s' => Q .normal (s'.less keep)) fun _ _ => False) _ hm hp.1.1 hp.1.2 hp.2 (seqT_of _ l [] [] [] s ⟨rfl, rfl, fun _ h => by cases h⟩ hl h)).less_post keep Q
      · cases hc
  | .cond c a b, cc, Q, s, hc, h => by
    simp only [comp] at hc
    split at hc
    · rename_i x y hx hy
      obtain rfl := Option.some.inj hc
      simp only [wpc] at h
      split at h
      · rename_i t ht
        refine T_cond t ht ?_
        cases t with
        | true => exact wpc_sound hm a x Q s hx (h.1 rfl)
        | false => exact wpc_sound hm b y Q s hy (h.2 rfl)
      · exact h.elim
    · cases hc
  | .block id a, cc, Q, s, hc, h => by
    simp only [comp, Option.map_eq_some_iff] at hc
    obtain ⟨x, hx, rfl⟩ := hc
    exact T_block (wpc_sound hm a x _ s hx h)
  | .loop a, cc, Q, s, hc, h => by
    simp only [comp, Option.map_eq_some_iff] at hc
    obtain ⟨x, hx, rfl⟩ := hc
    obtain ⟨I, m, h0, hr⟩ := h
    exact T_loopF I m h0 fun s' hI => wpc_sound hm a x _ s' hx (hr s' hI)
  | .scope a, cc, Q, s, hc, h => by
    have hn := wpc_sound hm a cc (noGotoA Q) s hc (wpc_mono cc _ _ s (fun e s he hq => ⟨he, hq⟩) h)
    intro r hr0 B S W0 ac w hr
    refine wpIn_scope_straight (wpIn_mono (hn r hr0 B S W0 ac w hr) ?_)
    rintro e a' w' ⟨S', s', h1, h2, h3⟩
    cases e with
    | goto l => exact absurd rfl (h3.1 l)
    | _ => exact ⟨S', s', h1, h2, h3.2⟩
  | .goto _, cc, Q, s, hc, h => by simp [comp] at hc
  | .rangeFunc f ps a b, cc, Q, s, hc, h => by
    simp only [comp] at hc
    split at hc
    · rename_i hn
      simp only [Bool.and_eq_true] at hn
      split at hc
      · rename_i x y hx hy
        obtain rfl := Option.some.inj hc
        simp only [wpc] at h
        split at h
        · rename_i g caps hf
          refine T_range hf h.1 hn.1 hn.2 fun l ob hl hk hY => h.2 l ob hl hk fun args H1 K hlen hH1 hw => hY args H1 K (by simpa using hlen) hH1 ?_
          exact (wpc_sound hm a x _ _ hx hw).mono (thenA_mono fun s' h' => wpc_sound hm b y _ s' hy h')
        · exact h.elim
      · cases hc
    · cases hc
  | .refuse _, cc, Q, s, hc, h => by simp [comp] at hc
end Go.Ab
