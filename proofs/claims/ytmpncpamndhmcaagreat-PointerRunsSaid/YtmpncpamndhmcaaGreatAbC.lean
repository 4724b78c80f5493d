/-
  The plan of a region: one order, with what is read looked at again; and that it speaks for every order.
-/
import Derived.Test.YtmpncpamndhmcaaGreatAbB
namespace Go.Ab
open Go.RowKit

section
variable {P : Program} {ops : Array Oper} {M : List Nat} {K : ASt → Prop}

def isEf (ops : Array Oper) (i : Nat) : Bool := match ops[i]? with | some o => kindOf o.op == .ef | none => false
def isRd (ops : Array Oper) (i : Nat) : Bool := match ops[i]? with | some o => kindOf o.op == .rd | none => false
def isAl (P : Program) (ops : Array Oper) (i : Nat) : Bool := match ops[i]? with | some o => kindOf o.op == .al && o.guard.isNone && (allocOb P o.op).isSome | none => false

/-- What was read is so still. -/
def Again (P : Program) (ops : Array Oper) (M : List Nat) (I : List (Nat × AV)) (i : Nat) (s s' : ASt) : Prop :=
  isEf ops i = true → (∃ o, ops[i]? = some o ∧ wantA ops o s = some true) → ∀ p ∈ I, aft M i p.1 = false → Ls P ops p.1 p.2 s'

/-- Whatever order is picked. -/
def anyR (P : Program) (ops : Array Oper) (M : List Nat) (I : List (Nat × AV)) (K : ASt → Prop) : Nat → Array Bool → ASt → Prop
  | 0, l, s => Region.ready .any ops l = [] ∧ K s
  | n + 1, l, s => (Region.ready .any ops l = [] → K s) ∧ ∀ i ∈ Region.ready .any ops l, stepA P ops i s fun s' => Again P ops M I i s s' ∧ anyR P ops M I K n (l.setIfInBounds i true) s'

/-- x's result is not looked at by j, j's not by x, and they are two. -/
def apartAt (ops : Array Oper) (x j : Nat) : Bool :=
  match ops[x]?, ops[j]? with
  | some ox, some oj => ox.apart ops oj
  | _, _ => false

/-- A reading operation looks at nothing that is written after it. -/
def readsOk (ops : Array Oper) (M : List Nat) : Bool :=
  (List.range ops.size).all fun p => !isRd ops p || (List.range ops.size).all fun j => match ops[p]?, ops[j]? with
    | some op, some oj => aft M p j || (match oj.dst with | some d => !(op.looksAt ops).contains d | none => true)
    | _, _ => true

def okPu (ops : Array Oper) (M : List Nat) (l : Array Bool) (c : Nat) : Bool :=
  (List.range ops.size).all fun j => j == c || l.getD j false || aft M j c || apartAt ops c j

def okEf (P : Program) (ops : Array Oper) (M : List Nat) (l : Array Bool) (c : Nat) : Bool :=
  (List.range ops.size).all fun j => j == c || l.getD j false || aft M j c || (isAl P ops j && apartAt ops c j)

theorem ready_more {l : Array Bool} {i j : Nat} (hi : i ∈ Region.ready .any ops l) (hj : j ∈ Region.ready .any ops l) (hne : j ≠ i) : j ∈ Region.ready .any ops (l.setIfInBounds i true) := by
  have hl := ready_lt hi
  obtain ⟨h1, o, ho, h2⟩ := mem_ready.1 hj
  refine mem_ready.2 ⟨?_, o, ho, fun e he hb => ?_⟩
  · rw [getD_set hl, if_neg (Ne.symm hne)]; exact h1
  · rw [getD_set hl]
    split
    · rfl
    · exact h2 e he hb

theorem set_comm' {l : Array Bool} (i j : Nat) : (l.setIfInBounds i true).setIfInBounds j true = (l.setIfInBounds j true).setIfInBounds i true := by
  by_cases h : i = j
  · subst h; rfl
  · rw [Array.setIfInBounds_comm _ _ h]

theorem unlisted {l : Array Bool} {c : Nat} (h : c ∈ Region.ready .any ops l) : l.getD c false = false := by
  obtain ⟨h1, _⟩ := mem_ready.1 h
  have := ready_lt h
  simp only [Array.getD_eq_getD_getElem?, Array.getElem?_eq_getElem this, Option.getD_some] at h1 ⊢
  exact h1

theorem okPu_spec {l : Array Bool} {c j : Nat} (h : okPu ops M l c = true) (hj : j < ops.size) (hne : j ≠ c) (hl : l.getD j false = false) (ha : aft M j c = false) : apartAt ops c j = true := by
  have := List.all_eq_true.1 h j (List.mem_range.2 hj)
  simpa [hne, hl, ha] using this

theorem okPu_set {l : Array Bool} {c i : Nat} (hi : i < l.size) (h : okPu ops M l c = true) : okPu ops M (l.setIfInBounds i true) c = true := by
  unfold okPu at *
  rw [List.all_eq_true] at *
  intro j hj
  have := h j hj
  rw [getD_set hi]
  by_cases e : i = j
  · simp [e]
  · rw [if_neg e]; exact this

theorem okEf_spec {l : Array Bool} {c j : Nat} (h : okEf P ops M l c = true) (hj : j < ops.size) (hne : j ≠ c) (hl : l.getD j false = false) (ha : aft M j c = false) : isAl P ops j = true ∧ apartAt ops c j = true := by
  have := List.all_eq_true.1 h j (List.mem_range.2 hj)
  simpa [hne, hl, ha] using this

theorem okEf_set {l : Array Bool} {c i : Nat} (hi : i < l.size) (h : okEf P ops M l c = true) : okEf P ops M (l.setIfInBounds i true) c = true := by
  unfold okEf at *
  rw [List.all_eq_true] at *
  intro j hj
  have := h j hj
  rw [getD_set hi]
  by_cases e : i = j
  · simp [e]
  · rw [if_neg e]; exact this

theorem apartAt_spec {x j : Nat} (h : apartAt ops x j = true) : ∃ ox oj, ops[x]? = some ox ∧ ops[j]? = some oj ∧ (∀ d, ox.dst = some d → d ∉ oj.looksAt ops) ∧ (∀ d, ox.dst = some d → oj.dst ≠ some d) ∧ (∀ d, oj.dst = some d → d ∉ ox.looksAt ops) := by
  unfold apartAt at h
  cases hx : ops[x]? with
  | none => rw [hx] at h; cases h
  | some ox =>
    cases hj : ops[j]? with
    | none => rw [hx, hj] at h; cases h
    | some oj =>
      rw [hx, hj] at h
      exact ⟨ox, oj, rfl, rfl, Oper.apart_spec h⟩

/-- What is read looks not at what comes up later. -/
theorem readsOk_spec {p j : Nat} {op oj : Oper} (h : readsOk ops M = true) (hp : ops[p]? = some op) (hj : ops[j]? = some oj) (hr : isRd ops p = true) (ha : aft M p j = false) : ∀ d, oj.dst = some d → d ∉ op.looksAt ops := by
  have h1 := List.all_eq_true.1 h p (List.mem_range.2 (Array.getElem?_eq_some_iff.1 hp).1)
  simp only [hr, Bool.not_true, Bool.false_or] at h1
  have h2 := List.all_eq_true.1 h1 j (List.mem_range.2 (Array.getElem?_eq_some_iff.1 hj).1)
  simp only [hp, hj, ha, Bool.false_or] at h2
  intro d hd
  simpa [hd] using h2

/-- The list of what was read: reading operations, listed. -/
def Seen (ops : Array Oper) (I : List (Nat × AV)) (l : Array Bool) : Prop := ∀ p ∈ I, isRd ops p.1 = true ∧ l.getD p.1 false = true ∧ ∃ o, ops[p.1]? = some o

theorem Seen.set {I : List (Nat × AV)} {l : Array Bool} {i : Nat} (h : Seen ops I l) (hi : i < l.size) : Seen ops I (l.setIfInBounds i true) := by
  intro p hp
  obtain ⟨h1, h2, h3⟩ := h p hp
  refine ⟨h1, ?_, h3⟩
  rw [getD_set hi]
  split
  · rfl
  · exact h2

theorem seen_put {I : List (Nat × AV)} {l : Array Bool} {c : Nat} {oc : Oper} {s : ASt} {v : AV} (hM : masksOk ops M = true) (hro : readsOk ops M = true) (hcl : Closed ops l) (hsn : Seen ops I l) (hoc : ops[c]? = some oc) (hun : l.getD c false = false)
    {p : Nat × AV} (hp : p ∈ I) (h : Ls P ops p.1 p.2 (s.put oc.dst v)) : Ls P ops p.1 p.2 s := by
  obtain ⟨h1, h2, o, ho⟩ := hsn p hp
  have hnp : aft M p.1 c = false := not_aft hM hcl hun (p.1 + 1) p.1 (by omega) (.inl ⟨⟨o, ho⟩, h2⟩)
  exact (Ls.put ho (readsOk_spec hro ho hoc h1 hnp)).1 h

theorem put_put_H (s : ASt) {x y : Option Tmp} (v u : AV) (H : AH) (h : ∀ d, x = some d → y ≠ some d) : ((ASt.wH ((s.put x v).put y u) (H)) : ASt) = ((ASt.wH (s.put y u) (H)) : ASt).put x v := by
  rw [ASt.put_withH, ← ASt.put_comm s v u h]

theorem anyR_sub {I I' : List (Nat × AV)} (h : ∀ p ∈ I, p ∈ I') : ∀ (n : Nat) (l : Array Bool) (s : ASt), anyR P ops M I' K n l s → anyR P ops M I K n l s
  | 0, _, _, hs => hs
  | n + 1, _, _, hs => ⟨hs.1, fun i hi => stepA_mono (fun _ ⟨h1, h2⟩ => ⟨fun he hw p hp ha => h1 he hw p (h p hp) ha, anyR_sub h n _ _ h2⟩) (hs.2 i hi)⟩

/-- An operation that changes nothing may be taken first; if it reads, it is looked at again. -/
theorem take_ls (hM : masksOk ops M = true) (hro : readsOk ops M = true) {c : Nat} {oc : Oper} {v : AV} (hoc : ops[c]? = some oc) (hself : ∀ d, oc.dst = some d → d ∉ oc.looksAt ops)
    {I I' : List (Nat × AV)} (hI : I' = I ∨ I' = (c, v) :: I)
    (hst : I' = I → ∀ (s s' : ASt), (∀ x ∈ oc.op.operands, s.ev x = s'.ev x) → wantA ops oc s = wantA ops oc s' → Ls P ops c v s → Ls P ops c v s') :
    ∀ (n : Nat) (l : Array Bool) (s : ASt), Closed ops l → okPu ops M l c = true → c ∈ Region.ready .any ops l → Seen ops I l → Ls P ops c v s → anyR P ops M I' K n (l.setIfInBounds c true) (s.put oc.dst v) → anyR P ops M I K (n + 1) l s := by
  have hsub : ∀ p ∈ I, p ∈ I' := by
    intro p hp
    rcases hI with rfl | rfl
    · exact hp
    · exact List.mem_cons_of_mem _ hp
  have hcc : ∀ (l : Array Bool) (s s2 : ASt), Ls P ops c v s → Again P ops M I c s s2 := by
    intro l s s2 ⟨o, ho, hls⟩ he ⟨o', ho', hw⟩
    obtain rfl := Option.some.inj (ho.symm.trans ho')
    simp only [isEf, ho, beq_iff_eq] at he
    rcases hls with ⟨h1, _⟩ | ⟨_, ⟨h1, _⟩ | ⟨h1, _⟩⟩
    · rw [hw] at h1; cases h1
    · rw [he] at h1; cases h1
    · rw [he] at h1; cases h1
  intro n
  induction n with
  | zero =>
    intro l s hcl hok hr hsn hls h
    refine ⟨fun e => (by rw [e] at hr; cases hr), fun i hi => ?_⟩
    by_cases hic : i = c
    · subst hic
      exact stepA_ls hoc hls ⟨hcc l s _ hls, anyR_sub hsub _ _ _ h⟩
    · have := ready_more hr hi hic
      rw [h.1] at this
      cases this
  | succ n ih =>
    intro l s hcl hok hr hsn hls h
    refine ⟨fun e => (by rw [e] at hr; cases hr), fun i hi => ?_⟩
    by_cases hic : i = c
    · subst hic
      exact stepA_ls hoc hls ⟨hcc l s _ hls, anyR_sub hsub _ _ _ h⟩
    · have hun := unlisted hr
      have hcl' := hcl.set hi
      have hna : aft M i c = false := not_aft hM hcl hun (i + 1) i (by omega) (.inr hi)
      have hil := ready_lt hi
      have hcr' := ready_more hi hr (Ne.symm hic)
      have hiu := unlisted hi
      obtain ⟨_, oi, hoi, _⟩ := mem_ready.1 hi
      obtain ⟨ox, oj, hox, hoj, a1, a2, a3⟩ := apartAt_spec (okPu_spec hok (Array.getElem?_eq_some_iff.1 hoi).1 hic hiu hna)
      obtain rfl := Option.some.inj (hoc.symm.trans hox)
      obtain rfl := Option.some.inj (hoi.symm.trans hoj)
      have hA := h.2 i (ready_more hr hi hic)
      have hun' : (l.setIfInBounds i true).getD c false = false := by rw [getD_set hil, if_neg hic]; exact hun
      have fin : ∀ s2 : ASt, Ls P ops c v s2 → anyR P ops M I' K n ((l.setIfInBounds c true).setIfInBounds i true) (s2.put oc.dst v) → anyR P ops M I K (n + 1) (l.setIfInBounds i true) s2 := by
        intro s2 h1 h2
        rw [set_comm'] at h2
        exact ih _ s2 hcl' (okPu_set hil hok) hcr' (hsn.set hil) h1 h2
      unfold stepA at hA ⊢
      simp only [hoi] at hA ⊢
      rw [wantA_put a1] at hA
      cases hw : wantA ops oi s with
      | none => simp only [hw] at hA
      | some b =>
        simp only [hw] at hA ⊢
        cases b with
        | false =>
          simp only at hA ⊢
          refine ⟨fun _ ⟨o', ho', hw'⟩ => (by obtain rfl := Option.some.inj (hoi.symm.trans ho'); rw [hw] at hw'; cases hw'), ?_⟩
          refine fin _ ((Ls.put hoc a3).2 hls) ?_
          rw [← ASt.put_comm s v undefA a2]
          exact hA.2
        | true =>
          simp only at hA ⊢
          cases hk : kindOf oi.op with
          | pu =>
            simp only [hk] at hA ⊢
            obtain ⟨u, hu, hA⟩ := hA
            refine ⟨u, hu.congr (ev_put_op a1), fun he => (by simp [isEf, hoi, hk] at he), ?_⟩
            refine fin _ ((Ls.put hoc a3).2 hls) ?_
            rw [← ASt.put_comm s v u a2]
            exact hA.2
          | rd =>
            simp only [hk] at hA ⊢
            obtain ⟨u, hu, hA⟩ := hA
            rw [ASt.put_H] at hu
            refine ⟨u, hu.congr (ev_put_op a1), fun he => (by simp [isEf, hoi, hk] at he), ?_⟩
            refine fin _ ((Ls.put hoc a3).2 hls) ?_
            rw [← ASt.put_comm s v u a2]
            exact hA.2
          | al =>
            simp only [hk] at hA ⊢
            obtain ⟨ob, hob, hA⟩ := hA
            refine ⟨ob, hob, fun k hkn => ⟨fun he => (by simp [isEf, hoi, hk] at he), ?_⟩⟩
            have hA' := hA k (by rw [ASt.put_H]; exact hkn)
            refine fin _ ?_ ?_
            · have h1 : Ls P ops c v (s.put oi.dst (ptrA k)) := (Ls.put hoc a3).2 hls
              have h2 := h1.more ob (k := k) (by rw [ASt.put_H]; exact hkn)
              rw [ASt.put_H] at h2
              exact h2
            · rw [← put_put_H s v (ptrA k) (upd s.H k ob) a2]
              have := hA'.2
              rw [ASt.put_H] at this
              exact this
          | ef =>
            simp only [hk] at hA ⊢
            rw [ASt.put_H] at hA
            refine (hA.congr (ev_put_op a1)).mono ?_
            rintro u H' ⟨hag, hrest⟩
            have hef : isEf ops i = true := by simp [isEf, hoi, hk]
            have hag' := hag hef ⟨oi, hoi, by rw [wantA_put a1]; exact hw⟩
            rw [put_put_H s v u H' a2] at hag' hrest
            have hsn2 := hsn.set hil
            refine ⟨fun _ _ p hp ha => seen_put hM hro hcl' hsn2 hoc hun' hp (hag' p (hsub p hp) ha), ?_⟩
            refine fin _ ?_ hrest
            rcases hI with rfl | rfl
            · refine hst rfl s _ (fun x hx => ?_) ?_ hls
              · rw [ASt.ev_withH]; exact (ev_put_op a3 x hx).symm
              · rw [wantA_withH, wantA_put a3]
            · exact (Ls.put hoc hself).1 (hag' (c, v) (by simp) hna)

theorem upd_comm (H : AH) {j k : Nat} (a b : AO) (h : j ≠ k) : upd (upd H j a) k b = upd (upd H k b) j a := by
  funext i
  simp only [upd]
  split <;> split <;> first | rfl | (exfalso; omega)

/-- An operation that acts may be taken first, if nothing but new variables may come up beside it. -/
theorem take_ef (hM : masksOk ops M = true) (hro : readsOk ops M = true) {c : Nat} {oc : Oper} (hoc : ops[c]? = some oc) (hkc : kindOf oc.op = .ef ∨ kindOf oc.op = .al) {I : List (Nat × AV)} :
    ∀ (n : Nat) (l : Array Bool) (s : ASt), Closed ops l → okEf P ops M l c = true → c ∈ Region.ready .any ops l → Seen ops I l → (∃ r : List Nat, r.length = n ∧ ∀ j, j < ops.size → l.getD j false = false → j = c ∨ j ∈ r) →
      stepA P ops c s (fun s' => Again P ops M I c s s' ∧ anyR P ops M I K n (l.setIfInBounds c true) s') → anyR P ops M I K (n + 1) l s := by
  intro n
  induction n with
  | zero =>
    intro l s hcl hok hr hsn ⟨r, hr0, hrr⟩ h
    refine ⟨fun e => (by rw [e] at hr; cases hr), fun i hi => ?_⟩
    by_cases hic : i = c
    · subst hic; exact h
    · exfalso
      obtain rfl := List.length_eq_zero_iff.1 hr0
      obtain ⟨_, oi, hoi, _⟩ := mem_ready.1 hi
      rcases hrr i (Array.getElem?_eq_some_iff.1 hoi).1 (unlisted hi) with h1 | h1
      · exact hic h1
      · cases h1
  | succ n ih =>
    intro l s hcl hok hr hsn ⟨r, hr0, hrr⟩ h
    refine ⟨fun e => (by rw [e] at hr; cases hr), fun i hi => ?_⟩
    by_cases hic : i = c
    · subst hic; exact h
    · have hun := unlisted hr
      have hcl' := hcl.set hi
      have hna : aft M i c = false := not_aft hM hcl hun (i + 1) i (by omega) (.inr hi)
      have hil := ready_lt hi
      have hcr' := ready_more hi hr (Ne.symm hic)
      have hir' := ready_more hr hi hic
      have hiu := unlisted hi
      obtain ⟨_, oi, hoi, _⟩ := mem_ready.1 hi
      have hisz := (Array.getElem?_eq_some_iff.1 hoi).1
      obtain ⟨hal, hap⟩ := okEf_spec hok hisz hic hiu hna
      obtain ⟨ox, oj, hox, hoj, a1, a2, a3⟩ := apartAt_spec hap
      obtain rfl := Option.some.inj (hoc.symm.trans hox)
      obtain rfl := Option.some.inj (hoi.symm.trans hoj)
      have hun' : (l.setIfInBounds i true).getD c false = false := by rw [getD_set hil, if_neg hic]; exact hun
      simp only [isAl, hoi, Bool.and_eq_true, beq_iff_eq, Option.isNone_iff_eq_none] at hal
      obtain ⟨⟨hk, hg⟩, hob⟩ := hal
      obtain ⟨ob, hob⟩ := Option.isSome_iff_exists.1 hob
      have hwi : ∀ s : ASt, wantA ops oi s = some true := fun s => by simp [wantA, hg]
      -- the rest, after c and then i
      have after_i : ∀ (s' : ASt) (k : Nat), s'.H k = none → anyR P ops M I K (n + 1) (l.setIfInBounds c true) s' → anyR P ops M I K n ((l.setIfInBounds i true).setIfInBounds c true) (ASt.wH (s'.put oi.dst (ptrA k)) (upd s'.H k ob)) := by
        intro s' k hkn hany
        have h1 := hany.2 i hir'
        unfold stepA at h1
        simp only [hoi, hwi, hk] at h1
        obtain ⟨ob', hob', h1⟩ := h1
        obtain rfl := Option.some.inj (hob.symm.trans hob')
        rw [set_comm']
        exact (h1 k hkn).2
      have hrest : ∃ r' : List Nat, r'.length = n ∧ ∀ j, j < ops.size → (l.setIfInBounds i true).getD j false = false → j = c ∨ j ∈ r' := by
        have hir : i ∈ r := (hrr i hisz hiu).resolve_left hic
        refine ⟨r.erase i, by rw [List.length_erase_of_mem hir, hr0]; rfl, fun j hj hlj => ?_⟩
        rw [getD_set hil] at hlj
        by_cases e : i = j
        · rw [if_pos e] at hlj; cases hlj
        · rw [if_neg e] at hlj
          rcases hrr j hj hlj with h1 | h1
          · exact .inl h1
          · exact .inr ((List.mem_erase_of_ne (Ne.symm e)).2 h1)
      have ci : ∀ d, oi.dst = some d → oc.dst ≠ some d := fun d hd hd' => a2 d hd' hd
      show stepA P ops i s _
      rw [stepA]
      simp only [hoi, hwi, hk]
      refine ⟨ob, hob, fun k hkn => ⟨fun he => (by simp [isEf, hoi, hk] at he), ?_⟩⟩
      refine ih _ _ hcl' (okEf_set hil hok) hcr' (hsn.set hil) hrest ?_
      unfold stepA at h ⊢
      simp only [hoc] at h ⊢
      have hw2 : wantA ops oc (ASt.wH (s.put oi.dst (ptrA k)) (upd s.H k ob)) = wantA ops oc s := by rw [wantA_withH, wantA_put a3]
      rw [hw2]
      cases hw : wantA ops oc s with
      | none => simp only [hw] at h
      | some b =>
        simp only [hw] at h ⊢
        cases b with
        | false =>
          simp only at h ⊢
          refine ⟨fun _ ⟨o', ho', hw'⟩ => (by obtain rfl := Option.some.inj (hoc.symm.trans ho'); rw [hw2, hw] at hw'; cases hw'), ?_⟩
          have h1 := after_i _ k (by rw [ASt.put_H]; exact hkn) h.2
          rw [ASt.put_H, put_put_H s undefA (ptrA k) (upd s.H k ob) a2] at h1
          exact h1
        | true =>
          simp only at h ⊢
          rcases hkc with hkc | hkc
          · simp only [hkc] at h ⊢
            have h1 := h.frame (k := k) ob (allocOb_kd hob) hkn
            rw [ASt.ev_withH]
            refine (h1.congr (fun x hx => (ev_put_op a3 x hx).symm)).mono ?_
            rintro u H'' ⟨H', hk', rfl, hag, hany⟩
            have e1 : ((ASt.wH (((ASt.wH (s.put oi.dst (ptrA k)) (upd s.H k ob)) : ASt).put oc.dst u) (upd H' k ob)) : ASt) = (ASt.wH (((ASt.wH (s.put oc.dst u) (H')) : ASt).put oi.dst (ptrA k)) (upd H' k ob)) := by
              rw [ASt.put_withH, ASt.put_withH, ASt.put_comm s u (ptrA k) a2]
              rfl
            rw [e1]
            refine ⟨fun he _ p hp ha => ?_, after_i (ASt.wH (s.put oc.dst u) (H')) k hk' hany⟩
            have h2 := hag he ⟨oc, hoc, hw⟩ p hp ha
            have h3 := h2.more ob (k := k) hk'
            obtain ⟨g1, g2, op, hop⟩ := hsn p hp
            have hnp : aft M p.1 i = false := not_aft hM hcl hiu (p.1 + 1) p.1 (by omega) (.inl ⟨⟨op, hop⟩, g2⟩)
            have h4 := (Ls.put (u := ptrA k) hop (readsOk_spec hro hop hoi g1 hnp)).2 h3
            simpa only [ASt.put_withH, ASt.wH_wH, ASt.wH_H] using h4
          · simp only [hkc] at h ⊢
            obtain ⟨obc, hobc, h⟩ := h
            refine ⟨obc, hobc, fun kc hkc' => ?_⟩
            have hkc' : upd s.H k ob kc = none := hkc'
            have hne : kc ≠ k := by
              intro e
              subst e
              simp [upd] at hkc'
            have hkc'' : s.H kc = none := by
              simp only [upd, if_neg hne] at hkc'
              exact hkc'
            refine ⟨fun he => (by simp [isEf, hoc, hkc] at he), ?_⟩
            have h1 := after_i _ k (show upd s.H kc obc k = none by simp only [upd, if_neg (Ne.symm hne)]; exact hkn) (h kc hkc'').2
            have e1 : ((ASt.wH (((ASt.wH (s.put oi.dst (ptrA k)) (upd s.H k ob)) : ASt).put oc.dst (ptrA kc)) (upd (upd s.H k ob) kc obc)) : ASt) = (ASt.wH (((ASt.wH (s.put oc.dst (ptrA kc)) (upd s.H kc obc)) : ASt).put oi.dst (ptrA k)) (upd (upd s.H kc obc) k ob)) := by
              rw [ASt.put_withH, ASt.put_withH, ASt.put_comm s (ptrA kc) (ptrA k) a2, upd_comm s.H ob obc (Ne.symm hne)]
              rfl
            exact e1 ▸ h1

/-! ### The plan -/
def selfOk (ops : Array Oper) (c : Nat) : Bool := match ops[c]? with
  | some o => match o.dst with | some d => !(o.looksAt ops).contains d | none => true
  | none => false

def kindAt (ops : Array Oper) (c : Nat) : Kind := match ops[c]? with | some o => kindOf o.op | none => .ef

def planOk (P : Program) (ops : Array Oper) (M : List Nat) : Array Bool → List Nat → Bool
  | l, [] => Region.ready .any ops l == []
  | l, c :: r => (Region.ready .any ops l).contains c && (match kindAt ops c with
      | .pu | .rd => okPu ops M l c && selfOk ops c
      | _ => okEf P ops M l c) && planOk P ops M (l.setIfInBounds c true) r

def planned (P : Program) (ops : Array Oper) (plan : List Nat) : Bool :=
  let M := masks ops.toList
  plan.length == ops.size && masksOk ops M && readsOk ops M && planOk P ops M (Array.replicate ops.size false) plan && (List.range ops.size).all fun j => plan.contains j

def seqD (P : Program) (ops : Array Oper) (M : List Nat) : List Nat → List (Nat × AV) → (ASt → Prop) → ASt → Prop
  | [], _, K, s => K s
  | c :: r, I, K, s => match kindAt ops c with
    | .pu => ∃ v, Ls P ops c v s ∧ seqD P ops M r I K (match ops[c]? with | some o => s.put o.dst v | none => s)
    | .rd => ∃ v, Ls P ops c v s ∧ seqD P ops M r ((c, v) :: I) K (match ops[c]? with | some o => s.put o.dst v | none => s)
    | _ => stepA P ops c s fun s' => Again P ops M I c s s' ∧ seqD P ops M r I K s'

theorem any_of_seq (hM : masksOk ops M = true) (hro : readsOk ops M = true) : ∀ (plan : List Nat) (l : Array Bool) (I : List (Nat × AV)) (s : ASt),
    Closed ops l → Seen ops I l → (∀ j, j < ops.size → l.getD j false = false → j ∈ plan) → planOk P ops M l plan = true → seqD P ops M plan I K s → anyR P ops M I K plan.length l s
  | [], l, I, s, _, _, _, hp, h => by
    simp only [planOk, beq_iff_eq] at hp
    exact ⟨hp, h⟩
  | c :: r, l, I, s, hcl, hsn, hcov, hp, h => by
    simp only [planOk, Bool.and_eq_true] at hp
    obtain ⟨⟨hr, hk⟩, hrest⟩ := hp
    have hr : c ∈ Region.ready .any ops l := by simpa using hr
    have hcl' := hcl.set hr
    have hl := ready_lt hr
    have hcov' : ∀ j, j < ops.size → (l.setIfInBounds c true).getD j false = false → j ∈ r := by
      intro j hj hlj
      rw [getD_set hl] at hlj
      by_cases e : c = j
      · rw [if_pos e] at hlj; cases hlj
      · rw [if_neg e] at hlj
        exact (List.mem_cons.1 (hcov j hj hlj)).resolve_left (Ne.symm e)
    obtain ⟨_, oc, hoc, _⟩ := mem_ready.1 hr
    have hka : kindAt ops c = kindOf oc.op := by simp [kindAt, hoc]
    simp only [seqD] at h
    cases hkk : kindOf oc.op with
    | pu =>
      simp only [hka, hkk] at hk h
      simp only [Bool.and_eq_true] at hk
      obtain ⟨v, hls, h⟩ := h
      simp only [hoc] at h
      refine take_ls hM hro hoc ?_ (.inl rfl) (fun _ s s' he hw ⟨o, ho, hl⟩ => ?_) _ l s hcl hk.1 hr hsn hls (any_of_seq hM hro r _ _ _ hcl' (hsn.set hl) hcov' hrest h)
      · intro d hd
        simpa [selfOk, hoc, hd] using hk.2
      · obtain rfl := Option.some.inj (hoc.symm.trans ho)
        refine ⟨_, ho, ?_⟩
        rw [hw] at hl
        rcases hl with h1 | ⟨h1, ⟨h2, h3⟩ | ⟨h2, h3⟩⟩
        · exact .inl h1
        · exact .inr ⟨h1, .inl ⟨h2, h3.congr he⟩⟩
        · rw [hkk] at h2; cases h2
    | rd =>
      simp only [hka, hkk] at hk h
      simp only [Bool.and_eq_true] at hk
      obtain ⟨v, hls, h⟩ := h
      simp only [hoc] at h
      have hsn' : Seen ops ((c, v) :: I) (l.setIfInBounds c true) := by
        intro p hp
        rcases List.mem_cons.1 hp with rfl | hp
        · exact ⟨by simp [isRd, hoc, hkk], by rw [getD_set hl, if_pos rfl], oc, hoc⟩
        · exact hsn.set hl p hp
      refine take_ls hM hro hoc ?_ (.inr rfl) (fun e => ?_) _ l s hcl hk.1 hr hsn hls (any_of_seq hM hro r _ _ _ hcl' hsn' hcov' hrest h)
      · intro d hd
        simpa [selfOk, hoc, hd] using hk.2
      · have := congrArg List.length e
        simp at this
    | al =>
      simp only [hka, hkk] at hk h
      refine take_ef hM hro hoc (.inr hkk) _ l s hcl hk hr hsn ⟨r, rfl, fun j hj hlj => ?_⟩ (stepA_mono (fun s' ⟨h1, h2⟩ => ⟨h1, any_of_seq hM hro r _ _ _ hcl' (hsn.set hl) hcov' hrest h2⟩) h)
      rcases List.mem_cons.1 (hcov j hj hlj) with h1 | h1
      · exact .inl h1
      · exact .inr h1
    | ef =>
      simp only [hka, hkk] at hk h
      refine take_ef hM hro hoc (.inl hkk) _ l s hcl hk hr hsn ⟨r, rfl, fun j hj hlj => ?_⟩ (stepA_mono (fun s' ⟨h1, h2⟩ => ⟨h1, any_of_seq hM hro r _ _ _ hcl' (hsn.set hl) hcov' hrest h2⟩) h)
      rcases List.mem_cons.1 (hcov j hj hlj) with h1 | h1
      · exact .inl h1
      · exact .inr h1

/-! ### Plans that branch: where more than one operation that acts may come next, each may -/
inductive PT where
  | nil
  | cons (c : Nat) (r : PT)
  | br (a b : PT)

def PT.heads : PT → List Nat
  | .nil => []
  | .cons c _ => [c]
  | .br a b => a.heads ++ b.heads

def treeOk (P : Program) (ops : Array Oper) (M : List Nat) : Bool → Array Bool → PT → Bool
  | false, l, .nil => Region.ready .any ops l == []
  | true, _, .nil => false
  | false, l, .cons c r => (Region.ready .any ops l).contains c && (match kindAt ops c with
      | .pu | .rd => okPu ops M l c && selfOk ops c
      | _ => okEf P ops M l c) && treeOk P ops M false (l.setIfInBounds c true) r
  | true, l, .cons c r => (Region.ready .any ops l).contains c && (kindAt ops c == .ef || kindAt ops c == .al) && treeOk P ops M false (l.setIfInBounds c true) r
  | m, l, .br a b => treeOk P ops M true l a && treeOk P ops M true l b && (m || (Region.ready .any ops l).all fun i => (PT.br a b).heads.contains i)

def seqT (P : Program) (ops : Array Oper) (M : List Nat) : PT → List (Nat × AV) → (ASt → Prop) → ASt → Prop
  | .nil, _, K, s => K s
  | .cons c r, I, K, s => match kindAt ops c with
    | .pu => ∃ v, Ls P ops c v s ∧ seqT P ops M r I K (match ops[c]? with | some o => s.put o.dst v | none => s)
    | .rd => ∃ v, Ls P ops c v s ∧ seqT P ops M r ((c, v) :: I) K (match ops[c]? with | some o => s.put o.dst v | none => s)
    | _ => stepA P ops c s fun s' => Again P ops M I c s s' ∧ seqT P ops M r I K s'
  | .br a b, I, K, s => seqT P ops M a I K s ∧ seqT P ops M b I K s

/-- n numbers, and all that are not listed yet are among them. -/
def Cov (ops : Array Oper) (l : Array Bool) (n : Nat) : Prop := ∃ r : List Nat, r.length = n ∧ ∀ j, j < ops.size → l.getD j false = false → j ∈ r

theorem Cov.step {l : Array Bool} {n c : Nat} (h : Cov ops l n) (hr : c ∈ Region.ready .any ops l) : ∃ m, n = m + 1 ∧ Cov ops (l.setIfInBounds c true) m ∧ ∃ r : List Nat, r.length = m ∧ ∀ j, j < ops.size → l.getD j false = false → j = c ∨ j ∈ r := by
  obtain ⟨r, hn, hc⟩ := h
  obtain ⟨_, oc, hoc, _⟩ := mem_ready.1 hr
  have hcr := hc c (Array.getElem?_eq_some_iff.1 hoc).1 (unlisted hr)
  have hl := ready_lt hr
  have hle := List.length_erase_of_mem hcr
  have hpos := List.length_pos_of_mem hcr
  refine ⟨r.length - 1, by omega, ⟨r.erase c, hle, fun j hj hlj => ?_⟩, r.erase c, hle, fun j hj hlj => ?_⟩
  · rw [getD_set hl] at hlj
    by_cases e : c = j
    · rw [if_pos e] at hlj; cases hlj
    · rw [if_neg e] at hlj
      exact (List.mem_erase_of_ne (Ne.symm e)).2 (hc j hj hlj)
  · by_cases e : j = c
    · exact .inl e
    · exact .inr ((List.mem_erase_of_ne e).2 (hc j hj hlj))

theorem any_of_tree (hM : masksOk ops M = true) (hro : readsOk ops M = true) : ∀ (t : PT) (l : Array Bool) (I : List (Nat × AV)) (s : ASt), Closed ops l → Seen ops I l → seqT P ops M t I K s →
    (∀ n, Cov ops l n → treeOk P ops M false l t = true → anyR P ops M I K n l s) ∧
    (∀ n, Cov ops l (n + 1) → treeOk P ops M true l t = true → ∀ i ∈ t.heads, stepA P ops i s fun s' => Again P ops M I i s s' ∧ anyR P ops M I K n (l.setIfInBounds i true) s')
  | .nil, l, I, s, _, _, h => by
    refine ⟨fun n _ hp => ?_, fun n _ _ i hi => by simp [PT.heads] at hi⟩
    simp only [treeOk, beq_iff_eq] at hp
    cases n with
    | zero => exact ⟨hp, h⟩
    | succ n => exact ⟨fun _ => h, fun i hi => by rw [hp] at hi; cases hi⟩
  | .cons c r, l, I, s, hcl, hsn, h => by
    constructor
    · intro n hcov hp
      simp only [treeOk, Bool.and_eq_true] at hp
      obtain ⟨⟨hr, hk⟩, hrest⟩ := hp
      have hr : c ∈ Region.ready .any ops l := by simpa using hr
      have hcl' := hcl.set hr
      have hl := ready_lt hr
      obtain ⟨m, rfl, hcov', hcr⟩ := hcov.step hr
      obtain ⟨_, oc, hoc, _⟩ := mem_ready.1 hr
      have hka : kindAt ops c = kindOf oc.op := by simp [kindAt, hoc]
      simp only [seqT] at h
      cases hkk : kindOf oc.op with
      | pu =>
        simp only [hka, hkk] at hk h
        simp only [Bool.and_eq_true] at hk
        obtain ⟨v, hls, h⟩ := h
        simp only [hoc] at h
        refine take_ls hM hro hoc ?_ (.inl rfl) (fun _ s s' he hw ⟨o, ho, hl⟩ => ?_) _ l s hcl hk.1 hr hsn hls ((any_of_tree hM hro r _ _ _ hcl' (hsn.set hl) h).1 m hcov' hrest)
        · intro d hd
          simpa [selfOk, hoc, hd] using hk.2
        · obtain rfl := Option.some.inj (hoc.symm.trans ho)
          refine ⟨_, ho, ?_⟩
          rw [hw] at hl
          rcases hl with h1 | ⟨h1, ⟨h2, h3⟩ | ⟨h2, h3⟩⟩
          · exact .inl h1
          · exact .inr ⟨h1, .inl ⟨h2, h3.congr he⟩⟩
          · rw [hkk] at h2; cases h2
      | rd =>
        simp only [hka, hkk] at hk h
        simp only [Bool.and_eq_true] at hk
        obtain ⟨v, hls, h⟩ := h
        simp only [hoc] at h
        have hsn' : Seen ops ((c, v) :: I) (l.setIfInBounds c true) := by
          intro p hp
          rcases List.mem_cons.1 hp with rfl | hp
          · exact ⟨by simp [isRd, hoc, hkk], by rw [getD_set hl, if_pos rfl], oc, hoc⟩
          · exact hsn.set hl p hp
        refine take_ls hM hro hoc ?_ (.inr rfl) (fun e => ?_) _ l s hcl hk.1 hr hsn hls ((any_of_tree hM hro r _ _ _ hcl' hsn' h).1 m hcov' hrest)
        · intro d hd
          simpa [selfOk, hoc, hd] using hk.2
        · have := congrArg List.length e
          simp at this
      | al =>
        simp only [hka, hkk] at hk h
        exact take_ef hM hro hoc (.inr hkk) _ l s hcl hk hr hsn hcr (stepA_mono (fun s' ⟨h1, h2⟩ => ⟨h1, (any_of_tree hM hro r _ _ _ hcl' (hsn.set hl) h2).1 m hcov' hrest⟩) h)
      | ef =>
        simp only [hka, hkk] at hk h
        exact take_ef hM hro hoc (.inl hkk) _ l s hcl hk hr hsn hcr (stepA_mono (fun s' ⟨h1, h2⟩ => ⟨h1, (any_of_tree hM hro r _ _ _ hcl' (hsn.set hl) h2).1 m hcov' hrest⟩) h)
    · intro n hcov hp i hi
      simp only [PT.heads, List.mem_singleton] at hi
      subst hi
      simp only [treeOk, Bool.and_eq_true] at hp
      obtain ⟨⟨hr, hk⟩, hrest⟩ := hp
      have hr : i ∈ Region.ready .any ops l := by simpa using hr
      have hcl' := hcl.set hr
      have hl := ready_lt hr
      obtain ⟨m, hm, hcov', _⟩ := hcov.step hr
      obtain rfl : m = n := by omega
      have hk' : kindAt ops i = .ef ∨ kindAt ops i = .al := by simpa using hk
      simp only [seqT] at h
      rcases hk' with hk' | hk'
      · simp only [hk'] at h
        exact stepA_mono (fun s' ⟨h1, h2⟩ => ⟨h1, (any_of_tree hM hro r _ _ _ hcl' (hsn.set hl) h2).1 m hcov' hrest⟩) h
      · simp only [hk'] at h
        exact stepA_mono (fun s' ⟨h1, h2⟩ => ⟨h1, (any_of_tree hM hro r _ _ _ hcl' (hsn.set hl) h2).1 m hcov' hrest⟩) h
  | .br a b, l, I, s, hcl, hsn, h => by
    obtain ⟨ha, hb⟩ := h
    have iha := any_of_tree hM hro a l I s hcl hsn ha
    have ihb := any_of_tree hM hro b l I s hcl hsn hb
    have B : ∀ n, Cov ops l (n + 1) → treeOk P ops M true l a = true → treeOk P ops M true l b = true → ∀ i ∈ (PT.br a b).heads, stepA P ops i s fun s' => Again P ops M I i s s' ∧ anyR P ops M I K n (l.setIfInBounds i true) s' := by
      intro n hcov h1 h2 i hi
      rcases List.mem_append.1 hi with hi | hi
      · exact iha.2 n hcov h1 i hi
      · exact ihb.2 n hcov h2 i hi
    constructor
    · intro n hcov hp
      simp only [treeOk, Bool.and_eq_true, Bool.false_or] at hp
      obtain ⟨⟨h1, h2⟩, h3⟩ := hp
      have hne : ∃ c, c ∈ Region.ready .any ops l := by
        have : ∀ t : PT, treeOk P ops M true l t = true → ∃ c, c ∈ Region.ready .any ops l := by
          intro t
          induction t with
          | nil => intro h; simp [treeOk] at h
          | cons c r _ =>
            intro h
            simp only [treeOk, Bool.and_eq_true] at h
            exact ⟨c, by simpa using h.1.1⟩
          | br a b iha _ =>
            intro h
            simp only [treeOk, Bool.and_eq_true] at h
            exact iha h.1.1
        exact this a h1
      obtain ⟨c, hc⟩ := hne
      obtain ⟨m, rfl, _, _⟩ := hcov.step hc
      refine ⟨fun e => (by rw [e] at hc; cases hc), fun i hi => ?_⟩
      have := List.all_eq_true.1 h3 i hi
      exact B m hcov h1 h2 i (by simpa using this)
    · intro n hcov hp
      simp only [treeOk, Bool.and_eq_true] at hp
      exact B n hcov hp.1.1 hp.1.2
end
end Go.Ab
