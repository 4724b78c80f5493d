/-
  Several texts in one: X1; X2; X3; X8; X4; N1; N2; N3; N4. Conditions: as each lemma states them.
-/
import Derived.Test.YtohedpgoioemnaaGreatDoorMW
import Derived.Test.YtohedpgoioemnaaGreatDoorMO
/-! Regions, in plain words: the points of bands; canonical bands; that the points tell the bands. No program in sight; conditions: as each lemma states them. -/
section
namespace Go.Proofs.YtohedpgoioemnaaGreatDoor
open Go Go.Ab Go.RowKit
set_option linter.unusedSimpArgs false
set_option linter.unusedVariables false
set_option linter.unnecessarySimpa false


theorem pairs_ge : ∀ {l : List Int} {b : Int}, (b :: l).Pairwise (· < ·) → ∀ p ∈ pairs (b :: l), b ≤ p.1
  | [], b, _, p, hp => by simp [pairs] at hp
  | c :: l, b, h, p, hp => by
    obtain ⟨h3, h4⟩ := List.pairwise_cons.1 h
    simp only [pairs, List.mem_cons] at hp
    rcases hp with rfl | hp
    · exact Int.le_refl _
    · have := pairs_ge h4 p hp
      have := h3 c (by simp)
      omega
/-- No cut lies within a piece. -/
theorem pairs_cut : ∀ {xs : List Int}, xs.Pairwise (· < ·) → ∀ {p : Rn}, p ∈ pairs xs → ∀ {x : Int}, p.1 ≤ x → x < p.2 → ∀ {e : Int}, e ∈ xs → (e ≤ x ↔ e ≤ p.1)
  | [], _, p, hp, _, _, _, _, _ => by simp [pairs] at hp
  | [a], _, p, hp, _, _, _, _, _ => by simp [pairs] at hp
  | a :: b :: l, h, p, hp, x, h1, h2, e, he => by
    obtain ⟨h3, h4⟩ := List.pairwise_cons.1 h
    have hab := h3 b (by simp)
    simp only [pairs, List.mem_cons] at hp
    rcases hp with rfl | hp
    · simp only at h1 h2 ⊢
      rcases List.mem_cons.1 he with rfl | he
      · omega
      · have hb : b ≤ e := by
          rcases List.mem_cons.1 he with rfl | he
          · exact Int.le_refl _
          · have := (List.pairwise_cons.1 h4).1 e he; omega
        omega
    · have hb := pairs_ge h4 p hp
      rcases List.mem_cons.1 he with rfl | he
      · omega
      · exact pairs_cut h4 hp h1 h2 he
/-- Whatever lies between two cuts lies in a piece. -/
theorem pairs_cover : ∀ {xs : List Int}, xs.Pairwise (· < ·) → ∀ {x e1 e2 : Int}, e1 ∈ xs → e2 ∈ xs → e1 ≤ x → x < e2 → ∃ p ∈ pairs xs, p.1 ≤ x ∧ x < p.2
  | [], _, _, _, _, h, _, _, _ => by simp at h
  | [a], _, x, e1, e2, h1, h2, h3, h4 => by simp at h1 h2; omega
  | a :: b :: l, h, x, e1, e2, h1, h2, h3, h4 => by
    obtain ⟨g3, g4⟩ := List.pairwise_cons.1 h
    have hab := g3 b (by simp)
    have ha1 : a ≤ e1 := by
      rcases List.mem_cons.1 h1 with rfl | h1
      · exact Int.le_refl _
      · have := g3 e1 h1; omega
    by_cases hx : x < b
    · exact ⟨(a, b), by simp [pairs], by simp only; omega, hx⟩
    · have h2' : e2 ∈ b :: l := by
        rcases List.mem_cons.1 h2 with rfl | h2
        · omega
        · exact h2
      obtain ⟨p, hp, q⟩ := pairs_cover g4 (x := x) (e1 := b) (by simp) h2' (by omega) h4
      exact ⟨p, by simp only [pairs, List.mem_cons]; exact .inr hp, q⟩
theorem any_eq {α : Type} {p q : α → Bool} : ∀ {l : List α}, (∀ r ∈ l, p r = q r) → l.any p = l.any q
  | [], _ => rfl
  | a :: l, h => by rw [List.any_cons, List.any_cons, h a (by simp), any_eq fun r hr => h r (by simp [hr])]
theorem combF_in {kf : Bool → Bool → Bool} (h0 : kf false false = false) (a b : List Rn) (ha : ∀ r ∈ a, r.1 < r.2) (hb : ∀ r ∈ b, r.1 < r.2) (x : Int) : InR (combF kf a b) x ↔ kf (cvF a x) (cvF b x) = true := by
  have hr := xsF_rising (a ++ b)
  have h1 : ∀ r ∈ (pairs (xsF (a ++ b))).filter (fun p => kf (cvF a p.1) (cvF b p.1)), r.1 < r.2 := fun r hr' => (pairs_lt _ hr).1 r (List.mem_filter.1 hr').1
  have hin : InR (combF kf a b) x ↔ InR ((pairs (xsF (a ++ b))).filter (fun p => kf (cvF a p.1) (cvF b p.1))) x := sumF_in h1 x
  rw [hin]
  have cut : ∀ p ∈ pairs (xsF (a ++ b)), p.1 ≤ x → x < p.2 → cvF a p.1 = cvF a x ∧ cvF b p.1 = cvF b x := by
    intro p hp g1 g2
    have key : ∀ l : List Rn, (∀ r ∈ l, r ∈ a ++ b) → cvF l p.1 = cvF l x := by
      intro l hl
      unfold cvF
      refine any_eq fun r hr' => ?_
      have m1 : r.1 ∈ xsF (a ++ b) := mem_xsF.2 ⟨r, hl r hr', .inl rfl⟩
      have m2 : r.2 ∈ xsF (a ++ b) := mem_xsF.2 ⟨r, hl r hr', .inr rfl⟩
      have c1 := pairs_cut hr hp g1 g2 m1
      have c2 := pairs_cut hr hp g1 g2 m2
      congr 1
      · exact decide_eq_decide.2 c1.symm
      · exact decide_eq_decide.2 ⟨fun h => by omega, fun h => by omega⟩
    exact ⟨key a fun r hr' => List.mem_append_left _ hr', key b fun r hr' => List.mem_append_right _ hr'⟩
  constructor
  · rintro ⟨p, hp, g1, g2⟩
    obtain ⟨hp1, hp2⟩ := List.mem_filter.1 hp
    obtain ⟨c1, c2⟩ := cut p hp1 g1 g2
    rw [c1, c2] at hp2
    exact hp2
  · intro hk
    have hex : ∃ r ∈ a ++ b, r.1 ≤ x ∧ x < r.2 := by
      cases e1 : cvF a x with
      | true =>
        obtain ⟨r, hr', g⟩ := cvF_iff.1 e1
        exact ⟨r, List.mem_append_left _ hr', g⟩
      | false =>
        cases e2 : cvF b x with
        | true =>
          obtain ⟨r, hr', g⟩ := cvF_iff.1 e2
          exact ⟨r, List.mem_append_right _ hr', g⟩
        | false => rw [e1, e2, h0] at hk; cases hk
    obtain ⟨r, hr', g1, g2⟩ := hex
    obtain ⟨p, hp, q1, q2⟩ := pairs_cover hr (mem_xsF.2 ⟨r, hr', .inl rfl⟩) (mem_xsF.2 ⟨r, hr', .inr rfl⟩) g1 g2
    obtain ⟨c1, c2⟩ := cut p hp q1 q2
    exact ⟨p, List.mem_filter.2 ⟨hp, by rw [c1, c2]; exact hk⟩, q1, q2⟩

/-! ### Bands -/
def InB (bs : List Bd) (x y : Int) : Prop := ∃ b ∈ bs, b.1 ≤ y ∧ y < b.2.1 ∧ InR b.2.2 x
def CanB (bs : List Bd) : Prop := (∀ b ∈ bs, b.1 < b.2.1 ∧ b.2.2 ≠ [] ∧ Can b.2.2) ∧ bs.Pairwise fun a b => a.2.1 ≤ b.1 ∧ (a.2.1 = b.1 → a.2.2 ≠ b.2.2)
theorem CanB.cons {r : Bd} {rs : List Bd} : CanB (r :: rs) ↔ (r.1 < r.2.1 ∧ r.2.2 ≠ [] ∧ Can r.2.2) ∧ (∀ s ∈ rs, r.2.1 ≤ s.1 ∧ (r.2.1 = s.1 → r.2.2 ≠ s.2.2)) ∧ CanB rs := by
  constructor
  · rintro ⟨h1, h2⟩
    obtain ⟨h3, h4⟩ := List.pairwise_cons.1 h2
    exact ⟨h1 r (by simp), h3, fun s hs => h1 s (by simp [hs]), h4⟩
  · rintro ⟨h1, h2, h3, h4⟩
    refine ⟨fun s hs => ?_, List.pairwise_cons.2 ⟨h2, h4⟩⟩
    rcases List.mem_cons.1 hs with rfl | hs
    · exact h1
    · exact h3 s hs
theorem can_pt {rs : List Rn} (h : Can rs) (hne : rs ≠ []) : ∃ x, InR rs x := by
  cases rs with
  | nil => exact absurd rfl hne
  | cons r rs => exact ⟨r.1, r, by simp, Int.le_refl _, (Can.cons.1 h).1⟩
theorem InB.cons {r : Bd} {rs : List Bd} {x y : Int} : InB (r :: rs) x y ↔ (r.1 ≤ y ∧ y < r.2.1 ∧ InR r.2.2 x) ∨ InB rs x y := by simp [InB]
theorem CanB.low {r : Bd} {rs : List Bd} (h : CanB (r :: rs)) {x y : Int} (hi : InB (r :: rs) x y) : r.1 ≤ y := by
  obtain ⟨h1, h2, _⟩ := CanB.cons.1 h
  rcases InB.cons.1 hi with g | ⟨s, hs, g, _⟩
  · exact g.1
  · have := (h2 s hs).1; omega
theorem CanB.head {r : Bd} {rs : List Bd} (h : CanB (r :: rs)) {x y : Int} (h1 : r.1 ≤ y) (h2 : y < r.2.1) : InB (r :: rs) x y ↔ InR r.2.2 x := by
  rw [InB.cons]
  constructor
  · rintro (g | ⟨s, hs, g, _⟩)
    · exact g.2.2
    · have := ((CanB.cons.1 h).2.1 s hs).1; omega
  · exact fun g => .inl ⟨h1, h2, g⟩
theorem CanB.tail_ge {r : Bd} {rs : List Bd} (h : CanB (r :: rs)) {x y : Int} (hi : InB rs x y) : r.2.1 ≤ y := by
  obtain ⟨s, hs, g, _⟩ := hi
  have := ((CanB.cons.1 h).2.1 s hs).1
  omega
/-- A band does not end earlier than the other's. -/
theorem CanB.ends {r s : Bd} {a b : List Bd} (ha : CanB (r :: a)) (hb : CanB (s :: b)) (h : ∀ x y, InB (r :: a) x y ↔ InB (s :: b) x y) (e1 : r.1 = s.1) (e2 : r.2.2 = s.2.2) (hlt : r.2.1 < s.2.1) : False := by
  obtain ⟨⟨r1, r2, r3⟩, r4, r5⟩ := CanB.cons.1 ha
  have hat : ∀ x, InB a x r.2.1 ↔ InR r.2.2 x := fun x => by
    have := (h x r.2.1).trans (hb.head (x := x) (y := r.2.1) (by omega) hlt)
    rw [InB.cons] at this
    constructor
    · intro g; rw [e2]; exact this.1 (.inr g)
    · intro g
      rw [e2] at g
      rcases this.2 g with k | k
      · omega
      · exact k
  obtain ⟨x0, hx0⟩ := can_pt r3 r2
  cases a with
  | nil => obtain ⟨t, ht, _⟩ := (hat x0).2 hx0; simp at ht
  | cons t a =>
    have ht := r4 t (by simp)
    have hlow := r5.low ((hat x0).2 hx0)
    have et : r.2.1 = t.1 := by omega
    have ht1 := ((CanB.cons.1 r5).1).1
    refine ht.2 et (can_uniq r3 (CanB.cons.1 r5).1.2.2 fun x => ?_)
    rw [← hat x]
    exact r5.head (by omega) (by omega)
theorem canb_uniq : ∀ {a b : List Bd}, CanB a → CanB b → (∀ x y, InB a x y ↔ InB b x y) → a = b
  | [], [], _, _, _ => rfl
  | [], s :: b, _, hb, h => by
    obtain ⟨⟨h1, h2, h3⟩, _⟩ := CanB.cons.1 hb
    obtain ⟨x, hx⟩ := can_pt h3 h2
    obtain ⟨t, ht, _⟩ := (h x s.1).2 (InB.cons.2 (.inl ⟨Int.le_refl _, h1, hx⟩))
    simp at ht
  | r :: a, [], ha, _, h => by
    obtain ⟨⟨h1, h2, h3⟩, _⟩ := CanB.cons.1 ha
    obtain ⟨x, hx⟩ := can_pt h3 h2
    obtain ⟨t, ht, _⟩ := (h x r.1).1 (InB.cons.2 (.inl ⟨Int.le_refl _, h1, hx⟩))
    simp at ht
  | r :: a, s :: b, ha, hb, h => by
    obtain ⟨⟨r1, r2, r3⟩, r4, r5⟩ := CanB.cons.1 ha
    obtain ⟨⟨s1, s2, s3⟩, s4, s5⟩ := CanB.cons.1 hb
    obtain ⟨xr, hxr⟩ := can_pt r3 r2
    obtain ⟨xs, hxs⟩ := can_pt s3 s2
    have e1 : r.1 = s.1 := by
      have g1 := hb.low ((h xr r.1).1 (InB.cons.2 (.inl ⟨Int.le_refl _, r1, hxr⟩)))
      have g2 := ha.low ((h xs s.1).2 (InB.cons.2 (.inl ⟨Int.le_refl _, s1, hxs⟩)))
      omega
    have e2 : r.2.2 = s.2.2 := can_uniq r3 s3 fun x => by
      rw [← ha.head (x := x) (y := r.1) (Int.le_refl _) r1, h x r.1, hb.head (by omega) (by omega)]
    have e3 : r.2.1 = s.2.1 := by
      rcases Int.lt_trichotomy r.2.1 s.2.1 with g | g | g
      · exact (ha.ends hb h e1 e2 g).elim
      · exact g
      · exact (hb.ends ha (fun x y => (h x y).symm) e1.symm e2.symm g).elim
    have e : r = s := Prod.ext e1 (Prod.ext e3 e2)
    subst e
    rw [canb_uniq r5 s5 fun x y => ?_]
    constructor
    · intro g
      rcases InB.cons.1 ((h x y).1 (InB.cons.2 (.inr g))) with k | k
      · have := ha.tail_ge g; omega
      · exact k
    · intro g
      rcases InB.cons.1 ((h x y).2 (InB.cons.2 (.inr g))) with k | k
      · have := hb.tail_ge g; omega
      · exact k
end Go.Proofs.YtohedpgoioemnaaGreatDoor
end

/-! Regions, in plain words: the program's bands are canonical, and their points are those of the rectangles; putting a canonical region in order changes nothing. No program in sight; conditions: as each lemma states them. -/
section
namespace Go.Proofs.YtohedpgoioemnaaGreatDoor
open Go Go.Ab Go.RowKit
set_option linter.unusedSimpArgs false
set_option linter.unusedVariables false
set_option linter.unnecessarySimpa false


theorem canB_app {a b : List Bd} : CanB (a ++ b) ↔ CanB a ∧ CanB b ∧ ∀ r ∈ a, ∀ s ∈ b, r.2.1 ≤ s.1 ∧ (r.2.1 = s.1 → r.2.2 ≠ s.2.2) := by
  unfold CanB
  rw [List.pairwise_append]
  constructor
  · rintro ⟨h1, h2, h3, h4⟩
    exact ⟨⟨fun r hr => h1 r (by simp [hr]), h2⟩, ⟨fun r hr => h1 r (by simp [hr]), h3⟩, h4⟩
  · rintro ⟨⟨h1, h2⟩, ⟨h3, h4⟩, h5⟩
    exact ⟨fun r hr => (List.mem_append.1 hr).elim (h1 r) (h3 r), h2, h4, h5⟩
theorem canB_one {r : Bd} : CanB [r] ↔ r.1 < r.2.1 ∧ r.2.2 ≠ [] ∧ Can r.2.2 := by
  rw [CanB.cons]; simp [CanB]
theorem inB_app {a b : List Bd} {x y : Int} : InB (a ++ b) x y ↔ InB a x y ∨ InB b x y := by
  simp only [InB, List.mem_append]
  constructor
  · rintro ⟨r, h | h, h2⟩
    · exact .inl ⟨r, h, h2⟩
    · exact .inr ⟨r, h, h2⟩
  · rintro (⟨r, h, h2⟩ | ⟨r, h, h2⟩)
    · exact ⟨r, .inl h, h2⟩
    · exact ⟨r, .inr h, h2⟩
theorem inB_one {r : Bd} {x y : Int} : InB [r] x y ↔ r.1 ≤ y ∧ y < r.2.1 ∧ InR r.2.2 x := by simp [InB]
theorem bstep_can {f : Int → List Rn} {o : List Bd} {c : Rn} (hf : Can (f c.1)) (h : CanB o) (hc : c.1 < c.2) (hs : ∀ l ∈ o, l.2.1 ≤ c.1) : CanB (bstep f o c) ∧ (∀ x y, InB (bstep f o c) x y ↔ InB o x y ∨ (c.1 ≤ y ∧ y < c.2 ∧ InR (f c.1) x)) ∧ ∀ l ∈ bstep f o c, l.2.1 ≤ c.2 := by
  by_cases he : f c.1 = []
  · rw [bstep_no he, he]
    exact ⟨h, fun x y => by simp [inR_nil], fun l hl => by have := hs l hl; omega⟩
  · have hone : CanB [((c.1, c.2, f c.1) : Bd)] := canB_one.2 ⟨hc, he, hf⟩
    rcases list_snoc o with rfl | ⟨o, l, rfl⟩
    · rw [bstep_nil he]
      exact ⟨hone, fun x y => by rw [inB_one]; simp [InB], by simp⟩
    · obtain ⟨h1, h2, h3⟩ := canB_app.1 h
      obtain ⟨l1, l2, l3⟩ := canB_one.1 h2
      have hl := hs l (by simp)
      by_cases e : l.2.1 = c.1 ∧ l.2.2 = f c.1
      · rw [bstep_in he e.1 e.2]
        refine ⟨canB_app.2 ⟨h1, canB_one.2 ⟨by simp only; omega, l2, l3⟩, fun a ha b hb => ?_⟩, fun x y => ?_, fun a ha => ?_⟩
        · rw [List.mem_singleton.1 hb]; exact h3 a ha l (by simp)
        · rw [inB_app, inB_app, inB_one, inB_one, ← e.2]
          simp only
          constructor
          · rintro (g | ⟨g1, g2, g3⟩)
            · exact .inl (.inl g)
            · by_cases g4 : y < l.2.1
              · exact .inl (.inr ⟨g1, g4, g3⟩)
              · exact .inr ⟨by omega, g2, g3⟩
          · rintro ((g | ⟨g1, g2, g3⟩) | ⟨g1, g2, g3⟩)
            · exact .inl g
            · exact .inr ⟨g1, by omega, g3⟩
            · exact .inr ⟨by omega, g2, g3⟩
        · rcases List.mem_append.1 ha with ha | ha
          · have := hs a (by simp [ha]); omega
          · rw [List.mem_singleton.1 ha]; exact Int.le_refl _
      · rw [bstep_out he e]
        refine ⟨canB_app.2 ⟨h, hone, fun a ha b hb => ?_⟩, fun x y => by rw [inB_app, inB_one], fun a ha => ?_⟩
        · rw [List.mem_singleton.1 hb]
          rcases List.mem_append.1 ha with ha | ha
          · have := (h3 a ha l (by simp)).1
            exact ⟨by simp only; omega, fun g => by simp only at g; omega⟩
          · rw [List.mem_singleton.1 ha]
            exact ⟨hl, fun g g2 => e ⟨g, g2⟩⟩
        · rcases List.mem_append.1 ha with ha | ha
          · have := hs a ha; omega
          · rw [List.mem_singleton.1 ha]; exact Int.le_refl _
theorem bfold_can {f : Int → List Rn} (hf : ∀ y, Can (f y)) : ∀ (l : List Rn) (o : List Bd), CanB o → (∀ p ∈ l, p.1 < p.2) → l.Pairwise (fun a b => a.2 ≤ b.1) → (∀ a ∈ o, ∀ p ∈ l, a.2.1 ≤ p.1) →
    CanB (l.foldl (bstep f) o) ∧ ∀ x y, InB (l.foldl (bstep f) o) x y ↔ InB o x y ∨ ∃ p ∈ l, p.1 ≤ y ∧ y < p.2 ∧ InR (f p.1) x
  | [], o, h, _, _, _ => ⟨h, fun x y => by simp⟩
  | c :: l, o, h, h1, h2, h3 => by
    obtain ⟨h4, h5⟩ := List.pairwise_cons.1 h2
    obtain ⟨g1, g2, g3⟩ := bstep_can (hf c.1) h (h1 c (by simp)) fun a ha => h3 a ha c (by simp)
    obtain ⟨k1, k2⟩ := bfold_can hf l _ g1 (fun s hs => h1 s (by simp [hs])) h5 fun a ha s hs => Int.le_trans (g3 a ha) (h4 s hs)
    refine ⟨k1, fun x y => ?_⟩
    rw [List.foldl_cons, k2, g2, or_assoc]
    simp
/-- The points of a list of rectangles. -/
def inn (r : R) (x y : Int) : Bool := (decide (r.x0 ≤ x) && decide (x < r.x1)) && (decide (r.y0 ≤ y) && decide (y < r.y1))
theorem inn_iff {r : R} {x y : Int} : inn r x y = true ↔ (r.x0 ≤ x ∧ x < r.x1) ∧ (r.y0 ≤ y ∧ y < r.y1) := by simp [inn]
def ptF (l : List R) (x y : Int) : Bool := l.any fun r => inn r x y
theorem ptF_iff {l : List R} {x y : Int} : ptF l x y = true ↔ ∃ r ∈ l, (r.x0 ≤ x ∧ x < r.x1) ∧ (r.y0 ≤ y ∧ y < r.y1) := by simp [ptF, inn]
theorem row_pt {l : List R} (hc : ∀ r ∈ l, rempty r = false) (x y : Int) : cvF (sumF (rsF l y)) x = ptF l x y := by
  have h1 : ∀ r ∈ rsF l y, r.1 < r.2 := fun r hr => (rsF_ok hc r hr).1
  have : cvF (sumF (rsF l y)) x = true ↔ ptF l x y = true := by
    rw [cvF_iff, sumF_in h1, ptF_iff]
    constructor
    · rintro ⟨r, hr, g⟩
      obtain ⟨s, hs, rfl⟩ := List.mem_map.1 hr
      obtain ⟨hs1, hs2⟩ := List.mem_filter.1 hs
      simp at hs2
      exact ⟨s, hs1, g, hs2⟩
    · rintro ⟨s, hs, g1, g2⟩
      exact ⟨(s.x0, s.x1), List.mem_map.2 ⟨s, List.mem_filter.2 ⟨hs, by simp [g2]⟩, rfl⟩, g1⟩
  cases e1 : cvF (sumF (rsF l y)) x <;> cases e2 : ptF l x y <;> simp_all
theorem bands_can {kf : Bool → Bool → Bool} (h0 : kf false false = false) (la lb : List R) : CanB (bandsF kf la lb) ∧ ∀ x y, InB (bandsF kf la lb) x y ↔ kf (ptF (cl la) x y) (ptF (cl lb) x y) = true := by
  have hr := ysF_rising (cl la ++ cl lb)
  obtain ⟨p1, p2⟩ := pairs_lt _ hr
  have hf : ∀ y, Can (rowF kf (cl la) (cl lb) y) := fun y => by unfold rowF combF; exact kept_can (xsF_rising _)
  obtain ⟨k1, k2⟩ := bfold_can hf (pairs (ysF (cl la ++ cl lb))) [] ⟨by simp, .nil⟩ p1 p2 (by simp)
  have hca := cl_ok la
  have hcb := cl_ok lb
  have hrow : ∀ x y, InR (rowF kf (cl la) (cl lb) y) x ↔ kf (ptF (cl la) x y) (ptF (cl lb) x y) = true := by
    intro x y
    have h1 := fun (l : List R) (hc : ∀ r ∈ l, rempty r = false) => sumF_can (l := rsF l y) fun r hr => (rsF_ok hc r hr).1
    unfold rowF
    rw [combF_in h0 _ _ (h1 _ hca).1 (h1 _ hcb).1, row_pt hca, row_pt hcb]
  have cut : ∀ p ∈ pairs (ysF (cl la ++ cl lb)), ∀ x y, p.1 ≤ y → y < p.2 → ptF (cl la) x p.1 = ptF (cl la) x y ∧ ptF (cl lb) x p.1 = ptF (cl lb) x y := by
    intro p hp x y g1 g2
    have key : ∀ l : List R, (∀ r ∈ l, r ∈ cl la ++ cl lb) → ptF l x p.1 = ptF l x y := by
      intro l hl
      unfold ptF
      refine any_eq fun r hr' => ?_
      have m1 : r.y0 ∈ ysF (cl la ++ cl lb) := mem_ysF.2 ⟨r, hl r hr', .inl rfl⟩
      have m2 : r.y1 ∈ ysF (cl la ++ cl lb) := mem_ysF.2 ⟨r, hl r hr', .inr rfl⟩
      have c1 := pairs_cut hr hp g1 g2 m1
      have c2 := pairs_cut hr hp g1 g2 m2
      unfold inn
      congr 2
      · exact decide_eq_decide.2 c1.symm
      · exact decide_eq_decide.2 ⟨fun h => by omega, fun h => by omega⟩
    exact ⟨key _ fun r hr' => List.mem_append_left _ hr', key _ fun r hr' => List.mem_append_right _ hr'⟩
  refine ⟨k1, fun x y => ?_⟩
  refine (k2 x y).trans ?_
  constructor
  · rintro (⟨b, hb, _⟩ | ⟨p, hp, g1, g2, g3⟩)
    · simp at hb
    · obtain ⟨c1, c2⟩ := cut p hp x y g1 g2
      rw [hrow, c1, c2] at g3
      exact g3
  · intro hk
    have hex : ∃ r ∈ cl la ++ cl lb, r.y0 ≤ y ∧ y < r.y1 := by
      cases e1 : ptF (cl la) x y with
      | true =>
        obtain ⟨r, hr', g⟩ := ptF_iff.1 e1
        exact ⟨r, List.mem_append_left _ hr', g.2⟩
      | false =>
        cases e2 : ptF (cl lb) x y with
        | true =>
          obtain ⟨r, hr', g⟩ := ptF_iff.1 e2
          exact ⟨r, List.mem_append_right _ hr', g.2⟩
        | false => rw [e1, e2, h0] at hk; cases hk
    obtain ⟨r, hr', g1, g2⟩ := hex
    obtain ⟨p, hp, q1, q2⟩ := pairs_cover hr (mem_ysF.2 ⟨r, hr', .inl rfl⟩) (mem_ysF.2 ⟨r, hr', .inr rfl⟩) g1 g2
    obtain ⟨c1, c2⟩ := cut p hp x y q1 q2
    exact .inr ⟨p, hp, q1, q2, by rw [hrow, c1, c2]; exact hk⟩
end Go.Proofs.YtohedpgoioemnaaGreatDoor
end

/-! Regions, in plain words: a canonical region put in order is itself; its area is the sum of the areas of any rectangles that lie apart and have its points. No program in sight; conditions: as each lemma states them. -/
section
namespace Go.Proofs.YtohedpgoioemnaaGreatDoor
open Go Go.Ab Go.RowKit
set_option linter.unusedSimpArgs false
set_option linter.unusedVariables false
set_option linter.unnecessarySimpa false


theorem rectsF_mem {bs : List Bd} {r : R} : r ∈ rectsF bs ↔ ∃ b ∈ bs, ∃ s ∈ b.2.2, r = mkR b.1 b.2.1 s := by
  simp only [rectsF, List.mem_flatMap, List.mem_map]
  constructor
  · rintro ⟨b, hb, s, hs, rfl⟩; exact ⟨b, hb, s, hs, rfl⟩
  · rintro ⟨b, hb, s, hs, rfl⟩; exact ⟨b, hb, s, hs, rfl⟩
theorem pt_rects {bs : List Bd} {x y : Int} : ptF (rectsF bs) x y = true ↔ InB bs x y := by
  rw [ptF_iff]
  constructor
  · rintro ⟨r, hr, g1, g2⟩
    obtain ⟨b, hb, s, hs, rfl⟩ := rectsF_mem.1 hr
    exact ⟨b, hb, g2.1, g2.2, s, hs, g1⟩
  · rintro ⟨b, hb, g1, g2, s, hs, g3⟩
    exact ⟨_, rectsF_mem.2 ⟨b, hb, s, hs, rfl⟩, g3, g1, g2⟩
theorem rects_clean {bs : List Bd} (h : CanB bs) (hr : ∀ x y, InB bs x y → (-16384 ≤ x ∧ x < 16384) ∧ (-16384 ≤ y ∧ y < 16384)) : ∀ r ∈ rectsF bs, rempty r = false := by
  intro r hr'
  obtain ⟨b, hb, s, hs, rfl⟩ := rectsF_mem.1 hr'
  obtain ⟨h1, _, h2⟩ := h.1 b hb
  have h3 := h2.1 s hs
  have p1 := hr s.1 b.1 ⟨b, hb, Int.le_refl _, h1, s, hs, Int.le_refl _, h3⟩
  have p2 := hr (s.2 - 1) (b.2.1 - 1) ⟨b, hb, by omega, by omega, s, hs, by omega, by omega⟩
  exact rempty_of _ (by simp only [mkR]; omega)
theorem cl_self {l : List R} (h : ∀ r ∈ l, rempty r = false) : cl l = l := List.filter_eq_self.2 fun r hr => by simp [h r hr]
theorem bool_eq {a b : Bool} (h : a = true ↔ b = true) : a = b := by cases a <;> cases b <;> simp_all
theorem canon_can (l : List R) : CanB (bandsF orF l []) := (bands_can rfl l []).1
theorem canon_inB (l : List R) (x y : Int) : InB (bandsF orF l []) x y ↔ ptF (cl l) x y = true := by
  rw [(bands_can rfl l []).2]
  simp [cl, ptF]
theorem canon_pts (l : List R) (x y : Int) : ptF (canonF l) x y = ptF (cl l) x y := bool_eq (pt_rects.trans (canon_inB l x y))
theorem pt_rng {l : List R} (hc : ∀ r ∈ l, rempty r = false) {x y : Int} (h : ptF l x y = true) : (-16384 ≤ x ∧ x < 16384) ∧ (-16384 ≤ y ∧ y < 16384) := by
  obtain ⟨r, hr, g1, g2⟩ := ptF_iff.1 h
  have := rempty_ok r (hc r hr)
  omega
theorem canon_clean (l : List R) : ∀ r ∈ canonF l, rempty r = false := rects_clean (canon_can l) fun x y h => pt_rng (cl_ok l) ((canon_inB l x y).1 h)
theorem canon_idem (l : List R) : canonF (canonF l) = canonF l := by
  have e : bandsF orF (canonF l) [] = bandsF orF l [] := canb_uniq (canon_can _) (canon_can _) fun x y => by
    rw [canon_inB, canon_inB, cl_self (canon_clean l), canon_pts]
  show rectsF (bandsF orF (canonF l) []) = rectsF (bandsF orF l [])
  rw [e]

/-! ### Areas: counts of points -/
def ran : List Int := (List.range 32768).map fun i : Nat => (i : Int) - 16384
theorem cnt_range (a b : Nat) : ∀ n, (List.range n).countP (fun i => decide (a ≤ i) && decide (i < b)) = min b n - min a n := by
  intro n
  induction n with
  | zero => simp
  | succ n ih =>
    rw [List.range_succ, List.countP_append, ih]
    by_cases h : a ≤ n ∧ n < b
    · simp [h]; omega
    · have : (decide (a ≤ n) && decide (n < b)) = false := by simpa using h
      simp [this]; omega
theorem cnt_iv {a b : Int} (h1 : -16384 ≤ a) (h2 : a ≤ b) (h3 : b ≤ 16384) : ran.countP (fun x => decide (a ≤ x) && decide (x < b)) = (b - a).toNat := by
  unfold ran
  rw [List.countP_map]
  have e : ((fun x : Int => decide (a ≤ x) && decide (x < b)) ∘ fun i : Nat => (i : Int) - 16384) = fun i : Nat => decide ((a + 16384).toNat ≤ i) && decide (i < (b + 16384).toNat) := by
    funext i
    simp only [Function.comp]
    congr 1
    · exact decide_eq_decide.2 ⟨fun h => by omega, fun h => by omega⟩
    · exact decide_eq_decide.2 ⟨fun h => by omega, fun h => by omega⟩
  rw [e, cnt_range]
  omega
def cnt (p : Int → Int → Bool) : Nat := (ran.map fun y => ran.countP fun x => p x y).sum
theorem sum_add {α : Type} (f g : α → Nat) : ∀ l : List α, (l.map fun y => f y + g y).sum = (l.map f).sum + (l.map g).sum
  | [] => rfl
  | a :: l => by simp only [List.map_cons, List.sum_cons]; rw [sum_add f g l]; omega
theorem countP_or2 {α : Type} {p q : α → Bool} (h : ∀ x, ¬ (p x = true ∧ q x = true)) : ∀ l : List α, l.countP (fun x => p x || q x) = l.countP p + l.countP q
  | [] => rfl
  | a :: l => by
    have := h a
    rw [List.countP_cons, List.countP_cons, List.countP_cons, countP_or2 h l]
    cases e1 : p a <;> cases e2 : q a <;> simp_all <;> omega
theorem cnt_or' {p q : Int → Int → Bool} (h : ∀ x y, ¬ (p x y = true ∧ q x y = true)) (l l2 : List Int) : (l.map fun y => l2.countP fun x => p x y || q x y).sum = (l.map fun y => l2.countP fun x => p x y).sum + (l.map fun y => l2.countP fun x => q x y).sum := by
  rw [← sum_add]
  have e : (fun y => l2.countP fun x => p x y || q x y) = fun y => (l2.countP fun x => p x y) + l2.countP fun x => q x y := by
    funext y
    exact countP_or2 (fun x => h x y) l2
  rw [e]
theorem cnt_or {p q : Int → Int → Bool} (h : ∀ x y, ¬ (p x y = true ∧ q x y = true)) : cnt (fun x y => p x y || q x y) = cnt p + cnt q := cnt_or' h ran ran
theorem sum_if {α : Type} (p : α → Bool) (c : Nat) : ∀ l : List α, (l.map fun y => if p y = true then c else 0).sum = c * l.countP p
  | [] => by simp
  | a :: l => by
    rw [List.map_cons, List.sum_cons, sum_if p c l, List.countP_cons]
    cases p a <;> simp [Nat.mul_add]; omega
theorem cnt_rect {r : R} (h : rempty r = false) : cnt (inn r) = (r.x1 - r.x0).toNat * (r.y1 - r.y0).toNat := by
  have hr := rempty_ok r h
  unfold cnt
  have e : (fun y => ran.countP fun x => inn r x y) = fun y => if (decide (r.y0 ≤ y) && decide (y < r.y1)) = true then (r.x1 - r.x0).toNat else 0 := by
    funext y
    cases hy : (decide (r.y0 ≤ y) && decide (y < r.y1)) with
    | true =>
      have : (fun x => inn r x y) = fun x => decide (r.x0 ≤ x) && decide (x < r.x1) := by funext x; unfold inn; rw [hy, Bool.and_true]
      rw [this, cnt_iv (by omega) (by omega) (by omega)]; rfl
    | false =>
      have : (fun x => inn r x y) = fun _ => false := by funext x; unfold inn; rw [hy, Bool.and_false]
      rw [this]; simp
  rw [e, sum_if, cnt_iv (by omega) (by omega) (by omega)]
def areaR (r : R) : Int := (r.x1 - r.x0) * (r.y1 - r.y0)
def areaF (l : List R) : Int := (l.map areaR).sum
def Apart (a b : R) : Prop := ∀ x y, ¬ (inn a x y = true ∧ inn b x y = true)
theorem area_cnt : ∀ {l : List R}, (∀ r ∈ l, rempty r = false) → l.Pairwise Apart → areaF l = (cnt (ptF l) : Int)
  | [], _, _ => by
    have : cnt (ptF []) = 0 := by
      unfold cnt
      have e : (fun y => ran.countP fun x => ptF [] x y) = fun _ : Int => 0 := by funext y; simp [ptF]
      rw [e]
      generalize ran = l
      induction l with
      | nil => rfl
      | cons a l ih => simpa using ih
    rw [this]; rfl
  | r :: l, hc, hd => by
    obtain ⟨h1, h2⟩ := List.pairwise_cons.1 hd
    have ih := area_cnt (l := l) (fun s hs => hc s (by simp [hs])) h2
    have e : ptF (r :: l) = fun x y => inn r x y || ptF l x y := by funext x y; simp [ptF]
    have hr := rempty_ok r (hc r (by simp))
    have hdis : ∀ x y, ¬ (inn r x y = true ∧ ptF l x y = true) := by
      rintro x y ⟨g1, g2⟩
      simp only [ptF, List.any_eq_true] at g2
      obtain ⟨s, hs, g2⟩ := g2
      exact h1 s hs x y ⟨g1, g2⟩
    rw [e, cnt_or hdis, cnt_rect (hc r (by simp))]
    · have e2 : areaF (r :: l) = areaR r + areaF l := by simp [areaF]
      rw [e2, ih]
      have e3 : (((r.x1 - r.x0).toNat * (r.y1 - r.y0).toNat : Nat) : Int) = areaR r := by
        rw [Int.natCast_mul, Int.toNat_of_nonneg (by omega), Int.toNat_of_nonneg (by omega)]; rfl
      rw [Int.natCast_add, e3]
theorem rects_apart : ∀ {bs : List Bd}, CanB bs → (rectsF bs).Pairwise Apart
  | [], _ => .nil
  | b :: bs, h => by
    obtain ⟨⟨h1, _, h2⟩, h3, h4⟩ := CanB.cons.1 h
    have e : rectsF (b :: bs) = b.2.2.map (mkR b.1 b.2.1) ++ rectsF bs := rfl
    rw [e, List.pairwise_append]
    refine ⟨?_, rects_apart h4, fun r hr s hs x y ⟨g1, g2⟩ => ?_⟩
    · rw [List.pairwise_map]
      refine h2.2.imp fun {a c} hac x y ⟨g1, g2⟩ => ?_
      have k1 := (inn_iff.1 g1).1
      have k2 := (inn_iff.1 g2).1
      simp only [mkR] at k1 k2
      omega
    · obtain ⟨t, _, rfl⟩ := List.mem_map.1 hr
      obtain ⟨c, hc, u, _, rfl⟩ := rectsF_mem.1 hs
      have k1 := (inn_iff.1 g1).2
      have k2 := (inn_iff.1 g2).2
      have := (h3 c hc).1
      simp only [mkR] at k1 k2
      omega
theorem canon_area {l : List R} (hc : ∀ r ∈ l, rempty r = false) (hd : l.Pairwise Apart) : areaF (canonF l) = areaF l := by
  rw [area_cnt (canon_clean l) (rects_apart (canon_can l)), area_cnt hc hd]
  have e : ptF (canonF l) = ptF l := by funext x y; rw [canon_pts, cl_self hc]
  rw [e]
end Go.Proofs.YtohedpgoioemnaaGreatDoor
end

/-! The reference's intersection of two rectangles is their common part. No program in sight; conditions: as each lemma states them. -/
section
namespace Go.Proofs.YtohedpgoioemnaaGreatDoor
open Go Go.Ab Go.RowKit
set_option linter.unusedSimpArgs false
set_option linter.unusedVariables false
set_option linter.unnecessarySimpa false


theorem cl_one (a : R) : cl [a] = if rempty a = true then [] else [a] := by
  cases h : rempty a <;> simp [cl, h]
theorem one_can {r : R} (h : rempty r = false) : CanB [((r.y0, r.y1, [(r.x0, r.x1)]) : Bd)] := by
  have := rempty_ok r h
  exact canB_one.2 ⟨by simp only; omega, by simp, can_one.2 (by simp only; omega)⟩
theorem one_in {r : R} {x y : Int} : InB [((r.y0, r.y1, [(r.x0, r.x1)]) : Bd)] x y ↔ inn r x y = true := by
  rw [inB_one, inn_iff]
  simp [InR]
  constructor
  · rintro ⟨h1, h2, h3, h4⟩; exact ⟨⟨h3, h4⟩, h1, h2⟩
  · rintro ⟨⟨h3, h4⟩, h1, h2⟩; exact ⟨h1, h2, h3, h4⟩
theorem and_in (a b : R) (x y : Int) : InB (bandsF (kM 2) [a] [b]) x y ↔ rempty a = false ∧ rempty b = false ∧ inn a x y = true ∧ inn b x y = true := by
  rw [(bands_can rfl [a] [b]).2, cl_one, cl_one]
  cases h1 : rempty a <;> cases h2 : rempty b <;> simp [kM, ptF]
theorem cap_inn {a b : R} (ha : rempty a = false) (hb : rempty b = false) (x y : Int) : (inn a x y = true ∧ inn b x y = true) ↔ (rempty (rcap a b) = false ∧ inn (rcap a b) x y = true) := by
  have r1 := rempty_ok a ha
  have r2 := rempty_ok b hb
  by_cases hm : rempty ⟨max a.x0 b.x0, max a.y0 b.y0, min a.x1 b.x1, min a.y1 b.y1⟩ = false
  · have e : rcap a b = ⟨max a.x0 b.x0, max a.y0 b.y0, min a.x1 b.x1, min a.y1 b.y1⟩ := by
      unfold rcap rcan
      rw [ha, hb, hm]; simp
    rw [e, hm, inn_iff, inn_iff, inn_iff]
    simp only
    constructor
    · rintro ⟨g1, g2⟩; exact ⟨trivial, by omega⟩
    · rintro ⟨_, g⟩; omega
  · have hm' : rempty ⟨max a.x0 b.x0, max a.y0 b.y0, min a.x1 b.x1, min a.y1 b.y1⟩ = true := by simpa using hm
    have e : rcap a b = ⟨0, 0, 0, 0⟩ := by
      unfold rcap rcan
      rw [ha, hb, hm']; simp
    rw [e, rempty_zero]
    constructor
    · rintro ⟨g1, g2⟩
      have k1 := inn_iff.1 g1
      have k2 := inn_iff.1 g2
      exact absurd (rempty_of _ (by simp only; omega)) hm
    · rintro ⟨g, _⟩; cases g
theorem and_rects (a b : R) : rectsF (bandsF (kM 2) [a] [b]) = if rempty (rcap a b) = true then [] else [rcap a b] := by
  have hc := (bands_can (kf := kM 2) rfl [a] [b]).1
  have hz : rempty a = true ∨ rempty b = true → rempty (rcap a b) = true := by
    intro h
    have : rcap a b = ⟨0, 0, 0, 0⟩ := by unfold rcap; rw [if_pos (by simpa using h)]
    rw [this]; exact rempty_zero
  cases h : rempty (rcap a b) with
  | true =>
    have e : bandsF (kM 2) [a] [b] = [] := canb_uniq hc ⟨by simp, .nil⟩ fun x y => by
      rw [and_in]
      constructor
      · rintro ⟨h1, h2, h3⟩
        have := (cap_inn h1 h2 x y).1 h3
        rw [h] at this; cases this.1
      · rintro ⟨b, hb, _⟩; simp at hb
    rw [e]; rfl
  | false =>
    have h1 : rempty a = false := by
      cases e : rempty a with
      | false => rfl
      | true => rw [hz (.inl e)] at h; cases h
    have h2 : rempty b = false := by
      cases e : rempty b with
      | false => rfl
      | true => rw [hz (.inr e)] at h; cases h
    have e : bandsF (kM 2) [a] [b] = [((rcap a b).y0, (rcap a b).y1, [((rcap a b).x0, (rcap a b).x1)])] := canb_uniq hc (one_can h) fun x y => by
      rw [and_in, one_in]
      constructor
      · rintro ⟨_, _, h3⟩; exact ((cap_inn h1 h2 x y).1 h3).2
      · intro h3; exact ⟨h1, h2, (cap_inn h1 h2 x y).2 ⟨h, h3⟩⟩
    rw [e]; rfl
end Go.Proofs.YtohedpgoioemnaaGreatDoor
end

/-! The reference's questions about a region, walked: Same, IsCanonical, Area, Contains. Conditions: as each lemma states them. -/
section
namespace Go.Proofs.YtohedpgoioemnaaGreatDoor
open Go Go.Ab Go.RowKit
set_option linter.unusedSimpArgs false
set_option linter.unusedVariables false
set_option linter.unnecessarySimpa false

attribute [local simp] condK_true condK_false condK_not wpc_skip wpc_ret wpc_exit wpc_seq wpc_reg wpc_regD testA_bool wpc_cond wpc_block thenA_normal thenA_ret thenA_exit blockA_normal blockA_ret blockA_exit blockA_other endA_normal endA_ret ev_tmp' ev_const ev_func ev_global cv_int cv_bool cv_string cv_pointer cv_slice cv_agg cv_map put_some put_none wH_s setE_apply setE_env less_eq env_cons env_nil upd_upd upd_apply del_apply startA_eq cells_ag cells_sl one_sl cells_vs one_vs cells_ep one_ep cells_fn one_fn cells_int one_int cells_bool one_bool cells_string one_string cells_pointer one_pointer cells_slice one_slice cells_map one_map cells_agg resK_one resK_nil resK_two rvK_t rvK_c rvsK_nil rvsK_cons iseq_nil iseq_cons gdA_true gdA_false gdA_undef istep_free istep_guard istepV_free istepV_guard dseq_nil dseq_pu dseq_rd dseq_ef wpc_regT dtree_nil dtree_pu dtree_rd dtree_ef dtree_br chkAll_nil chkAll_cons andK_true pickK_true pickK_false pickK_tb pickK_fb bin2K_pl eqbK_eq eqbK_ne eqpK_eq eqpK_ne eqmK_eq eqmK_ne eqzK_eq eqzK_ne eqzK_sl eqzK_vs un1K_pl convK_int fillK_some fillA_cons fillA_nil cellsK_some needK_true needK_ok seeK_ep seeK_ptr oneK_agg oneK_one nilcK_ptr nilcK_ep fadrK_ptr fadrK_ep fldK_ag iadAK_ptr iadAK_ep iadSK_sl iadSK_vs extK_0 extK_1 extK_2 extK_3 lenK_pl lenK_sl lenK_vs lensK_pl boxK_some minmax1K_int storeK_ptr callvK_fn callvK_pl newsK_nil newsK_vs newsK_sl appK_nil appK_nil0 appK_sl appK_vs bnd1K_int bndK_none bndK_some slsK_vs slsK_nil slsK_sl0 slsK_sl slstrK_pl boolK_some eqsK_ag iop_eqs iop_sls iop_slstr seesK_some seesK_ro mapsK_some MAP_some findK_some findK_none plK_pl nmapK_none nmapK_some iop_mlook iop_mlen iop_mmk iop_mupd iop_mdel iop_mrng itK_none itK_some ptr0K_ptr iop_mnxt iop_ment it1K_some entK_some iop_mov iop_pick iop_bin iop_eqb iop_eqp iop_eqm iop_eqz iop_un capK_pl capK_sl capK_vs iop_cap apzK_nil iop_apz mksK_int iop_mks clrK_sl clrK_vs clrK_nil iop_clr iop_conv iop_build iop_load iop_nilc iop_fadr iop_fld iop_iadA iop_iadS iop_ext iop_mkf iop_len iop_lens iop_minmax iop_al iop_box iop_bsl iop_store iop_call iop_callv iop_app BIN_add BIN_sub BIN_mul BIN_and BIN_or BIN_xor BIN_andNot BIN_eql BIN_neq BIN_lss BIN_leq BIN_gtr BIN_geq BIN_quo BIN_rem BIN_shl BIN_shr BIN_sadd BIN_seql BIN_sneq BIN_slss BIN_sleq BIN_sgtr BIN_sgeq UN_neg UN_xor UN_not MM_nil MM_cons partsA argsA ptrA lessL eqL min2I slotN_int slotP_int slotI_int
attribute [local simp] rc_len rc_t4 rc_t1 rc_t2 rc_t3 rc_d1 rc_d2 rc_d3 rc_d4 rc_ag rc_one rc_eq

theorem c11 {H : AH} {K : AV → AH → Prop} {a b : AV} {l : List R} (ha : Rr H a l) (hb : Rr H b l) (hl : l.length ≤ 1000000) (hk : K (vb true) H) : @AC Tryz.prog 11 [a, b] H ⟨K⟩ := by
  have l1 := fun k => Rw.lenK ha (k := k)
  have l2 := fun k => Rw.lenK hb (k := k)
  refine AC_of (.forget ?_)
  refine call_c follows cf11_ok (by simp) ?_
  simp [l1, l2]
  refine wpc_loop (fun s => ∃ (i : Nat), s.n = 26 ∧ s.H = H ∧ s.t 0 = a ∧ s.t 1 = b ∧ s.t 5 = vi i ∧ i ≤ l.length) (fun s => l.length - slotN (s.t 5)) ?_ ?_
  · exact FgK.same ⟨0, by simp, by simp, by simp, by simp, by simp, by omega⟩
  rintro s ⟨i, hn, hH, e0, e1, e5, hi⟩
  by_cases hlt : i < l.length
  · have wr := IntWalk.i64_in ((i : Int) + 1) (by omega)
    obtain ⟨p, hp1, hp2⟩ := fsee rc_l ha hlt
    obtain ⟨q, hq1, hq2⟩ := fsee rc_l hb hlt
    generalize l[i] = x at *
    have hx : req x x = true := (req_iff x x).2 rfl
    simp (disch := omega) [hn, hH, e0, e1, e5, l1, hlt, hp1, hp2 _ (Sub.refl _), hq1, hq2 _ (Sub.refl _), hx, wr]
    exact FgK.same ⟨⟨i + 1, by simp, by simp [hH], by simp [e0], by simp [e1], by simp, by omega⟩, by simp [e5]; omega⟩
  · simp (disch := omega) [hn, hH, e0, e1, e5, l1, hlt]
    exact ⟨H, Sub.refl _, hk⟩
theorem areaF_snoc (l : List R) (r : R) : areaF (l ++ [r]) = areaF l + areaR r := by simp [areaF]
theorem areaR_rng {r : R} (h : rempty r = false) : 0 ≤ areaR r ∧ areaR r ≤ 1073741824 := by
  have := rempty_ok r h
  unfold areaR
  refine ⟨Int.mul_nonneg (by omega) (by omega), ?_⟩
  have h1 : (r.x1 - r.x0) * (r.y1 - r.y0) ≤ 32768 * 32768 := Int.mul_le_mul (by omega) (by omega) (by omega) (by omega)
  omega
theorem areaF_rng : ∀ {l : List R}, (∀ r ∈ l, rempty r = false) → 0 ≤ areaF l ∧ areaF l ≤ l.length * 1073741824
  | [], _ => by simp [areaF]
  | r :: l, h => by
    have h1 := areaR_rng (h r (by simp))
    have h2 := areaF_rng (l := l) fun s hs => h s (by simp [hs])
    have e : areaF (r :: l) = areaR r + areaF l := by simp [areaF]
    rw [e, List.length_cons]
    omega
end Go.Proofs.YtohedpgoioemnaaGreatDoor
end

/-! How the reference composes and inverts transforms: plain facts. No program in sight; conditions: as each lemma states them. -/
section
namespace Go.Proofs.YtohedpgoioemnaaGreatDoor
open Go Go.Ab Go.RowKit
set_option linter.unusedSimpArgs false
set_option linter.unusedVariables false
set_option linter.unnecessarySimpa false


/-- After some quarter turns. -/
def tk (i : Nat) (w h : Int) (p : Pt) : Pt := if i = 1 then ⟨p.y, w - 1 - p.x⟩ else if i = 2 then ⟨w - 1 - p.x, h - 1 - p.y⟩ else if i = 3 then ⟨h - 1 - p.y, p.x⟩ else p
def tw (i : Nat) (w h : Int) : Int := if i % 2 = 1 then h else w
theorem tk_zero (w h : Int) (p : Pt) : tk 0 w h p = p := rfl
theorem tk_step {i : Nat} (hi : i < 3) (w h : Int) (p : Pt) : tk (i + 1) w h p = ⟨(tk i w h p).y, tw i w h - 1 - (tk i w h p).x⟩ := by
  have : i = 0 ∨ i = 1 ∨ i = 2 := by omega
  rcases this with rfl | rfl | rfl <;> simp [tk, tw]
  omega
theorem tw_step (i : Nat) (w h : Int) : tw (i + 1) w h = tw i h w := by
  unfold tw
  rcases Nat.mod_two_eq_zero_or_one i with h1 | h1
  · rw [if_pos (by omega), if_neg (by omega)]
  · rw [if_neg (by omega), if_pos (by omega)]
theorem tap_tk (t w h : Int) (p : Pt) (ht : 0 ≤ t ∧ t ≤ 7) : tap t w h p = tk (t % 4).toNat w h (tapF t w p) := by
  have : t % 4 = 0 ∨ t % 4 = 1 ∨ t % 4 = 2 ∨ t % 4 = 3 := by omega
  unfold tap tk
  rcases this with h1 | h1 | h1 | h1 <;> rw [h1] <;> rfl
theorem tk_rng (i : Nat) {w h : Int} {p : Pt} (hw : small w) (hh : small h) (hx : -90000 ≤ p.x ∧ p.x ≤ 90000) (hy : -90000 ≤ p.y ∧ p.y ≤ 90000) : (-200000 ≤ (tk i w h p).x ∧ (tk i w h p).x ≤ 200000) ∧ (-200000 ≤ (tk i w h p).y ∧ (tk i w h p).y ≤ 200000) ∧ small (tw i w h) := by
  unfold small at *
  unfold tk tw
  repeat' split
  all_goals (first | omega | (simp only; omega))
theorem tapF_rng {t w : Int} {p : Pt} (hw : small w) (hx : small p.x) (hy : small p.y) : (-90000 ≤ (tapF t w p).x ∧ (tapF t w p).x ≤ 90000) ∧ (-90000 ≤ (tapF t w p).y ∧ (tapF t w p).y ≤ 90000) := by
  unfold small at *
  unfold tapF
  split
  all_goals (first | omega | (simp only; omega))
def peq (a b : Pt) : Bool := a.x == b.x && a.y == b.y
/-- The k-th pixel of an image of 3 by 2. -/
def px (k : Nat) : Pt := ⟨(k / 2 : Nat), (k % 2 : Nat)⟩
def two (a b : Int) (k : Nat) : Pt := tap b (swp a 3 2).1 (swp a 3 2).2 (tap a 3 2 (px k))
def agr (t a b : Int) (k : Nat) : Bool := peq (tap t 3 2 (px k)) (two a b k)
def sameF (t a b : Int) (j : Nat) : Bool := decide (t % 2 = (a + b) % 2) && (List.range j).all (agr t a b)
theorem sameF_zero (t a b : Int) : sameF t a b 0 = decide (t % 2 = (a + b) % 2) := by simp [sameF]
theorem sameF_succ (t a b : Int) (j : Nat) : sameF t a b (j + 1) = (sameF t a b j && agr t a b j) := by
  unfold sameF
  rw [List.range_succ, List.all_append, Bool.and_assoc]
  simp
def cmpR (a b : Int) : Int := (((List.range 8).find? fun t => sameF (t : Nat) a b 6).getD 0 : Nat)
theorem cmpR_of {a b : Int} {t : Nat} (ht : t < 8) (h : ∀ u : Nat, u < t → sameF (u : Nat) a b 6 = false) (hs : sameF (t : Nat) a b 6 = true) : cmpR a b = (t : Nat) := by
  have : (List.range 8).find? (fun t => sameF (t : Nat) a b 6) = some t := by
    rw [List.find?_range_eq_some]
    exact ⟨hs, by simpa using ht, fun j hj => by simp [h j hj]⟩
  unfold cmpR
  rw [this]; rfl
theorem cmpR_none {a b : Int} (h : ∀ u : Nat, u < 8 → sameF (u : Nat) a b 6 = false) : cmpR a b = 0 := by
  have : (List.range 8).find? (fun t => sameF (t : Nat) a b 6) = none := by
    rw [List.find?_range_eq_none]
    exact fun j hj => by simp [h j hj]
  unfold cmpR
  rw [this]; rfl
theorem cmpR_inv (t u : Int) (ht : 0 ≤ t ∧ t ≤ 7) (hu : 0 ≤ u ∧ u ≤ 7) : cmpR t u = 0 ↔ u = invT t := by
  have : ∀ a b : Fin 8, cmpR (a.1 : Int) (b.1 : Int) = 0 ↔ (b.1 : Int) = invT (a.1 : Int) := by decide +kernel
  have := this ⟨t.toNat, by omega⟩ ⟨u.toNat, by omega⟩
  simp only at this
  rwa [Int.toNat_of_nonneg ht.1, Int.toNat_of_nonneg hu.1] at this
/-- The size of the logical image, and the physical one. -/
theorem sz_eq (o : O) (hc : chk o = 0) : (sz o).1 = dW o / o.sc ∧ (sz o).2 = dH o / o.sc ∧ o.sc * (sz o).1 = dW o ∧ o.sc * (sz o).2 = dH o := by
  obtain ⟨ht, hk, hw, hh, hwk, hhk, hx, hy⟩ := chk_dims o hc
  obtain ⟨d1, d2, d3, d4⟩ := dims o hc
  have e1 := div_small (dW o) o.sc (by omega) hk
  have e2 := div_small (dH o) o.sc (by omega) hk
  have f1 : (sz o).1 = dW o / o.sc := e1.1
  have f2 : (sz o).2 = dH o / o.sc := e2.1
  refine ⟨f1, f2, ?_, ?_⟩
  · rw [f1]; exact Int.mul_ediv_cancel_of_dvd (Int.dvd_of_emod_eq_zero d3)
  · rw [f2]; exact Int.mul_ediv_cancel_of_dvd (Int.dvd_of_emod_eq_zero d4)
theorem rcap_zero (a : R) : rcap a ⟨0, 0, 0, 0⟩ = ⟨0, 0, 0, 0⟩ := by
  unfold rcap
  rw [rempty_zero, Bool.or_true, if_pos rfl]
theorem rcap_emp {a b : R} (h : rempty (rcap a b) = true) : rcap a b = ⟨0, 0, 0, 0⟩ := by
  unfold rcap at h ⊢
  split
  · rfl
  · rename_i hn
    rw [if_neg hn] at h
    unfold rcan at h ⊢
    split
    · rfl
    · rename_i h2
      rw [if_neg h2] at h
      exact absurd h h2
theorem ne_zero_of {r : R} (h : rempty r = false) : req r ⟨0, 0, 0, 0⟩ = false := by
  cases e : req r ⟨0, 0, 0, 0⟩ with
  | false => rfl
  | true =>
    rw [(req_iff _ _).1 e, rempty_zero] at h
    cases h
end Go.Proofs.YtohedpgoioemnaaGreatDoor
end

/-! The reference's transforms, walked: place, ApplyRect. Conditions: as each lemma states them. -/
section
namespace Go.Proofs.YtohedpgoioemnaaGreatDoor
open Go Go.Ab Go.RowKit
set_option linter.unusedSimpArgs false
set_option linter.unusedVariables false
set_option linter.unnecessarySimpa false

attribute [local simp] condK_true condK_false condK_not wpc_skip wpc_ret wpc_exit wpc_seq wpc_reg wpc_regD testA_bool wpc_cond wpc_block thenA_normal thenA_ret thenA_exit blockA_normal blockA_ret blockA_exit blockA_other endA_normal endA_ret ev_tmp' ev_const ev_func ev_global cv_int cv_bool cv_string cv_pointer cv_slice cv_agg cv_map put_some put_none wH_s setE_apply setE_env less_eq env_cons env_nil upd_upd upd_apply del_apply startA_eq cells_ag cells_sl one_sl cells_vs one_vs cells_ep one_ep cells_fn one_fn cells_int one_int cells_bool one_bool cells_string one_string cells_pointer one_pointer cells_slice one_slice cells_map one_map cells_agg resK_one resK_nil resK_two rvK_t rvK_c rvsK_nil rvsK_cons iseq_nil iseq_cons gdA_true gdA_false gdA_undef istep_free istep_guard istepV_free istepV_guard dseq_nil dseq_pu dseq_rd dseq_ef wpc_regT dtree_nil dtree_pu dtree_rd dtree_ef dtree_br chkAll_nil chkAll_cons andK_true pickK_true pickK_false pickK_tb pickK_fb bin2K_pl eqbK_eq eqbK_ne eqpK_eq eqpK_ne eqmK_eq eqmK_ne eqzK_eq eqzK_ne eqzK_sl eqzK_vs un1K_pl convK_int fillK_some fillA_cons fillA_nil cellsK_some needK_true needK_ok seeK_ep seeK_ptr oneK_agg oneK_one nilcK_ptr nilcK_ep fadrK_ptr fadrK_ep fldK_ag iadAK_ptr iadAK_ep iadSK_sl iadSK_vs extK_0 extK_1 extK_2 extK_3 lenK_pl lenK_sl lenK_vs lensK_pl boxK_some minmax1K_int storeK_ptr callvK_fn callvK_pl newsK_nil newsK_vs newsK_sl appK_nil appK_nil0 appK_sl appK_vs bnd1K_int bndK_none bndK_some slsK_vs slsK_nil slsK_sl0 slsK_sl slstrK_pl boolK_some eqsK_ag iop_eqs iop_sls iop_slstr seesK_some seesK_ro mapsK_some MAP_some findK_some findK_none plK_pl nmapK_none nmapK_some iop_mlook iop_mlen iop_mmk iop_mupd iop_mdel iop_mrng itK_none itK_some ptr0K_ptr iop_mnxt iop_ment it1K_some entK_some iop_mov iop_pick iop_bin iop_eqb iop_eqp iop_eqm iop_eqz iop_un capK_pl capK_sl capK_vs iop_cap apzK_nil iop_apz mksK_int iop_mks clrK_sl clrK_vs clrK_nil iop_clr iop_conv iop_build iop_load iop_nilc iop_fadr iop_fld iop_iadA iop_iadS iop_ext iop_mkf iop_len iop_lens iop_minmax iop_al iop_box iop_bsl iop_store iop_call iop_callv iop_app BIN_add BIN_sub BIN_mul BIN_and BIN_or BIN_xor BIN_andNot BIN_eql BIN_neq BIN_lss BIN_leq BIN_gtr BIN_geq BIN_quo BIN_rem BIN_shl BIN_shr BIN_sadd BIN_seql BIN_sneq BIN_slss BIN_sleq BIN_sgtr BIN_sgeq UN_neg UN_xor UN_not MM_nil MM_cons partsA argsA ptrA lessL eqL min2I slotN_int slotP_int slotI_int
attribute [local simp] rc_len rc_t4 rc_t1 rc_t2 rc_t3 rc_d1 rc_d2 rc_d3 rc_d4 rc_ag rc_one rc_eq pc_len pc_t1 pc_t2 pc_d1 pc_d2 pc_ag pc_one min2_t min2_f

theorem c43 (w h : Int) : PC Tryz.prog 43 [vi w, vi h] (vb (inb w h)) := by
  refine .tell fun H => ?_
  refine call_c follows cf43_ok (by simp) ?_
  repeat' (first | simp [*] | (with_reducible (refine newK_of fun _ h_ => ?_); have hn_ := free_ne h_; (try simp only [upd_none', ne_eq] at h_)) | (with_reducible (refine condK_of (fun h_ => ?_) (fun h_ => ?_))))
  all_goals ((try with_reducible refine And.intro ?_ ?_) <;> (try (repeat' (first | with_reducible exact Sub.refl _ | with_reducible refine Sub.of_upd (by simp [*]) ?_))))
  all_goals (simp_all [inb] <;> omega)
theorem c75 (n : Int) : PC Tryz.prog 75 [vi n] (vb (okc n)) := by
  refine .tell fun H => ?_
  refine call_c follows cf75_ok (by simp) ?_
  repeat' (first | simp [*] | (with_reducible (refine newK_of fun _ h_ => ?_); have hn_ := free_ne h_; (try simp only [upd_none', ne_eq] at h_)) | (with_reducible (refine condK_of (fun h_ => ?_) (fun h_ => ?_))))
  all_goals ((try with_reducible refine And.intro ?_ ?_) <;> (try (repeat' (first | with_reducible exact Sub.refl _ | with_reducible refine Sub.of_upd (by simp [*]) ?_))))
  all_goals (simp_all [okc] <;> omega)
theorem c63 (r : R) : PC Tryz.prog 63 [.ag (rc r)] (vb (rvalid r)) := by
  refine .tell fun H => ?_
  refine call_c follows cf63_ok (by simp) ?_
  repeat' (first | simp [*] | (with_reducible (refine newK_of fun _ h_ => ?_); have hn_ := free_ne h_; (try simp only [upd_none', ne_eq] at h_)) | (with_reducible (refine condK_of (fun h_ => ?_) (fun h_ => ?_))) | with_reducible (refine (c75 ..).ac ?_))
  all_goals ((try with_reducible refine And.intro ?_ ?_) <;> (try (repeat' (first | with_reducible exact Sub.refl _ | with_reducible refine Sub.of_upd (by simp [*]) ?_))))
  all_goals (simp_all [rvalid] <;> omega)
theorem c45 (r : R) : PC Tryz.prog 45 [.ag (rc r)] (vb (rempty r)) := by
  refine .tell fun H => ?_
  refine call_c follows cf45_ok (by simp) ?_
  repeat' (first | simp [*] | (with_reducible (refine newK_of fun _ h_ => ?_); have hn_ := free_ne h_; (try simp only [upd_none', ne_eq] at h_)) | (with_reducible (refine condK_of (fun h_ => ?_) (fun h_ => ?_))) | with_reducible (refine (c63 ..).ac ?_))
  all_goals ((try with_reducible refine And.intro ?_ ?_) <;> (try (repeat' (first | with_reducible exact Sub.refl _ | with_reducible refine Sub.of_upd (by simp [*]) ?_))))
  all_goals (simp_all [rempty] <;> omega)
theorem c62 (r : R) : PC Tryz.prog 62 [.ag (rc r)] (.ag (rc (rcan r))) := by
  refine .tell fun H => ?_
  refine call_c follows cf62_ok (by simp) ?_
  repeat' (first | simp [*] | (with_reducible (refine newK_of fun _ h_ => ?_); have hn_ := free_ne h_; (try simp only [upd_none', ne_eq] at h_)) | (with_reducible (refine condK_of (fun h_ => ?_) (fun h_ => ?_))) | with_reducible (refine (c45 ..).ac ?_))
  all_goals ((try with_reducible refine And.intro ?_ ?_) <;> (try (repeat' (first | with_reducible exact Sub.refl _ | with_reducible refine Sub.of_upd (by simp [*]) ?_))))
  all_goals (simp_all [rcan] <;> omega)
theorem c44 (a b : R) : PC Tryz.prog 44 [.ag (rc a), .ag (rc b)] (.ag (rc (rcap a b))) := by
  refine .tell fun H => ?_
  refine call_c follows cf44_ok (by simp) ?_
  repeat' (first | simp [*] | (with_reducible (refine newK_of fun _ h_ => ?_); have hn_ := free_ne h_; (try simp only [upd_none', ne_eq] at h_)) | (with_reducible (refine condK_of (fun h_ => ?_) (fun h_ => ?_))) | with_reducible (refine (c45 ..).ac ?_) | with_reducible (refine (c62 ..).ac ?_))
  all_goals ((try with_reducible refine And.intro ?_ ?_) <;> (try (repeat' (first | with_reducible exact Sub.refl _ | with_reducible refine Sub.of_upd (by simp [*]) ?_))))
  all_goals (simp_all [rcap] <;> omega)
theorem c64 (w : Int) (p : Pt) (hw : small w) (hx : small p.x) : PC Tryz.prog 64 [vi w, .ag (pc p)] (.ag (pc ⟨w - 1 - p.x, p.y⟩)) := by
  unfold small at *
  have w1 := IntWalk.i64_in (w - 1) (by omega)
  have w2 := IntWalk.i64_in (w - 1 - p.x) (by omega)
  refine .tell fun H => ?_
  refine call_c follows cf64_ok (by simp) ?_
  repeat' (first | simp [*] | (with_reducible (refine newK_of fun _ h_ => ?_); have hn_ := free_ne h_; (try simp only [upd_none', ne_eq] at h_)) | (with_reducible (refine condK_of (fun h_ => ?_) (fun h_ => ?_))))
  all_goals ((try with_reducible refine And.intro ?_ ?_) <;> (try (repeat' (first | with_reducible exact Sub.refl _ | with_reducible refine Sub.of_upd (by simp [*]) ?_))))
theorem c65 (w : Int) (p : Pt) (hw : small w) (hx : -200000 ≤ p.x ∧ p.x ≤ 200000) : PC Tryz.prog 65 [vi w, .ag (pc p)] (.ag (pc ⟨p.y, w - 1 - p.x⟩)) := by
  unfold small at *
  have w1 := IntWalk.i64_in (w - 1) (by omega)
  have w2 := IntWalk.i64_in (w - 1 - p.x) (by omega)
  refine .tell fun H => ?_
  refine call_c follows cf65_ok (by simp) ?_
  repeat' (first | simp [*] | (with_reducible (refine newK_of fun _ h_ => ?_); have hn_ := free_ne h_; (try simp only [upd_none', ne_eq] at h_)) | (with_reducible (refine condK_of (fun h_ => ?_) (fun h_ => ?_))))
  all_goals ((try with_reducible refine And.intro ?_ ?_) <;> (try (repeat' (first | with_reducible exact Sub.refl _ | with_reducible refine Sub.of_upd (by simp [*]) ?_))))
theorem c46 (t w h : Int) (p : Pt) (ht : 0 ≤ t ∧ t ≤ 7) (hw : small w) (hh : small h) (hx : small p.x) (hy : small p.y) :
    PC Tryz.prog 46 [vi t, vi w, vi h, .ag (pc p)] (.ag (pc (tap t w h p))) := by
  have hm : t.tmod 4 = t % 4 := Int.tmod_eq_emod_of_nonneg (by omega)
  obtain ⟨f1, f2⟩ := tapF_rng (t := t) hw hx hy
  refine .tell fun H => ?_
  refine call_c follows cf46_ok (by simp) ?_
  simp
  refine newK_of fun q hq => ?_
  simp
  refine newK_of fun z hz => ?_
  have hqz := free_ne hz q (by simp [upd_apply])
  have hz0 : H z = none := by simp only [upd_apply] at hz; split at hz <;> simp_all
  have hS : Sub H (upd (upd H q (.cells (pc p))) z (.cells [vi 0, vi 0])) := ((Sub.refl H).upd hq).upd hz0
  have hS1 : Sub H (upd (upd (upd H q (.cells (pc p))) z (.cells [vi 0, vi 0])) q (.cells (pc (tapF t w p)))) := hS.upd hq
  have hmt : ((t % 4).toNat : Int) = t % 4 := Int.toNat_of_nonneg (by omega)
  have e4 := tap_tk t w h p ht
  generalize (t % 4).toNat = k at *
  by_cases h4 : 4 ≤ t
  case' pos =>
    have hf : tapF t w p = ⟨w - 1 - p.x, p.y⟩ := if_pos h4
    simp [h4, hqz]
    refine (c64 w p hw hx).ac ?_
    simp [hqz]
    rw [← hf]
    clear hf
    have hG : upd (upd (upd H q (.cells (pc p))) z (.cells [vi 0, vi 0])) q (.cells (pc (tapF t w p))) q = some (.cells (pc (tapF t w p))) := by simp [upd_apply]
    have hZ : upd (upd (upd H q (.cells (pc p))) z (.cells [vi 0, vi 0])) q (.cells (pc (tapF t w p))) z = some (.cells [vi 0, vi 0]) := by simp [upd_apply, hqz]
    generalize upd (upd (upd H q (.cells (pc p))) z (.cells [vi 0, vi 0])) q (.cells (pc (tapF t w p))) = G at *
  case' neg =>
    have hf : tapF t w p = p := if_neg h4
    simp [h4, hqz]
    have hG : upd (upd H q (.cells (pc p))) z (.cells [vi 0, vi 0]) q = some (.cells (pc (tapF t w p))) := by rw [hf]; simp [upd_apply, hqz]
    have hZ : upd (upd H q (.cells (pc p))) z (.cells [vi 0, vi 0]) z = some (.cells [vi 0, vi 0]) := by simp [upd_apply]
    clear hf hS1
    have hS1 := hS
    generalize upd (upd H q (.cells (pc p))) z (.cells [vi 0, vi 0]) = G at *
  all_goals
    clear hS
    generalize tapF t w p = r at *
    refine wpc_loop (fun s => ∃ i : Nat, s.n = 27 ∧ s.t 0 = vi t ∧ s.t 1 = vi (tw i w h) ∧ s.t 2 = vi (tw i h w) ∧ s.t 7 = pA q ∧ s.t 8 = pA z ∧ s.t 9 = vi i ∧ i ≤ k ∧ Sub H s.H ∧ s.H q = some (.cells (pc (tk i w h r))) ∧ s.H z = some (.cells [vi 0, vi 0])) (fun s => 4 - slotN (s.t 9)) ?_ ?_
    · exact FgK.same ⟨0, by simp, by simp, by simp [tw], by simp [tw], by simp, by simp, by simp, by omega, hS1, hG, hZ⟩
    rintro s ⟨i, hn, e0, e1, e2, e7, e8, e9, hi, hS2, hG2, hZ2⟩
    generalize hHeq : s.H = Hs at *
    have wi := IntWalk.i64_in ((i : Int) + 1) (by omega)
    have rg := tk_rng i hw hh f1 f2
    by_cases hlt : i < k
    · have hlt' : (i : Int) < t % 4 := by omega
      have es := tk_step (show i < 3 by omega) w h r
      simp [hn, hHeq, e0, e1, e2, e7, e8, e9, hm, hlt', hG2]
      refine (c65 (tw i w h) (tk i w h r) rg.2.2 rg.1).ac ?_
      simp [e1, e2, e7, e9, hG2, wi]
      refine FgK.same ⟨⟨i + 1, by simp, by simp [e0], by simp [tw_step], by simp [tw_step], by simp [e7], by simp [e8], by simp, by omega, hS2.upd hq, by simp [es], by simp [upd_apply, hqz, hZ2]⟩, by simp [e9]; omega⟩
    · have hlt' : ¬ (i : Int) < t % 4 := by omega
      have ei : i = k := by omega
      subst ei
      rw [e4]
      simp [hn, hHeq, e0, e1, e2, e7, e8, e9, hm, hlt', hG2, hZ2]
      exact hS2.upd hz0
theorem c23 (t w h : Int) (r : R) : PC Tryz.prog 23 [vi t, vi w, vi h, .ag (rc r)] (.ag (rc (trect t w h r))) := by
  refine .tell fun H => ?_
  refine call_c follows cf23_ok (by simp) ?_
  cases hb : inb w h with
  | false =>
    repeat' (first | simp [*] | (with_reducible (refine newK_of fun _ h_ => ?_); have hn_ := free_ne h_; (try simp only [upd_none', ne_eq] at h_)) | (with_reducible (refine condK_of (fun h_ => ?_) (fun h_ => ?_))) | with_reducible (refine (c43 ..).ac ?_))
    all_goals ((try with_reducible refine And.intro ?_ ?_) <;> (try (repeat' (first | with_reducible exact Sub.refl _ | with_reducible refine Sub.of_upd (by simp [*]) ?_))))
    all_goals simp_all [trect]
  | true =>
    cases he : rempty (rcap r ⟨0, 0, w, h⟩) with
    | true =>
      repeat' (first | simp [*] | (with_reducible (refine newK_of fun _ h_ => ?_); have hn_ := free_ne h_; (try simp only [upd_none', ne_eq] at h_)) | (with_reducible (refine condK_of (fun h_ => ?_) (fun h_ => ?_))) | with_reducible (refine (c43 ..).ac ?_) | with_reducible (refine (c44 ..).ac ?_) | with_reducible (refine (c45 ..).ac ?_))
      all_goals ((try with_reducible refine And.intro ?_ ?_) <;> (try (repeat' (first | with_reducible exact Sub.refl _ | with_reducible refine Sub.of_upd (by simp [*]) ?_))))
      all_goals simp_all [trect]
    | false =>
      have hr := rempty_ok _ he
      have hn := nrm_rng t
      have hb' : (1 ≤ w ∧ w ≤ 16384) ∧ 1 ≤ h ∧ h ≤ 16384 := by simp [inb] at hb; omega
      generalize hq : rcap r ⟨0, 0, w, h⟩ = q at he hr
      have ra := tap_rng (nrm t) w h ⟨q.x0, q.y0⟩ (by omega) (by omega) (by simp; omega) (by simp; omega)
      have rb := tap_rng (nrm t) w h ⟨q.x1 - 1, q.y1 - 1⟩ (by omega) (by omega) (by simp; omega) (by simp; omega)
      unfold small at ra rb
      repeat' (first | simp [*] | simp (disch := omega) [*, IntWalk.i64_in] | (with_reducible (refine newK_of fun _ h_ => ?_); have hn_ := free_ne h_; (try simp only [upd_none', ne_eq] at h_)) | (with_reducible (refine condK_of (fun h_ => ?_) (fun h_ => ?_))) | with_reducible (refine (c43 ..).ac ?_) | with_reducible (refine (c44 ..).ac ?_) | with_reducible (refine (c45 ..).ac ?_) | with_reducible (refine (c47 ..).ac ?_) | with_reducible (refine (c46 (nrm t) w h _ (by omega) (by unfold small; omega) (by unfold small; omega) (by unfold small; simp; omega) (by unfold small; simp; omega)).ac ?_))
      all_goals ((try with_reducible refine And.intro ?_ ?_) <;> (try (repeat' (first | with_reducible exact Sub.refl _ | with_reducible refine Sub.of_upd (by simp [*]) ?_))))
      all_goals simp_all [trect, tbox, ptx, pty]
theorem peq_rc (a b : Pt) : eqL [1, 1] (pc a) (pc b) = some (peq a b) := by simp [pc, eqL, peq]
theorem px_rng (k : Nat) (h : k < 6) : (px k).x = (k / 2 : Nat) ∧ (px k).y = (k % 2 : Nat) ∧ small (px k).x ∧ small (px k).y := by
  unfold px small
  refine ⟨rfl, rfl, ?_, ?_⟩ <;> simp only <;> omega
theorem c49 (a b : Int) (ha : 0 ≤ a ∧ a ≤ 7) (hb : 0 ≤ b ∧ b ≤ 7) : PC Tryz.prog 49 [vi a, vi b] (vi (cmpR a b)) := by
  have na : nrm a = a := by simp [nrm, okt]; omega
  have nb : nrm b = b := by simp [nrm, okt]; omega
  have wab := IntWalk.i64_in (a + b) (by omega)
  have mab : (a + b).tmod 2 = (a + b) % 2 := Int.tmod_eq_emod_of_nonneg (by omega)
  have hsw : ∀ x, small (swp x 3 2).1 ∧ small (swp x 3 2).2 := by intro x; unfold swp small; split <;> simp
  refine .tell fun H => ?_
  refine call_c follows cf49_ok (by simp) ?_
  simp
  refine (c42 a 3 2).ac ?_
  simp
  have two_eq : ∀ k, two a b k = tap b (swp a 3 2).1 (swp a 3 2).2 (tap a 3 2 (px k)) := fun k => rfl
  obtain ⟨sw1, sw2⟩ := hsw a
  generalize hW : (swp a 3 2).1 = W at *
  generalize hV : (swp a 3 2).2 = V at *
  refine wpc_loop (fun s => ∃ t : Nat, s.n = 56 ∧ s.t 0 = vi a ∧ s.t 1 = vi b ∧ s.t 5 = vi W ∧ s.t 6 = vi V ∧ s.t 7 = vi t ∧ t ≤ 8 ∧ Sub H s.H ∧ ∀ u : Nat, u < t → sameF (u : Nat) a b 6 = false) (fun s => 8 - slotN (s.t 7)) ?_ ?_
  · exact FgK.same ⟨0, by simp, by simp, by simp, by simp, by simp, by simp, by omega, Sub.refl _, fun u h => by omega⟩
  rintro s ⟨t, hn, e0, e1, e5, e6, e7, ht, hS, hno⟩
  generalize hHeq : s.H = Hs at *
  by_cases hlt : t < 8
  · have hlt' : (t : Int) ≤ 7 := by omega
    have mt : (t : Int).tmod 2 = (t : Int) % 2 := Int.tmod_eq_emod_of_nonneg (by omega)
    have wt := IntWalk.i64_in ((t : Int) + 1) (by omega)
    simp [hn, hHeq, e0, e1, e5, e6, e7, hlt']
    refine (c47 a).ac ?_
    simp [e1]
    refine (c47 b).ac ?_
    have s0 := sameF_zero t a b
    simp [na, nb, wab, mab, mt, e0, e1, e5, e6, e7]
    rw [← s0]
    refine wpc_loop (fun s' => ∃ x : Nat, s'.n = 56 ∧ s'.t 0 = vi a ∧ s'.t 1 = vi b ∧ s'.t 5 = vi W ∧ s'.t 6 = vi V ∧ s'.t 7 = vi t ∧ s'.t 8 = vb (sameF t a b (2 * x)) ∧ s'.t 9 = vi x ∧ x ≤ 3 ∧ Sub H s'.H) (fun s' => 3 - slotN (s'.t 9)) ?_ ?_
    · exact FgK.same ⟨0, by simp, by simp, by simp, by simp, by simp, by simp, by simp, by simp, by omega, hS⟩
    rintro r ⟨x, gn, g0, g1, g5, g6, g7, g8, g9, hx, hSr⟩
    generalize gHeq : r.H = Hr at *
    have wx := IntWalk.i64_in ((x : Int) + 1) (by omega)
    by_cases hxl : x < 3
    · have hxl' : (x : Int) < 3 := by omega
      simp [gn, gHeq, g0, g1, g5, g6, g7, g8, g9, hxl']
      refine wpc_loop (fun s' => ∃ y : Nat, s'.n = 56 ∧ s'.t 0 = vi a ∧ s'.t 1 = vi b ∧ s'.t 5 = vi W ∧ s'.t 6 = vi V ∧ s'.t 7 = vi t ∧ s'.t 8 = vb (sameF t a b (2 * x + y)) ∧ s'.t 9 = vi x ∧ s'.t 10 = vi y ∧ y ≤ 2 ∧ Sub H s'.H) (fun s' => 2 - slotN (s'.t 10)) ?_ ?_
      · exact FgK.same ⟨0, by simp, by simp, by simp, by simp, by simp, by simp, by simp, by simp, by simp, by omega, hSr⟩
      rintro v ⟨y, kn, k0, k1, k5, k6, k7, k8, k9, k10, hy, hSv⟩
      generalize kHeq : v.H = Hv at *
      have wy := IntWalk.i64_in ((y : Int) + 1) (by omega)
      by_cases hyl : y < 2
      · have hyl' : (y : Int) < 2 := by omega
        have hpx : (⟨(x : Int), (y : Int)⟩ : Pt) = px (2 * x + y) := by
          unfold px
          rw [show (2 * x + y) / 2 = x by omega, show (2 * x + y) % 2 = y by omega]
        have hsx : small (x : Int) ∧ small (y : Int) := by unfold small; omega
        have r1 := tap_rng a 3 2 ⟨(x : Int), (y : Int)⟩ (by omega) (by omega) (by simp only; omega) (by simp only; omega)
        simp [kn, kHeq, k0, k1, k5, k6, k7, k8, k9, k10, hyl']
        refine newK_of fun q hq => ?_
        have hS2 := hSv.trans ((Sub.refl Hv).upd hq (o := .cells (pc ⟨x, y⟩)))
        have hc2 : upd Hv q (.cells (pc ⟨(x : Int), (y : Int)⟩)) q = some (.cells (pc ⟨x, y⟩)) := by simp [upd_apply]
        simp [k0, k1, k5, k6, k7, hc2]
        generalize upd Hv q (.cells (pc ⟨(x : Int), (y : Int)⟩)) = H2 at *
        refine (c46 (t : Int) 3 2 ⟨x, y⟩ (by omega) (by unfold small; omega) (by unfold small; omega) hsx.1 hsx.2).ac ?_
        simp [k0, k1, k5, k6, k7, hc2]
        refine (c47 b).ac ?_
        simp [k0, k1, k5, k6, k7, hc2]
        refine (c47 a).ac ?_
        simp [na, nb, k0, k1, k5, k6, k7, hc2]
        refine (c46 a 3 2 ⟨x, y⟩ ha (by unfold small; omega) (by unfold small; omega) hsx.1 hsx.2).ac ?_
        simp [na, nb, k0, k1, k5, k6, k7, hc2]
        refine (c46 b W V _ hb sw1 sw2 r1.1 r1.2).ac ?_
        have hag : peq (tap (t : Int) 3 2 ⟨x, y⟩) (tap b W V (tap a 3 2 ⟨x, y⟩)) = agr t a b (2 * x + y) := by
          unfold agr
          rw [two_eq, hpx]
        simp [peq_rc, hag, hc2, k7]
        have hsu := sameF_succ t a b (2 * x + y)
        cases hg : agr t a b (2 * x + y) with
        | true =>
          rw [hg, Bool.and_true] at hsu
          simp [k10, wy]
          exact FgK.same ⟨⟨y + 1, by simp, by simp [k0], by simp [k1], by simp [k5], by simp [k6], by simp [k7], by rw [show 2 * x + (y + 1) = 2 * x + y + 1 from rfl, hsu]; simp [k8], by simp [k9], by simp, by omega, hS2⟩, by simp [k10]; omega⟩
        | false =>
          rw [hg, Bool.and_false] at hsu
          simp [k10, wy]
          exact FgK.same ⟨⟨y + 1, by simp, by simp [k0], by simp [k1], by simp [k5], by simp [k6], by simp [k7], by rw [show 2 * x + (y + 1) = 2 * x + y + 1 from rfl, hsu]; simp, by simp [k9], by simp, by omega, hS2⟩, by simp [k10]; omega⟩
      · have hyl' : ¬ (y : Int) < 2 := by omega
        have ey : y = 2 := by omega
        subst ey
        simp [kn, kHeq, k0, k1, k5, k6, k7, k8, k9, k10, wx]
        exact FgK.same ⟨⟨x + 1, by simp, by simp, by simp, by simp, by simp, by simp, by simp [Nat.mul_add], by simp, by omega, hSv⟩, by simp [g9]; omega⟩
    · have ex : x = 3 := by omega
      subst ex
      simp [gn, gHeq, g0, g1, g5, g6, g7, g8, g9]
      cases hsm : sameF (t : Int) a b 6 with
      | true =>
        rw [cmpR_of hlt hno hsm]
        simp [g7]
        exact hSr
      | false =>
        simp [g7, wt]
        refine FgK.same ⟨⟨t + 1, by simp, by simp [g0], by simp [g1], by simp [g5], by simp [g6], by simp, by omega, hSr, fun u hu => ?_⟩, by simp [e7]; omega⟩
        rcases Nat.lt_or_ge u t with h | h
        · exact hno u h
        · obtain rfl : u = t := by omega
          exact hsm
  · have hlt' : ¬ (t : Int) ≤ 7 := by omega
    rw [cmpR_none fun u hu => hno u (by omega)]
    simp [hn, hHeq, e0, e1, e5, e6, e7, hlt']
    exact hS
theorem c25 (t : Int) (ht : 0 ≤ t ∧ t ≤ 7) : PC Tryz.prog 25 [vi t] (vi (invT t)) := by
  have hi := invT_rng t ht
  refine .tell fun H => ?_
  refine call_c follows cf25_ok (by simp) ?_
  simp
  refine wpc_loop (fun s => ∃ u : Nat, s.n = 13 ∧ s.t 0 = vi t ∧ s.t 3 = vi u ∧ (u : Int) ≤ invT t ∧ Sub H s.H) (fun s => 8 - slotN (s.t 3)) ?_ ?_
  · exact FgK.same ⟨0, by simp, by simp, by simp, by omega, Sub.refl _⟩
  rintro s ⟨u, hn, e0, e3, hu, hS⟩
  generalize hHeq : s.H = Hs at *
  have wu := IntWalk.i64_in ((u : Int) + 1) (by omega)
  have hu7 : (u : Int) ≤ 7 := by omega
  have hci := cmpR_inv t u ht (by omega)
  simp [hn, hHeq, e0, e3, hu7]
  refine (c49 t u ht (by omega)).ac ?_
  by_cases hx : (u : Int) = invT t
  · have hz : cmpR t u = 0 := hci.2 hx
    rw [← hx]
    simp [hz, e3]
    exact hS
  · have hz : ¬ cmpR t u = 0 := fun h => hx (hci.1 h)
    simp [hz, e3, wu]
    exact FgK.same ⟨⟨u + 1, by simp, by simp [e0], by simp, by omega, hS⟩, by simp [e3]; omega⟩
end Go.Proofs.YtohedpgoioemnaaGreatDoor
end

/-! The reference's ToPhysical and ToLogical, walked: they answer as the program's. Conditions: as each lemma states them. -/
section
namespace Go.Proofs.YtohedpgoioemnaaGreatDoor
open Go Go.Ab Go.RowKit
set_option linter.unusedSimpArgs false
set_option linter.unusedVariables false
set_option linter.unnecessarySimpa false

attribute [local simp] condK_true condK_false condK_not wpc_skip wpc_ret wpc_exit wpc_seq wpc_reg wpc_regD testA_bool wpc_cond wpc_block thenA_normal thenA_ret thenA_exit blockA_normal blockA_ret blockA_exit blockA_other endA_normal endA_ret ev_tmp' ev_const ev_func ev_global cv_int cv_bool cv_string cv_pointer cv_slice cv_agg cv_map put_some put_none wH_s setE_apply setE_env less_eq env_cons env_nil upd_upd upd_apply del_apply startA_eq cells_ag cells_sl one_sl cells_vs one_vs cells_ep one_ep cells_fn one_fn cells_int one_int cells_bool one_bool cells_string one_string cells_pointer one_pointer cells_slice one_slice cells_map one_map cells_agg resK_one resK_nil resK_two rvK_t rvK_c rvsK_nil rvsK_cons iseq_nil iseq_cons gdA_true gdA_false gdA_undef istep_free istep_guard istepV_free istepV_guard dseq_nil dseq_pu dseq_rd dseq_ef wpc_regT dtree_nil dtree_pu dtree_rd dtree_ef dtree_br chkAll_nil chkAll_cons andK_true pickK_true pickK_false pickK_tb pickK_fb bin2K_pl eqbK_eq eqbK_ne eqpK_eq eqpK_ne eqmK_eq eqmK_ne eqzK_eq eqzK_ne eqzK_sl eqzK_vs un1K_pl convK_int fillK_some fillA_cons fillA_nil cellsK_some needK_true needK_ok seeK_ep seeK_ptr oneK_agg oneK_one nilcK_ptr nilcK_ep fadrK_ptr fadrK_ep fldK_ag iadAK_ptr iadAK_ep iadSK_sl iadSK_vs extK_0 extK_1 extK_2 extK_3 lenK_pl lenK_sl lenK_vs lensK_pl boxK_some minmax1K_int storeK_ptr callvK_fn callvK_pl newsK_nil newsK_vs newsK_sl appK_nil appK_nil0 appK_sl appK_vs bnd1K_int bndK_none bndK_some slsK_vs slsK_nil slsK_sl0 slsK_sl slstrK_pl boolK_some eqsK_ag iop_eqs iop_sls iop_slstr seesK_some seesK_ro mapsK_some MAP_some findK_some findK_none plK_pl nmapK_none nmapK_some iop_mlook iop_mlen iop_mmk iop_mupd iop_mdel iop_mrng itK_none itK_some ptr0K_ptr iop_mnxt iop_ment it1K_some entK_some iop_mov iop_pick iop_bin iop_eqb iop_eqp iop_eqm iop_eqz iop_un capK_pl capK_sl capK_vs iop_cap apzK_nil iop_apz mksK_int iop_mks clrK_sl clrK_vs clrK_nil iop_clr iop_conv iop_build iop_load iop_nilc iop_fadr iop_fld iop_iadA iop_iadS iop_ext iop_mkf iop_len iop_lens iop_minmax iop_al iop_box iop_bsl iop_store iop_call iop_callv iop_app BIN_add BIN_sub BIN_mul BIN_and BIN_or BIN_xor BIN_andNot BIN_eql BIN_neq BIN_lss BIN_leq BIN_gtr BIN_geq BIN_quo BIN_rem BIN_shl BIN_shr BIN_sadd BIN_seql BIN_sneq BIN_slss BIN_sleq BIN_sgtr BIN_sgeq UN_neg UN_xor UN_not MM_nil MM_cons partsA argsA ptrA lessL eqL min2I slotN_int slotP_int slotI_int
attribute [local simp] rc_len rc_t4 rc_t1 rc_t2 rc_t3 rc_d1 rc_d2 rc_d3 rc_d4 rc_ag rc_one rc_eq pc_len pc_t1 pc_t2 pc_d1 pc_d2 pc_ag pc_one oc_len oc_tt oc_dd oc_one oc_ag oc_t1 oc_t2 oc_t3 oc_t4 oc_t5 oc_t6 oc_t7 oc_d1 oc_d2 oc_d3 oc_d4 oc_d5 oc_d6 oc_d7 min2_t min2_f

theorem and_mod (a b : R) : modF 2 [a] [b] = if rempty (rcap a b) = true then [] else [rcap a b] := and_rects a b
theorem c20 (a b : R) : PC Tryz.prog 20 [.ag (rc a), .ag (rc b)] (.ag (rc (rcap a b))) := by
  refine .tell fun H => ?_
  refine call_c follows cf20_ok (by simp) ?_
  simp
  refine newK_of fun p hp => ?_
  simp
  refine newK_of fun q hq => ?_
  simp
  refine newK_of fun z hz => ?_
  have n1 := free_ne hq p (by simp [upd_apply])
  have n2 := free_ne hz p (by simp [upd_apply, n1])
  have n3 := free_ne hz q (by simp [upd_apply])
  have hS : Sub H (upd (upd (upd H p (.cells (rc a))) q (.cells (rc b))) z (.cells [vi 0, vi 0, vi 0, vi 0])) := (((Sub.refl H).upd hp).upd (by simp_all [upd_apply])).upd (by simp_all [upd_apply])
  have e1 : upd (upd (upd H p (.cells (rc a))) q (.cells (rc b))) z (.cells [vi 0, vi 0, vi 0, vi 0]) p = some (.cells (rc a)) := by simp [upd_apply, n1, n2]
  have e2 : upd (upd (upd H p (.cells (rc a))) q (.cells (rc b))) z (.cells [vi 0, vi 0, vi 0, vi 0]) q = some (.cells (rc b)) := by simp [upd_apply, n3]
  have e3 : upd (upd (upd H p (.cells (rc a))) q (.cells (rc b))) z (.cells [vi 0, vi 0, vi 0, vi 0]) z = some (.cells [vi 0, vi 0, vi 0, vi 0]) := by simp [upd_apply]
  have hzH : H z = none := by simp only [upd_apply] at hz; repeat' split at hz <;> simp_all
  generalize upd (upd (upd H p (.cells (rc a))) q (.cells (rc b))) z (.cells [vi 0, vi 0, vi 0, vi 0]) = G at *
  simp [e1, e2]
  refine newK_of fun u hu => ?_
  have hSu := (Sub.refl G).upd hu (o := .cells (rc a))
  have ra : Rr (upd G u (.cells (rc a))) (.sl u 0 1 4 true) [a] := .sl (by simp [flat_one]) (by simp [upd_apply, flat_one])
  have nqu : ¬ q = u := by rintro rfl; rw [e2] at hu; cases hu
  simp [nqu, e2]
  generalize AV.sl u 0 1 4 true = x at *
  generalize upd G u (.cells (rc a)) = G2 at *
  refine newK_of fun v hv => ?_
  have hSv := (Sub.refl G2).upd hv (o := .cells (rc b))
  have rb : Rr (upd G2 v (.cells (rc b))) (.sl v 0 1 4 true) [b] := .sl (by simp [flat_one]) (by simp [upd_apply, flat_one])
  have ra := Rw.sub ra hSv
  have ea := Rw.cells ra
  simp
  generalize AV.sl v 0 1 4 true = y at *
  generalize upd G2 v (.cells (rc b)) = G3 at *
  have hSG := hSu.trans hSv
  refine c41 ra rb (by simp) (by simp) (fun _ out H' hro => ?_) fun h => ?_
  · have hz' := (hSG.trans hro.sub).at e3
    rw [and_mod] at hro
    have hfin := (hS.trans hSG).trans hro.sub
    cases he : rempty (rcap a b) with
    | true =>
      rw [rcap_emp he]
      rw [he, if_pos rfl] at hro
      have hr : Rr H' out [] := (hro.rin (flat_len rc_l _)).rd
      have cc := Rw.cells hr
      have oo := Rw.one hr
      have lc := fun k => Rw.lenK hr (k := k)
      simp at lc
      simp [cc, oo, lc, hz']
      exact hfin.upd hzH
    | false =>
      rw [he, if_neg (by simp)] at hro
      have hr : Rr H' out [rcap a b] := (hro.rin (flat_len rc_l _)).rd
      have cc := Rw.cells hr
      have oo := Rw.one hr
      have lc := fun k => Rw.lenK hr (k := k)
      obtain ⟨w, w1, w2⟩ := fsee rc_l hr (i := 0) (by simp)
      have w2 := w2 H' (Sub.refl _)
      simp at lc w1 w2
      simp [cc, oo, lc, hz', w1, w2]
      exact hfin.upd hzH
  · exfalso
    rw [and_mod] at h
    split at h <;> simp at h
def zr : R := ⟨0, 0, 0, 0⟩
theorem c8 (o : O) (r : R) : PC Tryz.prog 8 [.ag (oc o), .ag (rc r)] (.ag (rc (toPhys o r))) := by
  refine .tell fun H => ?_
  refine call_c follows cf8_ok (by simp) ?_
  by_cases hc : chk o = 0
  · cases he : rempty (rcap r (lg o)) with
    | true =>
      have hz := rcap_emp he
      have hp : toPhys o r = ⟨0, 0, 0, 0⟩ := by simp [toPhys, he]
      clear he hc
      repeat' (first | simp [*, req_refl] | (with_reducible (refine newK_of fun _ h_ => ?_); have hn_ := free_ne h_; (try simp only [upd_none', ne_eq] at h_)) | (with_reducible (refine condK_of (fun h_ => ?_) (fun h_ => ?_))) | with_reducible (refine (c21 ..).ac ?_) | with_reducible (refine (c20 ..).ac ?_))
      all_goals ((try with_reducible refine And.intro ?_ ?_) <;> (try (repeat' (first | with_reducible exact Sub.refl _ | with_reducible refine Sub.of_upd (by simp [*]) ?_))))
    | false =>
      have hne := ne_zero_of he
      have hp : toPhys o r = phys o (rcap r (lg o)) := by simp [toPhys, he, hc]
      obtain ⟨ht, hk, hw, hh, hwk, hhk, hx, hy⟩ := chk_dims o hc
      obtain ⟨d1, d2, d3, d4⟩ := dims o hc
      obtain ⟨s1, s2, s3, s4⟩ := sz_eq o hc
      have hs := rempty_small _ he
      have hsc : o.sc ≠ 0 := by omega
      have hph : phys o (rcap r (lg o)) = trect o.tr (dW o) (dH o) (big o (rcap r (lg o))) := rfl
      rw [hph] at hp
      generalize hqq : rcap r (lg o) = q at *
      unfold rsmall at hs
      have m0 := mul4 (q.x0 - o.x) o.sc (by omega) hk
      have m1 := mul4 (q.y0 - o.y) o.sc (by omega) hk
      have m2 := mul4 (q.x1 - o.x) o.sc (by omega) hk
      have m3 := mul4 (q.y1 - o.y) o.sc (by omega) hk
      have v0 := IntWalk.i64_in (q.x0 - o.x) (by omega)
      have v1 := IntWalk.i64_in (q.y0 - o.y) (by omega)
      have v2 := IntWalk.i64_in (q.x1 - o.x) (by omega)
      have v3 := IntWalk.i64_in (q.y1 - o.y) (by omega)
      have u0 : IntKind.i64.wrap (o.sc * (q.x0 - o.x)) = (big o q).x0 := by rw [Int.mul_comm]; exact IntWalk.i64_in _ (by omega)
      have u1 : IntKind.i64.wrap (o.sc * (q.y0 - o.y)) = (big o q).y0 := by rw [Int.mul_comm]; exact IntWalk.i64_in _ (by omega)
      have u2 : IntKind.i64.wrap (o.sc * (q.x1 - o.x)) = (big o q).x1 := by rw [Int.mul_comm]; exact IntWalk.i64_in _ (by omega)
      have u3 : IntKind.i64.wrap (o.sc * (q.y1 - o.y)) = (big o q).y1 := by rw [Int.mul_comm]; exact IntWalk.i64_in _ (by omega)
      have t1 : IntKind.i64.wrap (o.sc * (sz o).1) = dW o := by rw [s3]; exact IntWalk.i64_in _ (by omega)
      have t2 : IntKind.i64.wrap (o.sc * (sz o).2) = dH o := by rw [s4]; exact IntWalk.i64_in _ (by omega)
      have hb : ∀ b : R, (⟨b.x0, b.y0, b.x1, b.y1⟩ : R) = b := fun b => rfl
      clear m0 m1 m2 m3 hs ht hk hw hh hwk hhk hx hy d1 d2 d3 d4 s1 s2 s3 s4 hc he hph
      rw [hp]
      clear hp
      generalize big o q = g at *
      generalize dW o = A at *
      generalize dH o = B at *
      repeat' (first | simp [*] | (with_reducible (refine newK_of fun _ h_ => ?_); have hn_ := free_ne h_; (try simp only [upd_none', ne_eq] at h_)) | (with_reducible (refine condK_of (fun h_ => ?_) (fun h_ => ?_))) | with_reducible (refine (c21 ..).ac ?_) | with_reducible (refine (c20 ..).ac ?_) | with_reducible (refine (c22 o hsc).ac ?_) | with_reducible (refine (c23 ..).ac ?_))
      all_goals ((try with_reducible refine And.intro ?_ ?_) <;> (try (repeat' (first | with_reducible exact Sub.refl _ | with_reducible refine Sub.of_upd (by simp [*]) ?_))))
  · have hl : lg o = ⟨0, 0, 0, 0⟩ := if_neg hc
    have hz : rcap r ⟨0, 0, 0, 0⟩ = ⟨0, 0, 0, 0⟩ := rcap_zero r
    have hp : toPhys o r = ⟨0, 0, 0, 0⟩ := if_neg hc
    clear hc
    repeat' (first | simp [*, req_refl] | (with_reducible (refine newK_of fun _ h_ => ?_); have hn_ := free_ne h_; (try simp only [upd_none', ne_eq] at h_)) | (with_reducible (refine condK_of (fun h_ => ?_) (fun h_ => ?_))) | with_reducible (refine (c21 ..).ac ?_) | with_reducible (refine (c20 ..).ac ?_))
    all_goals ((try with_reducible refine And.intro ?_ ?_) <;> (try (repeat' (first | with_reducible exact Sub.refl _ | with_reducible refine Sub.of_upd (by simp [*]) ?_))))
theorem c10 (o : O) (r : R) : PC Tryz.prog 10 [.ag (oc o), .ag (rc r)] (.ag (rc (toLog o r))) := by
  have hi : (⟨0, 0, o.w, o.h⟩ : R) = imgO o := rfl
  refine .tell fun H => ?_
  refine call_c follows cf10_ok (by simp) ?_
  by_cases hc : chk o = 0
  · cases he : rempty (rcap r (imgO o)) with
    | true =>
      have hz := rcap_emp he
      have hp : toLog o r = ⟨0, 0, 0, 0⟩ := by simp [toLog, he]
      clear he
      repeat' (first | simp [*, req_refl] | (with_reducible (refine newK_of fun _ h_ => ?_); have hn_ := free_ne h_; (try simp only [upd_none', ne_eq] at h_)) | (with_reducible (refine condK_of (fun h_ => ?_) (fun h_ => ?_))) | with_reducible (refine (c16 ..).ac ?_) | with_reducible (refine (c20 ..).ac ?_))
      all_goals ((try with_reducible refine And.intro ?_ ?_) <;> (try (repeat' (first | with_reducible exact Sub.refl _ | with_reducible refine Sub.of_upd (by simp [*]) ?_))))
    | false =>
      have hne := ne_zero_of he
      have hp : toLog o r = logi o (rcap r (imgO o)) := by simp [toLog, he, hc]
      obtain ⟨ht, hk, hw, hh, hwk, hhk, hx, hy⟩ := chk_dims o hc
      obtain ⟨e1, e2, e3⟩ := rcap_ne _ _ he
      have e4 := rempty_ok _ he
      have hin : 0 ≤ (rcap r (imgO o)).x0 ∧ (rcap r (imgO o)).x1 ≤ o.w ∧ 0 ≤ (rcap r (imgO o)).y0 ∧ (rcap r (imgO o)).y1 ≤ o.h := by
        rw [e1]; simp [imgO]; omega
      have hT := trect_eq (invT o.tr) o.w o.h _ (invT_rng _ ht) (by simp [inb]; omega) he hin
      have hI := tr8_in (invT o.tr) o.w o.h (rcap r (imgO o)) (invT_rng _ ht) (by omega)
      rw [← hT] at hI
      have hs : (swp (invT o.tr) o.w o.h).1 ≤ 256 ∧ (swp (invT o.tr) o.w o.h).2 ≤ 256 := by unfold swp; split <;> simp <;> omega
      have hL : logi o (rcap r (imgO o)) = small4 o (trect (invT o.tr) o.w o.h (rcap r (imgO o))) := rfl
      rw [hL] at hp
      rw [hp]
      clear hT hp hL e1 e2 e3 e4 he hin
      generalize hpp : rcap r (imgO o) = p at *
      generalize hq : trect (invT o.tr) o.w o.h p = q at *
      have d0 := div_small q.x0 o.sc (by omega) hk
      have d1 := div_small q.y0 o.sc (by omega) hk
      have d2 := div_small (q.x1 + o.sc - 1) o.sc (by omega) hk
      have d3 := div_small (q.y1 + o.sc - 1) o.sc (by omega) hk
      have k0 : o.sc ≠ 0 := by omega
      have v1 := IntWalk.i64_in (q.x1 + o.sc) (by omega)
      have v2 := IntWalk.i64_in (q.x1 + o.sc - 1) (by omega)
      have v3 := IntWalk.i64_in (q.y1 + o.sc) (by omega)
      have v4 := IntWalk.i64_in (q.y1 + o.sc - 1) (by omega)
      have a0 : IntKind.i64.wrap (o.x + q.x0 / o.sc) = q.x0 / o.sc + o.x := by rw [Int.add_comm]; exact IntWalk.i64_in _ (by omega)
      have a1 : IntKind.i64.wrap (o.y + q.y0 / o.sc) = q.y0 / o.sc + o.y := by rw [Int.add_comm]; exact IntWalk.i64_in _ (by omega)
      have a2 : IntKind.i64.wrap (o.x + (q.x1 + o.sc - 1) / o.sc) = (q.x1 + o.sc - 1) / o.sc + o.x := by rw [Int.add_comm]; exact IntWalk.i64_in _ (by omega)
      have a3 : IntKind.i64.wrap (o.y + (q.y1 + o.sc - 1) / o.sc) = (q.y1 + o.sc - 1) / o.sc + o.y := by rw [Int.add_comm]; exact IntWalk.i64_in _ (by omega)
      have f0 := d0.1
      have f1 := d1.1
      have f2 := d2.1
      have f3 := d3.1
      have hinv := c25 o.tr ht
      clear hI hs ht hk hw hh hwk hhk hx hy d0 d1 d2 d3
      repeat' (first | simp [hc, hne, hi, hpp, hq, k0, v1, v2, v3, v4, a0, a1, a2, a3, f0, f1, f2, f3] | simp [*] | (with_reducible (refine newK_of fun _ h_ => ?_); have hn_ := free_ne h_; (try simp only [upd_none', ne_eq] at h_)) | (with_reducible (refine condK_of (fun h_ => ?_) (fun h_ => ?_))) | with_reducible (refine (c16 ..).ac ?_) | with_reducible (refine (c20 ..).ac ?_) | with_reducible (refine hinv.ac ?_) | with_reducible (refine (c23 ..).ac ?_))
      all_goals ((try with_reducible refine And.intro ?_ ?_) <;> (try (repeat' (first | with_reducible exact Sub.refl _ | with_reducible refine Sub.of_upd (by simp [*]) ?_))))
      all_goals simp [small4]
  · have hp : toLog o r = ⟨0, 0, 0, 0⟩ := if_neg hc
    repeat' (first | simp [*] | (with_reducible (refine newK_of fun _ h_ => ?_); have hn_ := free_ne h_; (try simp only [upd_none', ne_eq] at h_)) | (with_reducible (refine condK_of (fun h_ => ?_) (fun h_ => ?_))) | with_reducible (refine (c16 ..).ac ?_))
    all_goals ((try with_reducible refine And.intro ?_ ?_) <;> (try (repeat' (first | with_reducible exact Sub.refl _ | with_reducible refine Sub.of_upd (by simp [*]) ?_))))
end Go.Proofs.YtohedpgoioemnaaGreatDoor
end

/-! PhysicalRegion of the program and of the reference: both the canonical region of the physical rectangles. Conditions: as each lemma states them. -/
section
namespace Go.Proofs.YtohedpgoioemnaaGreatDoor
open Go Go.Ab Go.RowKit
set_option linter.unusedSimpArgs false
set_option linter.unusedVariables false
set_option linter.unnecessarySimpa false

attribute [local simp] condK_true condK_false condK_not wpc_skip wpc_ret wpc_exit wpc_seq wpc_reg wpc_regD testA_bool wpc_cond wpc_block thenA_normal thenA_ret thenA_exit blockA_normal blockA_ret blockA_exit blockA_other endA_normal endA_ret ev_tmp' ev_const ev_func ev_global cv_int cv_bool cv_string cv_pointer cv_slice cv_agg cv_map put_some put_none wH_s setE_apply setE_env less_eq env_cons env_nil upd_upd upd_apply del_apply startA_eq cells_ag cells_sl one_sl cells_vs one_vs cells_ep one_ep cells_fn one_fn cells_int one_int cells_bool one_bool cells_string one_string cells_pointer one_pointer cells_slice one_slice cells_map one_map cells_agg resK_one resK_nil resK_two rvK_t rvK_c rvsK_nil rvsK_cons iseq_nil iseq_cons gdA_true gdA_false gdA_undef istep_free istep_guard istepV_free istepV_guard dseq_nil dseq_pu dseq_rd dseq_ef wpc_regT dtree_nil dtree_pu dtree_rd dtree_ef dtree_br chkAll_nil chkAll_cons andK_true pickK_true pickK_false pickK_tb pickK_fb bin2K_pl eqbK_eq eqbK_ne eqpK_eq eqpK_ne eqmK_eq eqmK_ne eqzK_eq eqzK_ne eqzK_sl eqzK_vs un1K_pl convK_int fillK_some fillA_cons fillA_nil cellsK_some needK_true needK_ok seeK_ep seeK_ptr oneK_agg oneK_one nilcK_ptr nilcK_ep fadrK_ptr fadrK_ep fldK_ag iadAK_ptr iadAK_ep iadSK_sl iadSK_vs extK_0 extK_1 extK_2 extK_3 lenK_pl lenK_sl lenK_vs lensK_pl boxK_some minmax1K_int storeK_ptr callvK_fn callvK_pl newsK_nil newsK_vs newsK_sl appK_nil appK_nil0 appK_sl appK_vs bnd1K_int bndK_none bndK_some slsK_vs slsK_nil slsK_sl0 slsK_sl slstrK_pl boolK_some eqsK_ag iop_eqs iop_sls iop_slstr seesK_some seesK_ro mapsK_some MAP_some findK_some findK_none plK_pl nmapK_none nmapK_some iop_mlook iop_mlen iop_mmk iop_mupd iop_mdel iop_mrng itK_none itK_some ptr0K_ptr iop_mnxt iop_ment it1K_some entK_some iop_mov iop_pick iop_bin iop_eqb iop_eqp iop_eqm iop_eqz iop_un capK_pl capK_sl capK_vs iop_cap apzK_nil iop_apz mksK_int iop_mks clrK_sl clrK_vs clrK_nil iop_clr iop_conv iop_build iop_load iop_nilc iop_fadr iop_fld iop_iadA iop_iadS iop_ext iop_mkf iop_len iop_lens iop_minmax iop_al iop_box iop_bsl iop_store iop_call iop_callv iop_app BIN_add BIN_sub BIN_mul BIN_and BIN_or BIN_xor BIN_andNot BIN_eql BIN_neq BIN_lss BIN_leq BIN_gtr BIN_geq BIN_quo BIN_rem BIN_shl BIN_shr BIN_sadd BIN_seql BIN_sneq BIN_slss BIN_sleq BIN_sgtr BIN_sgeq UN_neg UN_xor UN_not MM_nil MM_cons partsA argsA ptrA lessL eqL min2I slotN_int slotP_int slotI_int
attribute [local simp] oc_len oc_tt oc_dd oc_one oc_ag oc_t1 oc_t2 oc_t3 oc_t4 oc_t5 oc_t6 oc_t7 oc_d1 oc_d2 oc_d3 oc_d4 oc_d5 oc_d6 oc_d7 rc_len rc_t4 rc_t1 rc_t2 rc_t3 rc_d1 rc_d2 rc_d3 rc_d4 rc_ag rc_one rc_eq

def regF (l : List R) : List R := if (canonF l).length ≤ 256 then canonF l else []
theorem regF_in {l : List R} (h : (canonF l).length ≤ 256) : regF l = canonF l := if_pos h
theorem regF_out {l : List R} (h : 256 < (canonF l).length) : regF l = [] := if_neg (by omega)
theorem regF_len (l : List R) : (regF l).length ≤ 256 := by
  unfold regF
  split
  · assumption
  · simp
def regE (l : List R) : Int := if (canonF l).length ≤ 256 then 0 else 5
/-- The error and the rectangles of PhysicalRegion. -/
def prE (o : O) (l : List R) : Int := if chk o = 0 then regE (l.map (toPhys o)) else chk o
def prL (o : O) (l : List R) : List R := if chk o = 0 then regF (l.map (toPhys o)) else []
theorem prL_len (o : O) (l : List R) : (prL o l).length ≤ 256 := by
  unfold prL
  split
  · exact regF_len _
  · simp
theorem c5 {H : AH} {K : AV → AH → Prop} {a : AV} {o : O} {l : List R} (ha : Rr H a l) (hl : l.length ≤ 1000)
    (hk : ∀ out H', Row H H' out (flat rc (prL o l)) (prL o l).length 4 → K (.tp [out, vi (prE o l)]) H') : @AC Tryz.prog 5 [.ag (oc o), a] H ⟨K⟩ := by
  refine AC_of (.forget ?_)
  refine call_c follows cf5_ok (by simp) ?_
  simp
  refine newK_of fun b hb => ?_
  have hS : Sub H (upd H b (.cells (oc o))) := (Sub.refl H).upd hb
  have hbb : upd H b (.cells (oc o)) b = some (.cells (oc o)) := by simp [upd_apply]
  simp
  generalize upd H b (.cells (oc o)) = G at *
  refine (c12 o).ac ?_
  by_cases hc : chk o = 0
  · unfold prL prE at hk
    rw [if_pos hc, if_pos hc] at hk
    simp [hc]
    have hx : Rr G a l := Rw.sub ha hS
    have lx := fun k => Rw.lenK hx (k := k)
    simp [lx]
    refine wpc_loop (fun st => ∃ (i : Nat) (out : AV) (B : AH), st.n = 32 ∧ st.t 2 = pA b ∧ st.t 7 = out ∧ st.t 15 = a ∧ st.t 16 = vi l.length ∧ st.t 17 = vi i ∧ i ≤ l.length ∧ Sub G B ∧ Row B st.H out (flat rc ((l.take i).map (toPhys o))) ((l.take i).map (toPhys o)).length 4) (fun st => l.length - slotN (st.t 17)) ?_ ?_
    · exact FgK.same ⟨0, vnil, G, by simp, by simp, by simp, by simp, by simp, by simp, by omega, Sub.refl _, by simpa [flat_nil] using Row.nil G 4⟩
    rintro st ⟨i, out, B, hn, e2, e7, e15, e16, e17, hi, hGB, hro⟩
    generalize hHeq : st.H = Hs at *
    have w := IntWalk.i64_in ((i : Int) + 1) (by omega)
    have hGs := hGB.trans hro.sub
    have hb3 := hGs.at hbb
    have htl : ((l.take i).map (toPhys o)).length = i := by simp; omega
    by_cases hlt : i < l.length
    · obtain ⟨p, hp1, hp2⟩ := fsee rc_l hx hlt
      have et : (l.take (i + 1)).map (toPhys o) = (l.take i).map (toPhys o) ++ [toPhys o l[i]] := by rw [take_snoc' hlt, List.map_append]; rfl
      generalize l[i] = r at *
      generalize (l.take i).map (toPhys o) = rs at *
      simp (disch := omega) [hn, hHeq, e2, e7, e15, e16, e17, hlt, hp1, hp2 _ hGs]
      refine newK_of fun z hz => ?_
      have hbz := free_ne hz b (by rw [hb3]; simp)
      have hGz : Sub Hs (upd Hs z (.cells (rc r))) := (Sub.refl Hs).upd hz
      have hzz : upd Hs z (.cells (rc r)) z = some (.cells (rc r)) := by simp [upd_apply]
      simp [e2, e7, hbz, hb3]
      refine (c7 o r).ac ?_
      generalize hGG : upd Hs z (.cells (rc r)) = Hz at *
      simp
      refine newK_of fun q hq => ?_
      have hS2 : Sub Hs (upd Hz q (.cells (rc (toPhys o r)))) := hGz.trans ((Sub.refl Hz).upd hq)
      generalize hx4 : AV.sl q 0 1 4 true = x4
      have hnw : ∀ k : Nat → List AV → Prop, @NEWS (upd Hz q (.cells (rc (toPhys o r)))) x4 4 ⟨k⟩ = k 1 (rc (toPhys o r)) := by intro k; rw [← hx4]; simp
      simp [hnw]
      refine hro.app hS2 (by decide) (by simp) (flat_len rc_l _) (by omega) fun rr H' hr hsr => ?_
      simp (disch := omega) [e17, w]
      refine FgK.of _ hsr ⟨⟨i + 1, .sl rr 0 (rs.length + 1) 4 false, B, by simp, by simp [e2], by simp, by simp [e15], by simp [e16], by simp, by omega, hGB, ?_⟩, by simp [e17]; omega⟩
      rw [et, List.length_append]
      have := Row.mk (cs := flat rc (rs ++ [toPhys o r])) (n := rs.length + 1) (sz := 4) hr
      rw [← flat_snoc] at this ⊢
      exact this
    · rw [List.take_of_length_le (by omega)] at hro htl
      simp (disch := omega) [hn, hHeq, e2, e7, e15, e16, e17, hlt]
      refine c15 ((hro.rin (flat_len rc_l _)).rd) (by omega) (fun hcn out2 H' h2 => ?_) fun hcn => ?_
      · have oo := Rw.one (h2.rin (flat_len rc_l _)).rd
        have cc := Rw.cells (h2.rin (flat_len rc_l _)).rd
        rw [regF_in hcn, show regE (l.map (toPhys o)) = 0 from if_pos hcn] at hk
        simp [oo, cc]
        obtain ⟨H0, z1, z2⟩ := Row.base (hS.trans (hGB.trans hro.sub)) h2
        exact ⟨H0, z1, hk _ _ z2⟩
      · rw [regF_out hcn, show regE (l.map (toPhys o)) = 5 from if_neg (by omega)] at hk
        simp
        exact ⟨H, hS.trans (hGB.trans hro.sub), hk _ _ (by simpa [flat_nil] using Row.nil H 4)⟩
  · unfold prL prE at hk
    rw [if_neg hc, if_neg hc] at hk
    simp [hc]
    exact ⟨H, hS, hk _ _ (by simpa [flat_nil] using Row.nil H 4)⟩
theorem c6 {H : AH} {K : AV → AH → Prop} {a : AV} {o : O} {l : List R} (ha : Rr H a l) (hl : l.length ≤ 1000)
    (hk : ∀ out H', Row H H' out (flat rc (prL o l)) (prL o l).length 4 → K (.tp [out, vi (prE o l)]) H') : @AC Tryz.prog 6 [.ag (oc o), a] H ⟨K⟩ := by
  refine AC_of (.forget ?_)
  refine call_c follows cf6_ok (by simp) ?_
  simp
  refine newK_of fun b hb => ?_
  have hS : Sub H (upd H b (.cells (oc o))) := (Sub.refl H).upd hb
  have hbb : upd H b (.cells (oc o)) b = some (.cells (oc o)) := by simp [upd_apply]
  simp
  generalize upd H b (.cells (oc o)) = G at *
  refine (c16 o).ac ?_
  by_cases hc : chk o = 0
  · unfold prL prE at hk
    rw [if_pos hc, if_pos hc] at hk
    simp [hc]
    have hx : Rr G a l := Rw.sub ha hS
    have lx := fun k => Rw.lenK hx (k := k)
    refine wpc_loop (fun st => ∃ (i : Nat) (out : AV), st.n = 33 ∧ st.t 1 = a ∧ st.t 2 = pA b ∧ st.t 7 = out ∧ st.t 8 = vi i ∧ i ≤ l.length ∧ Row G st.H out (flat rc ((l.take i).map (toPhys o))) ((l.take i).map (toPhys o)).length 4) (fun st => l.length - slotN (st.t 8)) ?_ ?_
    · exact FgK.same ⟨0, vnil, by simp, by simp, by simp, by simp, by simp, by omega, by simpa [flat_nil] using Row.nil G 4⟩
    rintro st ⟨i, out, hn, e1, e2, e7, e8, hi, hro⟩
    generalize hHeq : st.H = Hs at *
    have w := IntWalk.i64_in ((i : Int) + 1) (by omega)
    have hb3 := hro.sub.at hbb
    have htl : ((l.take i).map (toPhys o)).length = i := by simp; omega
    by_cases hlt : i < l.length
    · obtain ⟨p, hp1, hp2⟩ := fsee rc_l hx hlt
      have hp3 := hp2 _ hro.sub
      have et : (l.take (i + 1)).map (toPhys o) = (l.take i).map (toPhys o) ++ [toPhys o l[i]] := by rw [take_snoc' hlt, List.map_append]; rfl
      generalize l[i] = r at *
      generalize (l.take i).map (toPhys o) = rs at *
      simp (disch := omega) [hn, hHeq, e1, e2, e7, e8, lx, hlt, hp1, hp3, hb3]
      refine (c8 o r).ac ?_
      simp [hb3, hp3, e1, e7, e8, hp1]
      refine newK_of fun q hq => ?_
      have hS2 : Sub Hs (upd Hs q (.cells (rc (toPhys o r)))) := (Sub.refl Hs).upd hq
      generalize hx4 : AV.sl q 0 1 4 true = x4
      have hnw : ∀ k : Nat → List AV → Prop, @NEWS (upd Hs q (.cells (rc (toPhys o r)))) x4 4 ⟨k⟩ = k 1 (rc (toPhys o r)) := by intro k; rw [← hx4]; simp
      simp [hnw]
      refine hro.app hS2 (by decide) (by simp) (flat_len rc_l _) (by omega) fun rr H' hr hsr => ?_
      simp (disch := omega) [e8, w]
      refine FgK.of _ hsr ⟨⟨i + 1, .sl rr 0 (rs.length + 1) 4 false, by simp, by simp [e1], by simp [e2], by simp, by simp, by omega, ?_⟩, by simp [e8]; omega⟩
      rw [et, List.length_append]
      have := Row.mk (cs := flat rc (rs ++ [toPhys o r])) (n := rs.length + 1) (sz := 4) hr
      rw [← flat_snoc] at this ⊢
      exact this
    · rw [List.take_of_length_le (by omega)] at hro htl
      simp (disch := omega) [hn, hHeq, e1, e2, e7, e8, lx, hlt]
      refine c17 ((hro.rin (flat_len rc_l _)).rd) (by omega) (fun hcn out2 H' h2 => ?_) fun hcn => ?_
      · have oo := Rw.one (h2.rin (flat_len rc_l _)).rd
        have cc := Rw.cells (h2.rin (flat_len rc_l _)).rd
        rw [regF_in hcn, show regE (l.map (toPhys o)) = 0 from if_pos hcn] at hk
        simp [oo, cc]
        obtain ⟨H0, z1, z2⟩ := Row.base (hS.trans hro.sub) h2
        exact ⟨H0, z1, hk _ _ z2⟩
      · rw [regF_out hcn, show regE (l.map (toPhys o)) = 5 from if_neg (by omega)] at hk
        simp
        exact ⟨H, hS.trans hro.sub, hk _ _ (by simpa [flat_nil] using Row.nil H 4)⟩
  · unfold prL prE at hk
    rw [if_neg hc, if_neg hc] at hk
    simp [hc]
    exact ⟨H, hS, hk _ _ (by simpa [flat_nil] using Row.nil H 4)⟩
end Go.Proofs.YtohedpgoioemnaaGreatDoor
end
