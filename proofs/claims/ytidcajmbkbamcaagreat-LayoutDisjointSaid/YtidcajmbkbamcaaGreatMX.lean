/-
  Several texts in one: X1; X2; X3; X4; X5; L27; X6; X7. Conditions: as each lemma states them.
-/
import Derived.Test.YtidcajmbkbamcaaGreatMW
import Derived.Test.YtidcajmbkbamcaaGreatML
/-! Regions, in plain words: the points of bands; canonical bands; that the points tell the bands. No program in sight; conditions: as each lemma states them. -/
section
namespace Go.Proofs.YtidcajmbkbamcaaGreat
open Go Go.Ab Go.RowKit
set_option linter.unusedSimpArgs false
set_option linter.unusedVariables false
set_option linter.unnecessarySimpa false


theorem pairs_ge : ∀ {l : List Int} {b : Int}, (b :: l).Pairwise (· < ·) → ∀ p ∈ pairs (b :: l), b ≤ p.1
  | [], b, _, p, hp => by simp [pairs] at hp
  | c :: l, b, h, p, hp => by
    obtain ⟨h3, h4⟩ := List.pairwise_cons.1 h
    simp only [pairs, List.mem_cons] at hp
    rcases hp with rfl | hp
    · exact Int.le_refl _
    · have := pairs_ge h4 p hp
      have := h3 c (by simp)
      omega
/-- No cut lies within a piece. -/
theorem pairs_cut : ∀ {xs : List Int}, xs.Pairwise (· < ·) → ∀ {p : Rn}, p ∈ pairs xs → ∀ {x : Int}, p.1 ≤ x → x < p.2 → ∀ {e : Int}, e ∈ xs → (e ≤ x ↔ e ≤ p.1)
  | [], _, p, hp, _, _, _, _, _ => by simp [pairs] at hp
  | [a], _, p, hp, _, _, _, _, _ => by simp [pairs] at hp
  | a :: b :: l, h, p, hp, x, h1, h2, e, he => by
    obtain ⟨h3, h4⟩ := List.pairwise_cons.1 h
    have hab := h3 b (by simp)
    simp only [pairs, List.mem_cons] at hp
    rcases hp with rfl | hp
    · simp only at h1 h2 ⊢
      rcases List.mem_cons.1 he with rfl | he
      · omega
      · have hb : b ≤ e := by
          rcases List.mem_cons.1 he with rfl | he
          · exact Int.le_refl _
          · have := (List.pairwise_cons.1 h4).1 e he; omega
        omega
    · have hb := pairs_ge h4 p hp
      rcases List.mem_cons.1 he with rfl | he
      · omega
      · exact pairs_cut h4 hp h1 h2 he
/-- Whatever lies between two cuts lies in a piece. -/
theorem pairs_cover : ∀ {xs : List Int}, xs.Pairwise (· < ·) → ∀ {x e1 e2 : Int}, e1 ∈ xs → e2 ∈ xs → e1 ≤ x → x < e2 → ∃ p ∈ pairs xs, p.1 ≤ x ∧ x < p.2
  | [], _, _, _, _, h, _, _, _ => by simp at h
  | [a], _, x, e1, e2, h1, h2, h3, h4 => by simp at h1 h2; omega
  | a :: b :: l, h, x, e1, e2, h1, h2, h3, h4 => by
    obtain ⟨g3, g4⟩ := List.pairwise_cons.1 h
    have hab := g3 b (by simp)
    have ha1 : a ≤ e1 := by
      rcases List.mem_cons.1 h1 with rfl | h1
      · exact Int.le_refl _
      · have := g3 e1 h1; omega
    by_cases hx : x < b
    · exact ⟨(a, b), by simp [pairs], by simp only; omega, hx⟩
    · have h2' : e2 ∈ b :: l := by
        rcases List.mem_cons.1 h2 with rfl | h2
        · omega
        · exact h2
      obtain ⟨p, hp, q⟩ := pairs_cover g4 (x := x) (e1 := b) (by simp) h2' (by omega) h4
      exact ⟨p, by simp only [pairs, List.mem_cons]; exact .inr hp, q⟩
theorem any_eq {α : Type} {p q : α → Bool} : ∀ {l : List α}, (∀ r ∈ l, p r = q r) → l.any p = l.any q
  | [], _ => rfl
  | a :: l, h => by rw [List.any_cons, List.any_cons, h a (by simp), any_eq fun r hr => h r (by simp [hr])]
theorem combF_in {kf : Bool → Bool → Bool} (h0 : kf false false = false) (a b : List Rn) (ha : ∀ r ∈ a, r.1 < r.2) (hb : ∀ r ∈ b, r.1 < r.2) (x : Int) : InR (combF kf a b) x ↔ kf (cvF a x) (cvF b x) = true := by
  have hr := xsF_rising (a ++ b)
  have h1 : ∀ r ∈ (pairs (xsF (a ++ b))).filter (fun p => kf (cvF a p.1) (cvF b p.1)), r.1 < r.2 := fun r hr' => (pairs_lt _ hr).1 r (List.mem_filter.1 hr').1
  have hin : InR (combF kf a b) x ↔ InR ((pairs (xsF (a ++ b))).filter (fun p => kf (cvF a p.1) (cvF b p.1))) x := sumF_in h1 x
  rw [hin]
  have cut : ∀ p ∈ pairs (xsF (a ++ b)), p.1 ≤ x → x < p.2 → cvF a p.1 = cvF a x ∧ cvF b p.1 = cvF b x := by
    intro p hp g1 g2
    have key : ∀ l : List Rn, (∀ r ∈ l, r ∈ a ++ b) → cvF l p.1 = cvF l x := by
      intro l hl
      unfold cvF
      refine any_eq fun r hr' => ?_
      have m1 : r.1 ∈ xsF (a ++ b) := mem_xsF.2 ⟨r, hl r hr', .inl rfl⟩
      have m2 : r.2 ∈ xsF (a ++ b) := mem_xsF.2 ⟨r, hl r hr', .inr rfl⟩
      have c1 := pairs_cut hr hp g1 g2 m1
      have c2 := pairs_cut hr hp g1 g2 m2
      congr 1
      · exact decide_eq_decide.2 c1.symm
      · exact decide_eq_decide.2 ⟨fun h => by omega, fun h => by omega⟩
    exact ⟨key a fun r hr' => List.mem_append_left _ hr', key b fun r hr' => List.mem_append_right _ hr'⟩
  constructor
  · rintro ⟨p, hp, g1, g2⟩
    obtain ⟨hp1, hp2⟩ := List.mem_filter.1 hp
    obtain ⟨c1, c2⟩ := cut p hp1 g1 g2
    rw [c1, c2] at hp2
    exact hp2
  · intro hk
    have hex : ∃ r ∈ a ++ b, r.1 ≤ x ∧ x < r.2 := by
      cases e1 : cvF a x with
      | true =>
        obtain ⟨r, hr', g⟩ := cvF_iff.1 e1
        exact ⟨r, List.mem_append_left _ hr', g⟩
      | false =>
        cases e2 : cvF b x with
        | true =>
          obtain ⟨r, hr', g⟩ := cvF_iff.1 e2
          exact ⟨r, List.mem_append_right _ hr', g⟩
        | false => rw [e1, e2, h0] at hk; cases hk
    obtain ⟨r, hr', g1, g2⟩ := hex
    obtain ⟨p, hp, q1, q2⟩ := pairs_cover hr (mem_xsF.2 ⟨r, hr', .inl rfl⟩) (mem_xsF.2 ⟨r, hr', .inr rfl⟩) g1 g2
    obtain ⟨c1, c2⟩ := cut p hp q1 q2
    exact ⟨p, List.mem_filter.2 ⟨hp, by rw [c1, c2]; exact hk⟩, q1, q2⟩

/-! ### Bands -/
def InB (bs : List Bd) (x y : Int) : Prop := ∃ b ∈ bs, b.1 ≤ y ∧ y < b.2.1 ∧ InR b.2.2 x
def CanB (bs : List Bd) : Prop := (∀ b ∈ bs, b.1 < b.2.1 ∧ b.2.2 ≠ [] ∧ Can b.2.2) ∧ bs.Pairwise fun a b => a.2.1 ≤ b.1 ∧ (a.2.1 = b.1 → a.2.2 ≠ b.2.2)
theorem CanB.cons {r : Bd} {rs : List Bd} : CanB (r :: rs) ↔ (r.1 < r.2.1 ∧ r.2.2 ≠ [] ∧ Can r.2.2) ∧ (∀ s ∈ rs, r.2.1 ≤ s.1 ∧ (r.2.1 = s.1 → r.2.2 ≠ s.2.2)) ∧ CanB rs := by
  constructor
  · rintro ⟨h1, h2⟩
    obtain ⟨h3, h4⟩ := List.pairwise_cons.1 h2
    exact ⟨h1 r (by simp), h3, fun s hs => h1 s (by simp [hs]), h4⟩
  · rintro ⟨h1, h2, h3, h4⟩
    refine ⟨fun s hs => ?_, List.pairwise_cons.2 ⟨h2, h4⟩⟩
    rcases List.mem_cons.1 hs with rfl | hs
    · exact h1
    · exact h3 s hs
theorem can_pt {rs : List Rn} (h : Can rs) (hne : rs ≠ []) : ∃ x, InR rs x := by
  cases rs with
  | nil => exact absurd rfl hne
  | cons r rs => exact ⟨r.1, r, by simp, Int.le_refl _, (Can.cons.1 h).1⟩
theorem InB.cons {r : Bd} {rs : List Bd} {x y : Int} : InB (r :: rs) x y ↔ (r.1 ≤ y ∧ y < r.2.1 ∧ InR r.2.2 x) ∨ InB rs x y := by simp [InB]
theorem CanB.low {r : Bd} {rs : List Bd} (h : CanB (r :: rs)) {x y : Int} (hi : InB (r :: rs) x y) : r.1 ≤ y := by
  obtain ⟨h1, h2, _⟩ := CanB.cons.1 h
  rcases InB.cons.1 hi with g | ⟨s, hs, g, _⟩
  · exact g.1
  · have := (h2 s hs).1; omega
theorem CanB.head {r : Bd} {rs : List Bd} (h : CanB (r :: rs)) {x y : Int} (h1 : r.1 ≤ y) (h2 : y < r.2.1) : InB (r :: rs) x y ↔ InR r.2.2 x := by
  rw [InB.cons]
  constructor
  · rintro (g | ⟨s, hs, g, _⟩)
    · exact g.2.2
    · have := ((CanB.cons.1 h).2.1 s hs).1; omega
  · exact fun g => .inl ⟨h1, h2, g⟩
theorem CanB.tail_ge {r : Bd} {rs : List Bd} (h : CanB (r :: rs)) {x y : Int} (hi : InB rs x y) : r.2.1 ≤ y := by
  obtain ⟨s, hs, g, _⟩ := hi
  have := ((CanB.cons.1 h).2.1 s hs).1
  omega
/-- A band does not end earlier than the other's. -/
theorem CanB.ends {r s : Bd} {a b : List Bd} (ha : CanB (r :: a)) (hb : CanB (s :: b)) (h : ∀ x y, InB (r :: a) x y ↔ InB (s :: b) x y) (e1 : r.1 = s.1) (e2 : r.2.2 = s.2.2) (hlt : r.2.1 < s.2.1) : False := by
  obtain ⟨⟨r1, r2, r3⟩, r4, r5⟩ := CanB.cons.1 ha
  have hat : ∀ x, InB a x r.2.1 ↔ InR r.2.2 x := fun x => by
    have := (h x r.2.1).trans (hb.head (x := x) (y := r.2.1) (by omega) hlt)
    rw [InB.cons] at this
    constructor
    · intro g; rw [e2]; exact this.1 (.inr g)
    · intro g
      rw [e2] at g
      rcases this.2 g with k | k
      · omega
      · exact k
  obtain ⟨x0, hx0⟩ := can_pt r3 r2
  cases a with
  | nil => obtain ⟨t, ht, _⟩ := (hat x0).2 hx0; simp at ht
  | cons t a =>
    have ht := r4 t (by simp)
    have hlow := r5.low ((hat x0).2 hx0)
    have et : r.2.1 = t.1 := by omega
    have ht1 := ((CanB.cons.1 r5).1).1
    refine ht.2 et (can_uniq r3 (CanB.cons.1 r5).1.2.2 fun x => ?_)
    rw [← hat x]
    exact r5.head (by omega) (by omega)
theorem canb_uniq : ∀ {a b : List Bd}, CanB a → CanB b → (∀ x y, InB a x y ↔ InB b x y) → a = b
  | [], [], _, _, _ => rfl
  | [], s :: b, _, hb, h => by
    obtain ⟨⟨h1, h2, h3⟩, _⟩ := CanB.cons.1 hb
    obtain ⟨x, hx⟩ := can_pt h3 h2
    obtain ⟨t, ht, _⟩ := (h x s.1).2 (InB.cons.2 (.inl ⟨Int.le_refl _, h1, hx⟩))
    simp at ht
  | r :: a, [], ha, _, h => by
    obtain ⟨⟨h1, h2, h3⟩, _⟩ := CanB.cons.1 ha
    obtain ⟨x, hx⟩ := can_pt h3 h2
    obtain ⟨t, ht, _⟩ := (h x r.1).1 (InB.cons.2 (.inl ⟨Int.le_refl _, h1, hx⟩))
    simp at ht
  | r :: a, s :: b, ha, hb, h => by
    obtain ⟨⟨r1, r2, r3⟩, r4, r5⟩ := CanB.cons.1 ha
    obtain ⟨⟨s1, s2, s3⟩, s4, s5⟩ := CanB.cons.1 hb
    obtain ⟨xr, hxr⟩ := can_pt r3 r2
    obtain ⟨xs, hxs⟩ := can_pt s3 s2
    have e1 : r.1 = s.1 := by
      have g1 := hb.low ((h xr r.1).1 (InB.cons.2 (.inl ⟨Int.le_refl _, r1, hxr⟩)))
      have g2 := ha.low ((h xs s.1).2 (InB.cons.2 (.inl ⟨Int.le_refl _, s1, hxs⟩)))
      omega
    have e2 : r.2.2 = s.2.2 := can_uniq r3 s3 fun x => by
      rw [← ha.head (x := x) (y := r.1) (Int.le_refl _) r1, h x r.1, hb.head (by omega) (by omega)]
    have e3 : r.2.1 = s.2.1 := by
      rcases Int.lt_trichotomy r.2.1 s.2.1 with g | g | g
      · exact (ha.ends hb h e1 e2 g).elim
      · exact g
      · exact (hb.ends ha (fun x y => (h x y).symm) e1.symm e2.symm g).elim
    have e : r = s := Prod.ext e1 (Prod.ext e3 e2)
    subst e
    rw [canb_uniq r5 s5 fun x y => ?_]
    constructor
    · intro g
      rcases InB.cons.1 ((h x y).1 (InB.cons.2 (.inr g))) with k | k
      · have := ha.tail_ge g; omega
      · exact k
    · intro g
      rcases InB.cons.1 ((h x y).2 (InB.cons.2 (.inr g))) with k | k
      · have := hb.tail_ge g; omega
      · exact k
end Go.Proofs.YtidcajmbkbamcaaGreat
end

/-! Regions, in plain words: the program's bands are canonical, and their points are those of the rectangles; putting a canonical region in order changes nothing. No program in sight; conditions: as each lemma states them. -/
section
namespace Go.Proofs.YtidcajmbkbamcaaGreat
open Go Go.Ab Go.RowKit
set_option linter.unusedSimpArgs false
set_option linter.unusedVariables false
set_option linter.unnecessarySimpa false


theorem canB_app {a b : List Bd} : CanB (a ++ b) ↔ CanB a ∧ CanB b ∧ ∀ r ∈ a, ∀ s ∈ b, r.2.1 ≤ s.1 ∧ (r.2.1 = s.1 → r.2.2 ≠ s.2.2) := by
  unfold CanB
  rw [List.pairwise_append]
  constructor
  · rintro ⟨h1, h2, h3, h4⟩
    exact ⟨⟨fun r hr => h1 r (by simp [hr]), h2⟩, ⟨fun r hr => h1 r (by simp [hr]), h3⟩, h4⟩
  · rintro ⟨⟨h1, h2⟩, ⟨h3, h4⟩, h5⟩
    exact ⟨fun r hr => (List.mem_append.1 hr).elim (h1 r) (h3 r), h2, h4, h5⟩
theorem canB_one {r : Bd} : CanB [r] ↔ r.1 < r.2.1 ∧ r.2.2 ≠ [] ∧ Can r.2.2 := by
  rw [CanB.cons]; simp [CanB]
theorem inB_app {a b : List Bd} {x y : Int} : InB (a ++ b) x y ↔ InB a x y ∨ InB b x y := by
  simp only [InB, List.mem_append]
  constructor
  · rintro ⟨r, h | h, h2⟩
    · exact .inl ⟨r, h, h2⟩
    · exact .inr ⟨r, h, h2⟩
  · rintro (⟨r, h, h2⟩ | ⟨r, h, h2⟩)
    · exact ⟨r, .inl h, h2⟩
    · exact ⟨r, .inr h, h2⟩
theorem inB_one {r : Bd} {x y : Int} : InB [r] x y ↔ r.1 ≤ y ∧ y < r.2.1 ∧ InR r.2.2 x := by simp [InB]
theorem bstep_can {f : Int → List Rn} {o : List Bd} {c : Rn} (hf : Can (f c.1)) (h : CanB o) (hc : c.1 < c.2) (hs : ∀ l ∈ o, l.2.1 ≤ c.1) : CanB (bstep f o c) ∧ (∀ x y, InB (bstep f o c) x y ↔ InB o x y ∨ (c.1 ≤ y ∧ y < c.2 ∧ InR (f c.1) x)) ∧ ∀ l ∈ bstep f o c, l.2.1 ≤ c.2 := by
  by_cases he : f c.1 = []
  · rw [bstep_no he, he]
    exact ⟨h, fun x y => by simp [inR_nil], fun l hl => by have := hs l hl; omega⟩
  · have hone : CanB [((c.1, c.2, f c.1) : Bd)] := canB_one.2 ⟨hc, he, hf⟩
    rcases list_snoc o with rfl | ⟨o, l, rfl⟩
    · rw [bstep_nil he]
      exact ⟨hone, fun x y => by rw [inB_one]; simp [InB], by simp⟩
    · obtain ⟨h1, h2, h3⟩ := canB_app.1 h
      obtain ⟨l1, l2, l3⟩ := canB_one.1 h2
      have hl := hs l (by simp)
      by_cases e : l.2.1 = c.1 ∧ l.2.2 = f c.1
      · rw [bstep_in he e.1 e.2]
        refine ⟨canB_app.2 ⟨h1, canB_one.2 ⟨by simp only; omega, l2, l3⟩, fun a ha b hb => ?_⟩, fun x y => ?_, fun a ha => ?_⟩
        · rw [List.mem_singleton.1 hb]; exact h3 a ha l (by simp)
        · rw [inB_app, inB_app, inB_one, inB_one, ← e.2]
          simp only
          constructor
          · rintro (g | ⟨g1, g2, g3⟩)
            · exact .inl (.inl g)
            · by_cases g4 : y < l.2.1
              · exact .inl (.inr ⟨g1, g4, g3⟩)
              · exact .inr ⟨by omega, g2, g3⟩
          · rintro ((g | ⟨g1, g2, g3⟩) | ⟨g1, g2, g3⟩)
            · exact .inl g
            · exact .inr ⟨g1, by omega, g3⟩
            · exact .inr ⟨by omega, g2, g3⟩
        · rcases List.mem_append.1 ha with ha | ha
          · have := hs a (by simp [ha]); omega
          · rw [List.mem_singleton.1 ha]; exact Int.le_refl _
      · rw [bstep_out he e]
        refine ⟨canB_app.2 ⟨h, hone, fun a ha b hb => ?_⟩, fun x y => by rw [inB_app, inB_one], fun a ha => ?_⟩
        · rw [List.mem_singleton.1 hb]
          rcases List.mem_append.1 ha with ha | ha
          · have := (h3 a ha l (by simp)).1
            exact ⟨by simp only; omega, fun g => by simp only at g; omega⟩
          · rw [List.mem_singleton.1 ha]
            exact ⟨hl, fun g g2 => e ⟨g, g2⟩⟩
        · rcases List.mem_append.1 ha with ha | ha
          · have := hs a ha; omega
          · rw [List.mem_singleton.1 ha]; exact Int.le_refl _
theorem bfold_can {f : Int → List Rn} (hf : ∀ y, Can (f y)) : ∀ (l : List Rn) (o : List Bd), CanB o → (∀ p ∈ l, p.1 < p.2) → l.Pairwise (fun a b => a.2 ≤ b.1) → (∀ a ∈ o, ∀ p ∈ l, a.2.1 ≤ p.1) →
    CanB (l.foldl (bstep f) o) ∧ ∀ x y, InB (l.foldl (bstep f) o) x y ↔ InB o x y ∨ ∃ p ∈ l, p.1 ≤ y ∧ y < p.2 ∧ InR (f p.1) x
  | [], o, h, _, _, _ => ⟨h, fun x y => by simp⟩
  | c :: l, o, h, h1, h2, h3 => by
    obtain ⟨h4, h5⟩ := List.pairwise_cons.1 h2
    obtain ⟨g1, g2, g3⟩ := bstep_can (hf c.1) h (h1 c (by simp)) fun a ha => h3 a ha c (by simp)
    obtain ⟨k1, k2⟩ := bfold_can hf l _ g1 (fun s hs => h1 s (by simp [hs])) h5 fun a ha s hs => Int.le_trans (g3 a ha) (h4 s hs)
    refine ⟨k1, fun x y => ?_⟩
    rw [List.foldl_cons, k2, g2, or_assoc]
    simp
/-- The points of a list of rectangles. -/
def inn (r : R) (x y : Int) : Bool := (decide (r.x0 ≤ x) && decide (x < r.x1)) && (decide (r.y0 ≤ y) && decide (y < r.y1))
theorem inn_iff {r : R} {x y : Int} : inn r x y = true ↔ (r.x0 ≤ x ∧ x < r.x1) ∧ (r.y0 ≤ y ∧ y < r.y1) := by simp [inn]
def ptF (l : List R) (x y : Int) : Bool := l.any fun r => inn r x y
theorem ptF_iff {l : List R} {x y : Int} : ptF l x y = true ↔ ∃ r ∈ l, (r.x0 ≤ x ∧ x < r.x1) ∧ (r.y0 ≤ y ∧ y < r.y1) := by simp [ptF, inn]
theorem row_pt {l : List R} (hc : ∀ r ∈ l, rempty r = false) (x y : Int) : cvF (sumF (rsF l y)) x = ptF l x y := by
  have h1 : ∀ r ∈ rsF l y, r.1 < r.2 := fun r hr => (rsF_ok hc r hr).1
  have : cvF (sumF (rsF l y)) x = true ↔ ptF l x y = true := by
    rw [cvF_iff, sumF_in h1, ptF_iff]
    constructor
    · rintro ⟨r, hr, g⟩
      obtain ⟨s, hs, rfl⟩ := List.mem_map.1 hr
      obtain ⟨hs1, hs2⟩ := List.mem_filter.1 hs
      simp at hs2
      exact ⟨s, hs1, g, hs2⟩
    · rintro ⟨s, hs, g1, g2⟩
      exact ⟨(s.x0, s.x1), List.mem_map.2 ⟨s, List.mem_filter.2 ⟨hs, by simp [g2]⟩, rfl⟩, g1⟩
  cases e1 : cvF (sumF (rsF l y)) x <;> cases e2 : ptF l x y <;> simp_all
theorem bands_can {kf : Bool → Bool → Bool} (h0 : kf false false = false) (la lb : List R) : CanB (bandsF kf la lb) ∧ ∀ x y, InB (bandsF kf la lb) x y ↔ kf (ptF (cl la) x y) (ptF (cl lb) x y) = true := by
  have hr := ysF_rising (cl la ++ cl lb)
  obtain ⟨p1, p2⟩ := pairs_lt _ hr
  have hf : ∀ y, Can (rowF kf (cl la) (cl lb) y) := fun y => by unfold rowF combF; exact kept_can (xsF_rising _)
  obtain ⟨k1, k2⟩ := bfold_can hf (pairs (ysF (cl la ++ cl lb))) [] ⟨by simp, .nil⟩ p1 p2 (by simp)
  have hca := cl_ok la
  have hcb := cl_ok lb
  have hrow : ∀ x y, InR (rowF kf (cl la) (cl lb) y) x ↔ kf (ptF (cl la) x y) (ptF (cl lb) x y) = true := by
    intro x y
    have h1 := fun (l : List R) (hc : ∀ r ∈ l, rempty r = false) => sumF_can (l := rsF l y) fun r hr => (rsF_ok hc r hr).1
    unfold rowF
    rw [combF_in h0 _ _ (h1 _ hca).1 (h1 _ hcb).1, row_pt hca, row_pt hcb]
  have cut : ∀ p ∈ pairs (ysF (cl la ++ cl lb)), ∀ x y, p.1 ≤ y → y < p.2 → ptF (cl la) x p.1 = ptF (cl la) x y ∧ ptF (cl lb) x p.1 = ptF (cl lb) x y := by
    intro p hp x y g1 g2
    have key : ∀ l : List R, (∀ r ∈ l, r ∈ cl la ++ cl lb) → ptF l x p.1 = ptF l x y := by
      intro l hl
      unfold ptF
      refine any_eq fun r hr' => ?_
      have m1 : r.y0 ∈ ysF (cl la ++ cl lb) := mem_ysF.2 ⟨r, hl r hr', .inl rfl⟩
      have m2 : r.y1 ∈ ysF (cl la ++ cl lb) := mem_ysF.2 ⟨r, hl r hr', .inr rfl⟩
      have c1 := pairs_cut hr hp g1 g2 m1
      have c2 := pairs_cut hr hp g1 g2 m2
      unfold inn
      congr 2
      · exact decide_eq_decide.2 c1.symm
      · exact decide_eq_decide.2 ⟨fun h => by omega, fun h => by omega⟩
    exact ⟨key _ fun r hr' => List.mem_append_left _ hr', key _ fun r hr' => List.mem_append_right _ hr'⟩
  refine ⟨k1, fun x y => ?_⟩
  refine (k2 x y).trans ?_
  constructor
  · rintro (⟨b, hb, _⟩ | ⟨p, hp, g1, g2, g3⟩)
    · simp at hb
    · obtain ⟨c1, c2⟩ := cut p hp x y g1 g2
      rw [hrow, c1, c2] at g3
      exact g3
  · intro hk
    have hex : ∃ r ∈ cl la ++ cl lb, r.y0 ≤ y ∧ y < r.y1 := by
      cases e1 : ptF (cl la) x y with
      | true =>
        obtain ⟨r, hr', g⟩ := ptF_iff.1 e1
        exact ⟨r, List.mem_append_left _ hr', g.2⟩
      | false =>
        cases e2 : ptF (cl lb) x y with
        | true =>
          obtain ⟨r, hr', g⟩ := ptF_iff.1 e2
          exact ⟨r, List.mem_append_right _ hr', g.2⟩
        | false => rw [e1, e2, h0] at hk; cases hk
    obtain ⟨r, hr', g1, g2⟩ := hex
    obtain ⟨p, hp, q1, q2⟩ := pairs_cover hr (mem_ysF.2 ⟨r, hr', .inl rfl⟩) (mem_ysF.2 ⟨r, hr', .inr rfl⟩) g1 g2
    obtain ⟨c1, c2⟩ := cut p hp x y q1 q2
    exact .inr ⟨p, hp, q1, q2, by rw [hrow, c1, c2]; exact hk⟩
end Go.Proofs.YtidcajmbkbamcaaGreat
end

/-! Regions, in plain words: a canonical region put in order is itself; its area is the sum of the areas of any rectangles that lie apart and have its points. No program in sight; conditions: as each lemma states them. -/
section
namespace Go.Proofs.YtidcajmbkbamcaaGreat
open Go Go.Ab Go.RowKit
set_option linter.unusedSimpArgs false
set_option linter.unusedVariables false
set_option linter.unnecessarySimpa false


theorem rectsF_mem {bs : List Bd} {r : R} : r ∈ rectsF bs ↔ ∃ b ∈ bs, ∃ s ∈ b.2.2, r = mkR b.1 b.2.1 s := by
  simp only [rectsF, List.mem_flatMap, List.mem_map]
  constructor
  · rintro ⟨b, hb, s, hs, rfl⟩; exact ⟨b, hb, s, hs, rfl⟩
  · rintro ⟨b, hb, s, hs, rfl⟩; exact ⟨b, hb, s, hs, rfl⟩
theorem pt_rects {bs : List Bd} {x y : Int} : ptF (rectsF bs) x y = true ↔ InB bs x y := by
  rw [ptF_iff]
  constructor
  · rintro ⟨r, hr, g1, g2⟩
    obtain ⟨b, hb, s, hs, rfl⟩ := rectsF_mem.1 hr
    exact ⟨b, hb, g2.1, g2.2, s, hs, g1⟩
  · rintro ⟨b, hb, g1, g2, s, hs, g3⟩
    exact ⟨_, rectsF_mem.2 ⟨b, hb, s, hs, rfl⟩, g3, g1, g2⟩
theorem rects_clean {bs : List Bd} (h : CanB bs) (hr : ∀ x y, InB bs x y → (-16384 ≤ x ∧ x < 16384) ∧ (-16384 ≤ y ∧ y < 16384)) : ∀ r ∈ rectsF bs, rempty r = false := by
  intro r hr'
  obtain ⟨b, hb, s, hs, rfl⟩ := rectsF_mem.1 hr'
  obtain ⟨h1, _, h2⟩ := h.1 b hb
  have h3 := h2.1 s hs
  have p1 := hr s.1 b.1 ⟨b, hb, Int.le_refl _, h1, s, hs, Int.le_refl _, h3⟩
  have p2 := hr (s.2 - 1) (b.2.1 - 1) ⟨b, hb, by omega, by omega, s, hs, by omega, by omega⟩
  exact rempty_of _ (by simp only [mkR]; omega)
theorem cl_self {l : List R} (h : ∀ r ∈ l, rempty r = false) : cl l = l := List.filter_eq_self.2 fun r hr => by simp [h r hr]
theorem bool_eq {a b : Bool} (h : a = true ↔ b = true) : a = b := by cases a <;> cases b <;> simp_all
theorem canon_can (l : List R) : CanB (bandsF orF l []) := (bands_can rfl l []).1
theorem canon_inB (l : List R) (x y : Int) : InB (bandsF orF l []) x y ↔ ptF (cl l) x y = true := by
  rw [(bands_can rfl l []).2]
  simp [cl, ptF]
theorem canon_pts (l : List R) (x y : Int) : ptF (canonF l) x y = ptF (cl l) x y := bool_eq (pt_rects.trans (canon_inB l x y))
theorem pt_rng {l : List R} (hc : ∀ r ∈ l, rempty r = false) {x y : Int} (h : ptF l x y = true) : (-16384 ≤ x ∧ x < 16384) ∧ (-16384 ≤ y ∧ y < 16384) := by
  obtain ⟨r, hr, g1, g2⟩ := ptF_iff.1 h
  have := rempty_ok r (hc r hr)
  omega
theorem canon_clean (l : List R) : ∀ r ∈ canonF l, rempty r = false := rects_clean (canon_can l) fun x y h => pt_rng (cl_ok l) ((canon_inB l x y).1 h)
theorem canon_idem (l : List R) : canonF (canonF l) = canonF l := by
  have e : bandsF orF (canonF l) [] = bandsF orF l [] := canb_uniq (canon_can _) (canon_can _) fun x y => by
    rw [canon_inB, canon_inB, cl_self (canon_clean l), canon_pts]
  show rectsF (bandsF orF (canonF l) []) = rectsF (bandsF orF l [])
  rw [e]

/-! ### Areas: counts of points -/
def ran : List Int := (List.range 32768).map fun i : Nat => (i : Int) - 16384
theorem cnt_range (a b : Nat) : ∀ n, (List.range n).countP (fun i => decide (a ≤ i) && decide (i < b)) = min b n - min a n := by
  intro n
  induction n with
  | zero => simp
  | succ n ih =>
    rw [List.range_succ, List.countP_append, ih]
    by_cases h : a ≤ n ∧ n < b
    · simp [h]; omega
    · have : (decide (a ≤ n) && decide (n < b)) = false := by simpa using h
      simp [this]; omega
theorem cnt_iv {a b : Int} (h1 : -16384 ≤ a) (h2 : a ≤ b) (h3 : b ≤ 16384) : ran.countP (fun x => decide (a ≤ x) && decide (x < b)) = (b - a).toNat := by
  unfold ran
  rw [List.countP_map]
  have e : ((fun x : Int => decide (a ≤ x) && decide (x < b)) ∘ fun i : Nat => (i : Int) - 16384) = fun i : Nat => decide ((a + 16384).toNat ≤ i) && decide (i < (b + 16384).toNat) := by
    funext i
    simp only [Function.comp]
    congr 1
    · exact decide_eq_decide.2 ⟨fun h => by omega, fun h => by omega⟩
    · exact decide_eq_decide.2 ⟨fun h => by omega, fun h => by omega⟩
  rw [e, cnt_range]
  omega
def cnt (p : Int → Int → Bool) : Nat := (ran.map fun y => ran.countP fun x => p x y).sum
theorem sum_add {α : Type} (f g : α → Nat) : ∀ l : List α, (l.map fun y => f y + g y).sum = (l.map f).sum + (l.map g).sum
  | [] => rfl
  | a :: l => by simp only [List.map_cons, List.sum_cons]; rw [sum_add f g l]; omega
theorem countP_or2 {α : Type} {p q : α → Bool} (h : ∀ x, ¬ (p x = true ∧ q x = true)) : ∀ l : List α, l.countP (fun x => p x || q x) = l.countP p + l.countP q
  | [] => rfl
  | a :: l => by
    have := h a
    rw [List.countP_cons, List.countP_cons, List.countP_cons, countP_or2 h l]
    cases e1 : p a <;> cases e2 : q a <;> simp_all <;> omega
theorem cnt_or' {p q : Int → Int → Bool} (h : ∀ x y, ¬ (p x y = true ∧ q x y = true)) (l l2 : List Int) : (l.map fun y => l2.countP fun x => p x y || q x y).sum = (l.map fun y => l2.countP fun x => p x y).sum + (l.map fun y => l2.countP fun x => q x y).sum := by
  rw [← sum_add]
  have e : (fun y => l2.countP fun x => p x y || q x y) = fun y => (l2.countP fun x => p x y) + l2.countP fun x => q x y := by
    funext y
    exact countP_or2 (fun x => h x y) l2
  rw [e]
theorem cnt_or {p q : Int → Int → Bool} (h : ∀ x y, ¬ (p x y = true ∧ q x y = true)) : cnt (fun x y => p x y || q x y) = cnt p + cnt q := cnt_or' h ran ran
theorem sum_if {α : Type} (p : α → Bool) (c : Nat) : ∀ l : List α, (l.map fun y => if p y = true then c else 0).sum = c * l.countP p
  | [] => by simp
  | a :: l => by
    rw [List.map_cons, List.sum_cons, sum_if p c l, List.countP_cons]
    cases p a <;> simp [Nat.mul_add]; omega
theorem cnt_rect {r : R} (h : rempty r = false) : cnt (inn r) = (r.x1 - r.x0).toNat * (r.y1 - r.y0).toNat := by
  have hr := rempty_ok r h
  unfold cnt
  have e : (fun y => ran.countP fun x => inn r x y) = fun y => if (decide (r.y0 ≤ y) && decide (y < r.y1)) = true then (r.x1 - r.x0).toNat else 0 := by
    funext y
    cases hy : (decide (r.y0 ≤ y) && decide (y < r.y1)) with
    | true =>
      have : (fun x => inn r x y) = fun x => decide (r.x0 ≤ x) && decide (x < r.x1) := by funext x; unfold inn; rw [hy, Bool.and_true]
      rw [this, cnt_iv (by omega) (by omega) (by omega)]; rfl
    | false =>
      have : (fun x => inn r x y) = fun _ => false := by funext x; unfold inn; rw [hy, Bool.and_false]
      rw [this]; simp
  rw [e, sum_if, cnt_iv (by omega) (by omega) (by omega)]
def areaR (r : R) : Int := (r.x1 - r.x0) * (r.y1 - r.y0)
def areaF (l : List R) : Int := (l.map areaR).sum
def Apart (a b : R) : Prop := ∀ x y, ¬ (inn a x y = true ∧ inn b x y = true)
theorem area_cnt : ∀ {l : List R}, (∀ r ∈ l, rempty r = false) → l.Pairwise Apart → areaF l = (cnt (ptF l) : Int)
  | [], _, _ => by
    have : cnt (ptF []) = 0 := by
      unfold cnt
      have e : (fun y => ran.countP fun x => ptF [] x y) = fun _ : Int => 0 := by funext y; simp [ptF]
      rw [e]
      generalize ran = l
      induction l with
      | nil => rfl
      | cons a l ih => simpa using ih
    rw [this]; rfl
  | r :: l, hc, hd => by
    obtain ⟨h1, h2⟩ := List.pairwise_cons.1 hd
    have ih := area_cnt (l := l) (fun s hs => hc s (by simp [hs])) h2
    have e : ptF (r :: l) = fun x y => inn r x y || ptF l x y := by funext x y; simp [ptF]
    have hr := rempty_ok r (hc r (by simp))
    have hdis : ∀ x y, ¬ (inn r x y = true ∧ ptF l x y = true) := by
      rintro x y ⟨g1, g2⟩
      simp only [ptF, List.any_eq_true] at g2
      obtain ⟨s, hs, g2⟩ := g2
      exact h1 s hs x y ⟨g1, g2⟩
    rw [e, cnt_or hdis, cnt_rect (hc r (by simp))]
    · have e2 : areaF (r :: l) = areaR r + areaF l := by simp [areaF]
      rw [e2, ih]
      have e3 : (((r.x1 - r.x0).toNat * (r.y1 - r.y0).toNat : Nat) : Int) = areaR r := by
        rw [Int.natCast_mul, Int.toNat_of_nonneg (by omega), Int.toNat_of_nonneg (by omega)]; rfl
      rw [Int.natCast_add, e3]
theorem rects_apart : ∀ {bs : List Bd}, CanB bs → (rectsF bs).Pairwise Apart
  | [], _ => .nil
  | b :: bs, h => by
    obtain ⟨⟨h1, _, h2⟩, h3, h4⟩ := CanB.cons.1 h
    have e : rectsF (b :: bs) = b.2.2.map (mkR b.1 b.2.1) ++ rectsF bs := rfl
    rw [e, List.pairwise_append]
    refine ⟨?_, rects_apart h4, fun r hr s hs x y ⟨g1, g2⟩ => ?_⟩
    · rw [List.pairwise_map]
      refine h2.2.imp fun {a c} hac x y ⟨g1, g2⟩ => ?_
      have k1 := (inn_iff.1 g1).1
      have k2 := (inn_iff.1 g2).1
      simp only [mkR] at k1 k2
      omega
    · obtain ⟨t, _, rfl⟩ := List.mem_map.1 hr
      obtain ⟨c, hc, u, _, rfl⟩ := rectsF_mem.1 hs
      have k1 := (inn_iff.1 g1).2
      have k2 := (inn_iff.1 g2).2
      have := (h3 c hc).1
      simp only [mkR] at k1 k2
      omega
theorem canon_area {l : List R} (hc : ∀ r ∈ l, rempty r = false) (hd : l.Pairwise Apart) : areaF (canonF l) = areaF l := by
  rw [area_cnt (canon_clean l) (rects_apart (canon_can l)), area_cnt hc hd]
  have e : ptF (canonF l) = ptF l := by funext x y; rw [canon_pts, cl_self hc]
  rw [e]
end Go.Proofs.YtidcajmbkbamcaaGreat
end

/-! The reference's questions about a region, walked: Same, IsCanonical, Area, Contains. Conditions: as each lemma states them. -/
section
namespace Go.Proofs.YtidcajmbkbamcaaGreat
open Go Go.Ab Go.RowKit
set_option linter.unusedSimpArgs false
set_option linter.unusedVariables false
set_option linter.unnecessarySimpa false

attribute [local simp] condK_true condK_false condK_not wpc_skip wpc_ret wpc_exit wpc_seq wpc_reg wpc_regD testA_bool wpc_cond wpc_block thenA_normal thenA_ret thenA_exit blockA_normal blockA_ret blockA_exit blockA_other endA_normal endA_ret ev_tmp' ev_const ev_func ev_global cv_int cv_bool cv_string cv_pointer cv_slice cv_agg cv_map put_some put_none wH_s setE_apply setE_env less_eq env_cons env_nil upd_upd upd_apply del_apply startA_eq cells_ag cells_sl one_sl cells_vs one_vs cells_ep one_ep cells_fn one_fn cells_int one_int cells_bool one_bool cells_string one_string cells_pointer one_pointer cells_slice one_slice cells_map one_map cells_agg resK_one resK_nil resK_two rvK_t rvK_c rvsK_nil rvsK_cons iseq_nil iseq_cons gdA_true gdA_false gdA_undef istep_free istep_guard istepV_free istepV_guard dseq_nil dseq_pu dseq_rd dseq_ef wpc_regT dtree_nil dtree_pu dtree_rd dtree_ef dtree_br chkAll_nil chkAll_cons andK_true pickK_true pickK_false pickK_tb pickK_fb bin2K_pl eqbK_eq eqbK_ne eqpK_eq eqpK_ne eqmK_eq eqmK_ne eqzK_eq eqzK_ne eqzK_sl eqzK_vs un1K_pl convK_int fillK_some fillA_cons fillA_nil cellsK_some needK_true needK_ok seeK_ep seeK_ptr oneK_agg oneK_one nilcK_ptr nilcK_ep fadrK_ptr fadrK_ep fldK_ag iadAK_ptr iadAK_ep iadSK_sl iadSK_vs extK_0 extK_1 extK_2 extK_3 lenK_pl lenK_sl lenK_vs lensK_pl boxK_some minmax1K_int storeK_ptr callvK_fn callvK_pl newsK_nil newsK_vs newsK_sl appK_nil appK_nil0 appK_sl appK_vs bnd1K_int bndK_none bndK_some slsK_vs slsK_nil slsK_sl0 slsK_sl slstrK_pl boolK_some eqsK_ag iop_eqs iop_sls iop_slstr seesK_some seesK_ro mapsK_some MAP_some findK_some findK_none plK_pl nmapK_none nmapK_some iop_mlook iop_mlen iop_mmk iop_mupd iop_mdel iop_mrng itK_none itK_some ptr0K_ptr iop_mnxt iop_ment it1K_some entK_some iop_mov iop_pick iop_bin iop_eqb iop_eqp iop_eqm iop_eqz iop_un capK_pl capK_sl capK_vs iop_cap apzK_nil iop_apz mksK_int iop_mks clrK_sl clrK_vs clrK_nil iop_clr iop_conv iop_build iop_load iop_nilc iop_fadr iop_fld iop_iadA iop_iadS iop_ext iop_mkf iop_len iop_lens iop_minmax iop_al iop_box iop_bsl iop_store iop_call iop_callv iop_app BIN_add BIN_sub BIN_mul BIN_and BIN_or BIN_xor BIN_andNot BIN_eql BIN_neq BIN_lss BIN_leq BIN_gtr BIN_geq BIN_quo BIN_rem BIN_shl BIN_shr BIN_sadd BIN_seql BIN_sneq BIN_slss BIN_sleq BIN_sgtr BIN_sgeq UN_neg UN_xor UN_not MM_nil MM_cons partsA argsA ptrA lessL eqL min2I slotN_int slotP_int slotI_int
attribute [local simp] rc_len rc_t4 rc_t1 rc_t2 rc_t3 rc_d1 rc_d2 rc_d3 rc_d4 rc_ag rc_one rc_eq

theorem c42 {H : AH} {K : AV → AH → Prop} {a b : AV} {l : List R} (ha : Rr H a l) (hb : Rr H b l) (hl : l.length ≤ 1000000) (hk : K (vb true) H) : @AC Tryz.prog 42 [a, b] H ⟨K⟩ := by
  have l1 := fun k => Rw.lenK ha (k := k)
  have l2 := fun k => Rw.lenK hb (k := k)
  refine AC_of (.forget ?_)
  refine call_c follows cf42_ok (by simp) ?_
  simp [l1, l2]
  refine wpc_loop (fun s => ∃ (i : Nat), s.n = 26 ∧ s.H = H ∧ s.t 0 = a ∧ s.t 1 = b ∧ s.t 5 = vi i ∧ i ≤ l.length) (fun s => l.length - slotN (s.t 5)) ?_ ?_
  · exact FgK.same ⟨0, by simp, by simp, by simp, by simp, by simp, by omega⟩
  rintro s ⟨i, hn, hH, e0, e1, e5, hi⟩
  by_cases hlt : i < l.length
  · have wr := IntWalk.i64_in ((i : Int) + 1) (by omega)
    obtain ⟨p, hp1, hp2⟩ := fsee rc_l ha hlt
    obtain ⟨q, hq1, hq2⟩ := fsee rc_l hb hlt
    generalize l[i] = x at *
    have hx : req x x = true := (req_iff x x).2 rfl
    simp (disch := omega) [hn, hH, e0, e1, e5, l1, hlt, hp1, hp2 _ (Sub.refl _), hq1, hq2 _ (Sub.refl _), hx, wr]
    exact FgK.same ⟨⟨i + 1, by simp, by simp [hH], by simp [e0], by simp [e1], by simp, by omega⟩, by simp [e5]; omega⟩
  · simp (disch := omega) [hn, hH, e0, e1, e5, l1, hlt]
    exact ⟨H, Sub.refl _, hk⟩
theorem c20 {H : AH} {K : AV → AH → Prop} {a : AV} {l : List R} (ha : Rr H a l) (hl : l.length ≤ 256) (hc : canonF l = l) (hk : K (vb true) H) : @AC Tryz.prog 20 [a] H ⟨K⟩ := by
  have l1 := fun k => Rw.lenK ha (k := k)
  have h' : (l.length : Int) ≤ 256 := by omega
  refine AC_of (.forget ?_)
  refine call_c follows cf20_ok (by simp) ?_
  simp [l1, h']
  refine c43 (lb := []) ha (Rw.nil _ _) (by omega) (by simp) fun out H' hro => ?_
  rw [kM1] at hro
  have hro : Row H H' out (flat rc (canonF l)) (canonF l).length 4 := hro
  rw [hc] at hro
  simp
  refine c42 (Rw.sub ha hro.sub) ((hro.rin (flat_len rc_l _)).rd) (by omega) ?_
  simp
  exact ⟨H, hro.sub, hk⟩
theorem areaF_snoc (l : List R) (r : R) : areaF (l ++ [r]) = areaF l + areaR r := by simp [areaF]
theorem areaR_rng {r : R} (h : rempty r = false) : 0 ≤ areaR r ∧ areaR r ≤ 1073741824 := by
  have := rempty_ok r h
  unfold areaR
  refine ⟨Int.mul_nonneg (by omega) (by omega), ?_⟩
  have h1 : (r.x1 - r.x0) * (r.y1 - r.y0) ≤ 32768 * 32768 := Int.mul_le_mul (by omega) (by omega) (by omega) (by omega)
  omega
theorem areaF_rng : ∀ {l : List R}, (∀ r ∈ l, rempty r = false) → 0 ≤ areaF l ∧ areaF l ≤ l.length * 1073741824
  | [], _ => by simp [areaF]
  | r :: l, h => by
    have h1 := areaR_rng (h r (by simp))
    have h2 := areaF_rng (l := l) fun s hs => h s (by simp [hs])
    have e : areaF (r :: l) = areaR r + areaF l := by simp [areaF]
    rw [e, List.length_cons]
    omega
theorem c21 {H : AH} {K : AV → AH → Prop} {a : AV} {l : List R} (ha : Rr H a l) (hl : l.length ≤ 100000) (hc : (canonF l).length ≤ 1000000) (hk : K (vi (areaF (canonF l))) H) : @AC Tryz.prog 21 [a] H ⟨K⟩ := by
  refine AC_of (.forget ?_)
  refine call_c follows cf21_ok (by simp) ?_
  simp
  refine c43 (lb := []) ha (Rw.nil _ _) (by omega) (by simp) fun out H' hro => ?_
  rw [kM1] at hro
  have hro : Row H H' out (flat rc (canonF l)) (canonF l).length 4 := hro
  have hr : Rr H' out (canonF l) := (hro.rin (flat_len rc_l _)).rd
  have hS := hro.sub
  have hcl := canon_clean l
  generalize canonF l = c at *
  have l1 := fun k => Rw.lenK hr (k := k)
  simp
  refine wpc_loop (fun s => ∃ (i : Nat), s.n = 40 ∧ s.H = H' ∧ s.t 3 = out ∧ s.t 4 = vi (areaF (c.take i)) ∧ s.t 5 = vi i ∧ i ≤ c.length) (fun s => c.length - slotN (s.t 5)) ?_ ?_
  · exact FgK.same ⟨0, by simp, by simp, by simp, by simp [areaF], by simp, by omega⟩
  rintro s ⟨i, hn, hH, e3, e4, e5, hi⟩
  by_cases hlt : i < c.length
  · have wr := IntWalk.i64_in ((i : Int) + 1) (by omega)
    obtain ⟨p, hp1, hp2, hpf⟩ := fat rc_l hr hlt
    have et : areaF (c.take (i + 1)) = areaF (c.take i) + areaR c[i] := by rw [take_snoc' hlt, areaF_snoc]
    have hx := rempty_ok _ (hcl c[i] (List.getElem_mem hlt))
    have ha1 := areaR_rng (hcl c[i] (List.getElem_mem hlt))
    have ha2 := areaF_rng (l := c.take i) fun r hr => hcl r (List.mem_of_mem_take hr)
    have htl : (c.take i).length ≤ i := by simp; omega
    generalize c[i] = x at *
    generalize areaF (c.take i) = A at *
    obtain ⟨q0, f0, g0⟩ := hpf 0 (vi x.x0) rfl
    obtain ⟨q1, f1, g1⟩ := hpf 1 (vi x.y0) rfl
    obtain ⟨q2, f2, g2⟩ := hpf 2 (vi x.x1) rfl
    obtain ⟨q3, f3, g3⟩ := hpf 3 (vi x.y1) rfl
    have w1 := IntWalk.i64_in (x.x1 - x.x0) (by omega)
    have w2 := IntWalk.i64_in (x.y1 - x.y0) (by omega)
    have w3 : IntKind.i64.wrap ((x.x1 - x.x0) * (x.y1 - x.y0)) = areaR x := IntWalk.i64_in (areaR x) (by omega)
    have w4 := IntWalk.i64_in (A + areaR x) (by omega)
    simp (disch := omega) [hn, hH, e3, e4, e5, l1, hlt, hp1, f0, g0 _ (Sub.refl _), f1, g1 _ (Sub.refl _), f2, g2 _ (Sub.refl _), f3, g3 _ (Sub.refl _), w1, w2, w3, w4, wr]
    exact FgK.same ⟨⟨i + 1, by simp, by simp, by simp, by simp [et], by simp, by omega⟩, by simp [e5]; omega⟩
  · rw [List.take_of_length_le (by omega)] at e4
    simp (disch := omega) [hn, hH, e3, e4, e5, l1, hlt]
    exact ⟨H, hS, hk⟩
end Go.Proofs.YtidcajmbkbamcaaGreat
end

/-! The reference's Contains, walked. Conditions: as each lemma states them. -/
section
namespace Go.Proofs.YtidcajmbkbamcaaGreat
open Go Go.Ab Go.RowKit
set_option linter.unusedSimpArgs false
set_option linter.unusedVariables false
set_option linter.unnecessarySimpa false

attribute [local simp] condK_true condK_false condK_not wpc_skip wpc_ret wpc_exit wpc_seq wpc_reg wpc_regD testA_bool wpc_cond wpc_block thenA_normal thenA_ret thenA_exit blockA_normal blockA_ret blockA_exit blockA_other endA_normal endA_ret ev_tmp' ev_const ev_func ev_global cv_int cv_bool cv_string cv_pointer cv_slice cv_agg cv_map put_some put_none wH_s setE_apply setE_env less_eq env_cons env_nil upd_upd upd_apply del_apply startA_eq cells_ag cells_sl one_sl cells_vs one_vs cells_ep one_ep cells_fn one_fn cells_int one_int cells_bool one_bool cells_string one_string cells_pointer one_pointer cells_slice one_slice cells_map one_map cells_agg resK_one resK_nil resK_two rvK_t rvK_c rvsK_nil rvsK_cons iseq_nil iseq_cons gdA_true gdA_false gdA_undef istep_free istep_guard istepV_free istepV_guard dseq_nil dseq_pu dseq_rd dseq_ef wpc_regT dtree_nil dtree_pu dtree_rd dtree_ef dtree_br chkAll_nil chkAll_cons andK_true pickK_true pickK_false pickK_tb pickK_fb bin2K_pl eqbK_eq eqbK_ne eqpK_eq eqpK_ne eqmK_eq eqmK_ne eqzK_eq eqzK_ne eqzK_sl eqzK_vs un1K_pl convK_int fillK_some fillA_cons fillA_nil cellsK_some needK_true needK_ok seeK_ep seeK_ptr oneK_agg oneK_one nilcK_ptr nilcK_ep fadrK_ptr fadrK_ep fldK_ag iadAK_ptr iadAK_ep iadSK_sl iadSK_vs extK_0 extK_1 extK_2 extK_3 lenK_pl lenK_sl lenK_vs lensK_pl boxK_some minmax1K_int storeK_ptr callvK_fn callvK_pl newsK_nil newsK_vs newsK_sl appK_nil appK_nil0 appK_sl appK_vs bnd1K_int bndK_none bndK_some slsK_vs slsK_nil slsK_sl0 slsK_sl slstrK_pl boolK_some eqsK_ag iop_eqs iop_sls iop_slstr seesK_some seesK_ro mapsK_some MAP_some findK_some findK_none plK_pl nmapK_none nmapK_some iop_mlook iop_mlen iop_mmk iop_mupd iop_mdel iop_mrng itK_none itK_some ptr0K_ptr iop_mnxt iop_ment it1K_some entK_some iop_mov iop_pick iop_bin iop_eqb iop_eqp iop_eqm iop_eqz iop_un capK_pl capK_sl capK_vs iop_cap apzK_nil iop_apz mksK_int iop_mks clrK_sl clrK_vs clrK_nil iop_clr iop_conv iop_build iop_load iop_nilc iop_fadr iop_fld iop_iadA iop_iadS iop_ext iop_mkf iop_len iop_lens iop_minmax iop_al iop_box iop_bsl iop_store iop_call iop_callv iop_app BIN_add BIN_sub BIN_mul BIN_and BIN_or BIN_xor BIN_andNot BIN_eql BIN_neq BIN_lss BIN_leq BIN_gtr BIN_geq BIN_quo BIN_rem BIN_shl BIN_shr BIN_sadd BIN_seql BIN_sneq BIN_slss BIN_sleq BIN_sgtr BIN_sgeq UN_neg UN_xor UN_not MM_nil MM_cons partsA argsA ptrA lessL eqL min2I slotN_int slotP_int slotI_int
attribute [local simp] rc_len rc_t4 rc_t1 rc_t2 rc_t3 rc_d1 rc_d2 rc_d3 rc_d4 rc_ag rc_one rc_eq

theorem ptF_snoc (l : List R) (r : R) (x y : Int) : ptF (cl (l ++ [r])) x y = (ptF (cl l) x y || (usF r && inn r x y)) := by
  rw [cl_push, usF_eq]
  cases rempty r <;> simp [ptF]
theorem ptF_mem {l : List R} {r : R} (h : r ∈ l) {x y : Int} (hu : usF r = true) (hi : inn r x y = true) : ptF (cl l) x y = true := by
  rw [usF_eq] at hu
  exact List.any_eq_true.2 ⟨r, List.mem_filter.2 ⟨h, by simpa using hu⟩, hi⟩
theorem c22 {H : AH} {K : AV → AH → Prop} {a : AV} {l : List R} {x y : Int} (ha : Rr H a l) (hl : l.length ≤ 1000000) (hk : K (vb (ptF (cl l) x y)) H) : @AC Tryz.prog 22 [a, vi x, vi y] H ⟨K⟩ := by
  have la := fun k => Rw.lenK ha (k := k)
  refine AC_of (.forget ?_)
  refine call_c follows cf22_ok (by simp) ?_
  simp
  refine wpc_loop (fun s => ∃ (i : Nat), s.n = 55 ∧ s.H = H ∧ s.t 0 = a ∧ s.t 1 = vi x ∧ s.t 2 = vi y ∧ s.t 7 = vi i ∧ i ≤ l.length ∧ ptF (cl (l.take i)) x y = false) (fun s => l.length - slotN (s.t 7)) ?_ ?_
  · exact FgK.same ⟨0, by simp, by simp, by simp, by simp, by simp, by simp, by omega, by simp [cl, ptF]⟩
  rintro s ⟨i, hn, hH, e0, e1, e2, e7, hi, hp⟩
  by_cases hlt : i < l.length
  · have wr := IntWalk.i64_in ((i : Int) + 1) (by omega)
    obtain ⟨p, hp1, hp2, hpf⟩ := fat rc_l ha hlt
    have et := ptF_snoc (l.take i) l[i] x y
    rw [← take_snoc' hlt, hp, Bool.false_or] at et
    have hall : usF l[i] = true → inn l[i] x y = true → ptF (cl l) x y = true := fun h1 h2 => ptF_mem (List.getElem_mem hlt) h1 h2
    generalize l[i] = r at *
    obtain ⟨q0, f0, g0⟩ := hpf 0 (vi r.x0) rfl
    obtain ⟨q1, f1, g1⟩ := hpf 1 (vi r.y0) rfl
    obtain ⟨q2, f2, g2⟩ := hpf 2 (vi r.x1) rfl
    obtain ⟨q3, f3, g3⟩ := hpf 3 (vi r.y1) rfl
    have fin : (usF r && inn r x y) = false → ∀ s1 : ASt, s1.n = 55 → s1.H = H → s1.t 0 = a → s1.t 1 = vi x → s1.t 2 = vi y → s1.t 7 = vi ((i : Int) + 1) → (∃ (i : Nat), s1.n = 55 ∧ s1.H = H ∧ s1.t 0 = a ∧ s1.t 1 = vi x ∧ s1.t 2 = vi y ∧ s1.t 7 = vi i ∧ i ≤ l.length ∧ ptF (cl (l.take i)) x y = false) ∧ l.length - slotN (s1.t 7) < l.length - slotN (s.t 7) :=
      fun h0 s1 h1 h2 h3 h4 h5 h6 => ⟨⟨i + 1, h1, h2, h3, h4, h5, by rw [h6]; simp, by omega, by rw [et, h0]⟩, by rw [h6, e7]; simp [slotN]; omega⟩
    simp (disch := omega) [hn, hH, e0, e1, e2, e7, la, hlt, hp1, hp2 _ (Sub.refl _)]
    refine (c44 _).ac ?_
    cases hu : usF r with
    | false =>
      simp (disch := omega) [e7, wr]
      exact FgK.same (fin (by rw [hu]; rfl) _ (by simp) (by simp [hH]) (by simp [e0]) (by simp [e1]) (by simp [e2]) (by simp))
    | true =>
      by_cases h1 : r.x0 ≤ x
      · by_cases h2 : x < r.x1
        · by_cases h3 : r.y0 ≤ y
          · by_cases h4 : y < r.y1
            · have := hall hu (inn_iff.2 ⟨⟨h1, h2⟩, h3, h4⟩)
              rw [this] at hk
              simp (disch := omega) [hH, e0, e1, e2, e7, hp1, f0, g0 _ (Sub.refl _), f1, g1 _ (Sub.refl _), f2, g2 _ (Sub.refl _), f3, g3 _ (Sub.refl _), h1, h2, h3, h4]
              exact ⟨H, Sub.refl _, hk⟩
            · simp (disch := omega) [hH, e0, e1, e2, e7, wr, hp1, f0, g0 _ (Sub.refl _), f1, g1 _ (Sub.refl _), f2, g2 _ (Sub.refl _), f3, g3 _ (Sub.refl _), h1, h2, h3, h4]
              exact FgK.same (fin (by simp [inn, h4]) _ (by simp) (by simp [hH]) (by simp [e0]) (by simp [e1]) (by simp [e2]) (by simp))
          · simp (disch := omega) [hH, e0, e1, e2, e7, wr, hp1, f0, g0 _ (Sub.refl _), f1, g1 _ (Sub.refl _), f2, g2 _ (Sub.refl _), h1, h2, h3]
            exact FgK.same (fin (by simp [inn, h3]) _ (by simp) (by simp [hH]) (by simp [e0]) (by simp [e1]) (by simp [e2]) (by simp))
        · simp (disch := omega) [hH, e0, e1, e2, e7, wr, hp1, f0, g0 _ (Sub.refl _), f2, g2 _ (Sub.refl _), h1, h2]
          exact FgK.same (fin (by simp [inn, h2]) _ (by simp) (by simp [hH]) (by simp [e0]) (by simp [e1]) (by simp [e2]) (by simp))
      · simp (disch := omega) [hH, e0, e1, e2, e7, wr, hp1, f0, g0 _ (Sub.refl _), h1]
        exact FgK.same (fin (by simp [inn, h1]) _ (by simp) (by simp [hH]) (by simp [e0]) (by simp [e1]) (by simp [e2]) (by simp))
  · rw [List.take_of_length_le (by omega)] at hp
    rw [hp] at hk
    simp (disch := omega) [hn, hH, e0, e1, e2, e7, la, hlt]
    exact ⟨H, Sub.refl _, hk⟩
end Go.Proofs.YtidcajmbkbamcaaGreat
end

/-! Layout's Region, of the program and of the reference; Outputs of the reference; the law's rects. Conditions: as each lemma states them. -/
section
namespace Go.Proofs.YtidcajmbkbamcaaGreat
open Go Go.Ab Go.RowKit
set_option linter.unusedSimpArgs false
set_option linter.unusedVariables false
set_option linter.unnecessarySimpa false

attribute [local simp] condK_true condK_false condK_not wpc_skip wpc_ret wpc_exit wpc_seq wpc_reg wpc_regD testA_bool wpc_cond wpc_block thenA_normal thenA_ret thenA_exit blockA_normal blockA_ret blockA_exit blockA_other endA_normal endA_ret ev_tmp' ev_const ev_func ev_global cv_int cv_bool cv_string cv_pointer cv_slice cv_agg cv_map put_some put_none wH_s setE_apply setE_env less_eq env_cons env_nil upd_upd upd_apply del_apply startA_eq cells_ag cells_sl one_sl cells_vs one_vs cells_ep one_ep cells_fn one_fn cells_int one_int cells_bool one_bool cells_string one_string cells_pointer one_pointer cells_slice one_slice cells_map one_map cells_agg resK_one resK_nil resK_two rvK_t rvK_c rvsK_nil rvsK_cons iseq_nil iseq_cons gdA_true gdA_false gdA_undef istep_free istep_guard istepV_free istepV_guard dseq_nil dseq_pu dseq_rd dseq_ef wpc_regT dtree_nil dtree_pu dtree_rd dtree_ef dtree_br chkAll_nil chkAll_cons andK_true pickK_true pickK_false pickK_tb pickK_fb bin2K_pl eqbK_eq eqbK_ne eqpK_eq eqpK_ne eqmK_eq eqmK_ne eqzK_eq eqzK_ne eqzK_sl eqzK_vs un1K_pl convK_int fillK_some fillA_cons fillA_nil cellsK_some needK_true needK_ok seeK_ep seeK_ptr oneK_agg oneK_one nilcK_ptr nilcK_ep fadrK_ptr fadrK_ep fldK_ag iadAK_ptr iadAK_ep iadSK_sl iadSK_vs extK_0 extK_1 extK_2 extK_3 lenK_pl lenK_sl lenK_vs lensK_pl boxK_some minmax1K_int storeK_ptr callvK_fn callvK_pl newsK_nil newsK_vs newsK_sl appK_nil appK_nil0 appK_sl appK_vs bnd1K_int bndK_none bndK_some slsK_vs slsK_nil slsK_sl0 slsK_sl slstrK_pl boolK_some eqsK_ag iop_eqs iop_sls iop_slstr seesK_some seesK_ro mapsK_some MAP_some findK_some findK_none plK_pl nmapK_none nmapK_some iop_mlook iop_mlen iop_mmk iop_mupd iop_mdel iop_mrng itK_none itK_some ptr0K_ptr iop_mnxt iop_ment it1K_some entK_some iop_mov iop_pick iop_bin iop_eqb iop_eqp iop_eqm iop_eqz iop_un capK_pl capK_sl capK_vs iop_cap apzK_nil iop_apz mksK_int iop_mks clrK_sl clrK_vs clrK_nil iop_clr iop_conv iop_build iop_load iop_nilc iop_fadr iop_fld iop_iadA iop_iadS iop_ext iop_mkf iop_len iop_lens iop_minmax iop_al iop_box iop_bsl iop_store iop_call iop_callv iop_app BIN_add BIN_sub BIN_mul BIN_and BIN_or BIN_xor BIN_andNot BIN_eql BIN_neq BIN_lss BIN_leq BIN_gtr BIN_geq BIN_quo BIN_rem BIN_shl BIN_shr BIN_sadd BIN_seql BIN_sneq BIN_slss BIN_sleq BIN_sgtr BIN_sgeq UN_neg UN_xor UN_not MM_nil MM_cons partsA argsA ptrA lessL eqL min2I slotN_int slotP_int slotI_int
attribute [local simp] oc_len oc_tt oc_dd oc_one oc_ag oc_t1 oc_t2 oc_t3 oc_t4 oc_t5 oc_t6 oc_t7 oc_d1 oc_d2 oc_d3 oc_d4 oc_d5 oc_d6 oc_d7 rc_len rc_t4 rc_t1 rc_t2 rc_t3 rc_d1 rc_d2 rc_d3 rc_d4 rc_ag rc_one rc_eq

def regF (l : List R) : List R := if (canonF l).length ≤ 256 then canonF l else []
theorem regF_in {l : List R} (h : (canonF l).length ≤ 256) : regF l = canonF l := if_pos h
theorem regF_out {l : List R} (h : 256 < (canonF l).length) : regF l = [] := if_neg (by omega)
theorem regF_len (l : List R) : (regF l).length ≤ 256 := by
  unfold regF
  split
  · assumption
  · simp
theorem c13 {H : AH} {K : AV → AH → Prop} {p b : Nat} {m : List O} {st : List Nat} {cl : Nat} (h : LS H p b m st cl) (hm : m.length ≤ 100000)
    (hk : ∀ out H', Row H H' out (flat rc (regF (sareas m))) (regF (sareas m)).length 4 → K out H') : @AC Tryz.prog 13 [pA p] H ⟨K⟩ := by
  refine AC_of (.forget ?_)
  refine call_c follows cf13_ok (by simp) ?_
  simp
  refine c36 h (by omega) fun o1 H1 h1 => ?_
  have hsl : (sareas m).length = m.length := by unfold sareas; rw [List.length_map, souts_len]
  have hr : Rr H1 o1 (sareas m) := (h1.rin (flat_len rc_l _)).rd
  simp
  refine c35 hr (by omega) (fun hc out H' hro => ?_) fun hc => ?_
  · have oo := Rw.one (hro.rin (flat_len rc_l _)).rd
    have cc := Rw.cells (hro.rin (flat_len rc_l _)).rd
    rw [regF_in hc] at hk
    simp [oo, cc]
    obtain ⟨H0, z1, z2⟩ := Row.base h1.sub hro
    exact ⟨H0, z1, hk _ _ z2⟩
  · rw [regF_out hc] at hk
    simp
    exact ⟨H, h1.sub, hk _ _ (by simpa [flat_nil] using Row.nil H 4)⟩
theorem oc_all (L : List O) : (flat oc L).all AV.one = true := by
  induction L with
  | nil => rfl
  | cons o L ih => rw [show o :: L = [o] ++ L from rfl, flat_app, List.all_append, ih, flat_one]; rfl
theorem c11 {H : AH} {K : AV → AH → Prop} {x : AV} (L : List O) (hx : LR H x L) (hl : L.length ≤ 1000000)
    (hk : ∀ out H', Sub H H' → LR H' out L → K out H') : @AC Tryz.prog 11 [.ag [vb true, x]] H ⟨K⟩ := by
  have ox := hx.one
  refine call_c follows cf11_ok (by simp) ?_
  simp [ox]
  refine newK_of fun z hz => ?_
  have hS := (Sub.refl H).upd hz (o := .cells [vb true, x])
  have hzz : upd H z (.cells [vb true, x]) z = some (.cells [vb true, x]) := by simp [upd_apply]
  simp
  refine newK_of fun q hq => ?_
  have nqz := free_ne hq z (by simp [upd_apply])
  have hS3 := hS.trans ((Sub.refl _).upd hq (o := .cells []))
  have hnw : ∀ k : Nat → List AV → Prop, @NEWS (upd (upd H z (.cells [vb true, x])) q (.cells [])) x 8 ⟨k⟩ = k L.length (flat oc L) := fun k => Rw.news ((hx.sub hS3).rd)
  generalize hx8 : AV.sl q 0 0 8 true = x8
  simp [nqz, hnw]
  rw [← hx8]
  refine sl_app (H0 := upd H z (.cells [vb true, x])) (cs := []) hq (Sub.refl _) (oc_all L) (by simp) (by omega) fun r' H' hr' hsr => ?_
  simp
  refine hk _ _ ((hS.trans ((Sub.refl _).upd hr')).trans hsr) ⟨by rw [oc_flat_len], .inr ⟨r', false, by simp, hsr r' _ (by simp [upd_apply])⟩⟩
theorem c14 {H : AH} {K : AV → AH → Prop} {x : AV} (L : List O) (hx : LR H x L) (hl : L.length ≤ 100000)
    (hk : ∀ out H', Row H H' out (flat rc (regF (L.map lg))) (regF (L.map lg)).length 4 → K out H') : @AC Tryz.prog 14 [.ag [vb true, x]] H ⟨K⟩ := by
  refine AC_of (.forget ?_)
  have ox := hx.one
  refine call_c follows cf14_ok (by simp) ?_
  simp [ox]
  refine newK_of fun z hz => ?_
  have hS := (Sub.refl H).upd hz (o := .cells [vb true, x])
  have hzz : upd H z (.cells [vb true, x]) z = some (.cells [vb true, x]) := by simp [upd_apply]
  simp
  generalize upd H z (.cells [vb true, x]) = H2 at *
  have hx2 : Rw H2 x (flat oc L) L.length 8 := (hx.sub hS).rd
  have lx := fun k => Rw.lenK hx2 (k := k)
  refine wpc_loop (fun st => ∃ (i : Nat) (out : AV), st.n = 29 ∧ st.t 1 = pA z ∧ st.t 3 = out ∧ st.t 4 = vi i ∧ i ≤ L.length ∧ Row H2 st.H out (flat rc ((L.take i).map lg)) ((L.take i).map lg).length 4) (fun st => L.length - slotN (st.t 4)) ?_ ?_
  · exact FgK.same ⟨0, vnil, by simp, by simp, by simp, by simp, by omega, by simpa [flat_nil] using Row.nil H2 4⟩
  rintro st ⟨i, out, hn, e1, e3, e4, hi, hro⟩
  generalize hHeq : st.H = Hs at *
  have w := IntWalk.i64_in ((i : Int) + 1) (by omega)
  have hz3 := hro.sub.at hzz
  have htl : ((L.take i).map lg).length = i := by simp; omega
  by_cases hlt : i < L.length
  · obtain ⟨p, hp1, hp2⟩ := fsee (enc := oc) (k := 8) (fun _ => rfl) (Rw.sub hx2 hro.sub) hlt
    have et : (L.take (i + 1)).map lg = (L.take i).map lg ++ [lg L[i]] := by rw [take_snoc' hlt, List.map_append]; rfl
    generalize L[i] = o at *
    generalize (L.take i).map lg = rs at *
    simp (disch := omega) [hn, hHeq, e1, e3, e4, hz3, lx, hlt, hp1, hp2 _ (Sub.refl _)]
    refine (c16 o).ac ?_
    simp
    refine newK_of fun q hq => ?_
    have hS2 : Sub Hs (upd Hs q (.cells (rc (lg o)))) := (Sub.refl Hs).upd hq
    generalize hx4 : AV.sl q 0 1 4 true = x4
    have hnw : ∀ k : Nat → List AV → Prop, @NEWS (upd Hs q (.cells (rc (lg o)))) x4 4 ⟨k⟩ = k 1 (rc (lg o)) := by intro k; rw [← hx4]; simp
    simp [hnw]
    refine hro.app hS2 (by decide) (by simp) (flat_len rc_l _) (by omega) fun r H' hr hsr => ?_
    simp (disch := omega) [e4, w]
    refine FgK.of _ hsr ⟨⟨i + 1, .sl r 0 (rs.length + 1) 4 false, by simp, by simp [e1], by simp, by simp, by omega, ?_⟩, by simp [e4]; omega⟩
    rw [et, List.length_append]
    have := Row.mk (cs := flat rc (rs ++ [lg o])) (n := rs.length + 1) (sz := 4) hr
    rw [← flat_snoc] at this ⊢
    exact this
  · rw [List.take_of_length_le (by omega)] at hro htl
    simp (disch := omega) [hn, hHeq, e1, e3, e4, hz3, lx, hlt]
    refine c37 ((hro.rin (flat_len rc_l _)).rd) (by omega) (fun hc out2 H' h2 => ?_) fun hc => ?_
    · have oo := Rw.one (h2.rin (flat_len rc_l _)).rd
      have cc := Rw.cells (h2.rin (flat_len rc_l _)).rd
      rw [regF_in hc] at hk
      simp [oo, cc]
      obtain ⟨H0, z1, z2⟩ := Row.base (hS.trans hro.sub) h2
      exact ⟨H0, z1, hk _ _ z2⟩
    · rw [regF_out hc] at hk
      simp
      exact ⟨H, hS.trans hro.sub, hk _ _ (by simpa [flat_nil] using Row.nil H 4)⟩
theorem c12 {H : AH} {K : AV → AH → Prop} {a b : AV} {l : List R} (ha : Rr H a l) (hb : Rr H b l) (hl : l.length ≤ 1000000) (hk : K (vb true) H) : @AC Tryz.prog 12 [a, b] H ⟨K⟩ := by
  have l1 := fun k => Rw.lenK ha (k := k)
  have l2 := fun k => Rw.lenK hb (k := k)
  refine AC_of (.forget ?_)
  refine call_c follows cf12_ok (by simp) ?_
  simp [l1, l2]
  refine wpc_loop (fun s => ∃ (i : Nat), s.n = 26 ∧ s.H = H ∧ s.t 0 = a ∧ s.t 1 = b ∧ s.t 5 = vi i ∧ i ≤ l.length) (fun s => l.length - slotN (s.t 5)) ?_ ?_
  · exact FgK.same ⟨0, by simp, by simp, by simp, by simp, by simp, by omega⟩
  rintro s ⟨i, hn, hH, e0, e1, e5, hi⟩
  by_cases hlt : i < l.length
  · have wr := IntWalk.i64_in ((i : Int) + 1) (by omega)
    obtain ⟨p, hp1, hp2⟩ := fsee rc_l ha hlt
    obtain ⟨q, hq1, hq2⟩ := fsee rc_l hb hlt
    generalize l[i] = x at *
    have hx : req x x = true := (req_iff x x).2 rfl
    simp (disch := omega) [hn, hH, e0, e1, e5, l1, hlt, hp1, hp2 _ (Sub.refl _), hq1, hq2 _ (Sub.refl _), hx, wr]
    exact FgK.same ⟨⟨i + 1, by simp, by simp [hH], by simp [e0], by simp [e1], by simp, by omega⟩, by simp [e5]; omega⟩
  · simp (disch := omega) [hn, hH, e0, e1, e5, l1, hlt]
    exact ⟨H, Sub.refl _, hk⟩
end Go.Proofs.YtidcajmbkbamcaaGreat
end

/-! Layout: at most eight outputs, whose areas lie apart; the region's length. Conditions: as each lemma states them. -/
section
namespace Go.Proofs.YtidcajmbkbamcaaGreat
open Go Go.Ab Go.RowKit
set_option linter.unusedSimpArgs false
set_option linter.unusedVariables false
set_option linter.unnecessarySimpa false

attribute [local simp] condK_true condK_false condK_not wpc_skip wpc_ret wpc_exit wpc_seq wpc_reg wpc_regD testA_bool wpc_cond wpc_block thenA_normal thenA_ret thenA_exit blockA_normal blockA_ret blockA_exit blockA_other endA_normal endA_ret ev_tmp' ev_const ev_func ev_global cv_int cv_bool cv_string cv_pointer cv_slice cv_agg cv_map put_some put_none wH_s setE_apply setE_env less_eq env_cons env_nil upd_upd upd_apply del_apply startA_eq cells_ag cells_sl one_sl cells_vs one_vs cells_ep one_ep cells_fn one_fn cells_int one_int cells_bool one_bool cells_string one_string cells_pointer one_pointer cells_slice one_slice cells_map one_map cells_agg resK_one resK_nil resK_two rvK_t rvK_c rvsK_nil rvsK_cons iseq_nil iseq_cons gdA_true gdA_false gdA_undef istep_free istep_guard istepV_free istepV_guard dseq_nil dseq_pu dseq_rd dseq_ef wpc_regT dtree_nil dtree_pu dtree_rd dtree_ef dtree_br chkAll_nil chkAll_cons andK_true pickK_true pickK_false pickK_tb pickK_fb bin2K_pl eqbK_eq eqbK_ne eqpK_eq eqpK_ne eqmK_eq eqmK_ne eqzK_eq eqzK_ne eqzK_sl eqzK_vs un1K_pl convK_int fillK_some fillA_cons fillA_nil cellsK_some needK_true needK_ok seeK_ep seeK_ptr oneK_agg oneK_one nilcK_ptr nilcK_ep fadrK_ptr fadrK_ep fldK_ag iadAK_ptr iadAK_ep iadSK_sl iadSK_vs extK_0 extK_1 extK_2 extK_3 lenK_pl lenK_sl lenK_vs lensK_pl boxK_some minmax1K_int storeK_ptr callvK_fn callvK_pl newsK_nil newsK_vs newsK_sl appK_nil appK_nil0 appK_sl appK_vs bnd1K_int bndK_none bndK_some slsK_vs slsK_nil slsK_sl0 slsK_sl slstrK_pl boolK_some eqsK_ag iop_eqs iop_sls iop_slstr seesK_some seesK_ro mapsK_some MAP_some findK_some findK_none plK_pl nmapK_none nmapK_some iop_mlook iop_mlen iop_mmk iop_mupd iop_mdel iop_mrng itK_none itK_some ptr0K_ptr iop_mnxt iop_ment it1K_some entK_some iop_mov iop_pick iop_bin iop_eqb iop_eqp iop_eqm iop_eqz iop_un capK_pl capK_sl capK_vs iop_cap apzK_nil iop_apz mksK_int iop_mks clrK_sl clrK_vs clrK_nil iop_clr iop_conv iop_build iop_load iop_nilc iop_fadr iop_fld iop_iadA iop_iadS iop_ext iop_mkf iop_len iop_lens iop_minmax iop_al iop_box iop_bsl iop_store iop_call iop_callv iop_app BIN_add BIN_sub BIN_mul BIN_and BIN_or BIN_xor BIN_andNot BIN_eql BIN_neq BIN_lss BIN_leq BIN_gtr BIN_geq BIN_quo BIN_rem BIN_shl BIN_shr BIN_sadd BIN_seql BIN_sneq BIN_slss BIN_sleq BIN_sgtr BIN_sgeq UN_neg UN_xor UN_not MM_nil MM_cons partsA argsA ptrA lessL eqL min2I slotN_int slotP_int slotI_int
attribute [local simp] rc_len rc_t4 rc_t1 rc_t2 rc_t3 rc_d1 rc_d2 rc_d3 rc_d4 rc_ag rc_one rc_eq

theorem apart_of {a b : R} (ha : rempty a = false) (hb : rempty b = false) (h : rempty (rcap a b) = true) : Apart a b := by
  rintro x y ⟨g1, g2⟩
  have k1 := inn_iff.1 g1
  have k2 := inn_iff.1 g2
  have r1 := rempty_ok a ha
  have r2 := rempty_ok b hb
  have hne : rempty ⟨max a.x0 b.x0, max a.y0 b.y0, min a.x1 b.x1, min a.y1 b.y1⟩ = false := rempty_of _ (by simp only; omega)
  have e : rcap a b = ⟨max a.x0 b.x0, max a.y0 b.y0, min a.x1 b.x1, min a.y1 b.y1⟩ := by
    unfold rcap rcan
    rw [ha, hb, hne]; simp
  rw [e, hne] at h
  cases h
structure Inv2 (m : List O) : Prop where
  len : m.length ≤ 8
  ap : ∀ a ∈ m, ∀ b ∈ m, a.nm ≠ b.nm → rempty (rcap (lg a) (lg b)) = true
theorem ovl_false {m : List O} {o : O} (h : ovl m o = false) : ∀ x ∈ m, x.nm ≠ o.nm → rempty (rcap (lg o) (lg x)) = true := by
  intro x hx hn
  rw [ovl, List.any_eq_false] at h
  have := h x hx
  simp [ovT, hn] at this
  exact this
theorem Inv2.plug {m : List O} {o : O} (h : Inv2 m) : Inv2 (plugM m o) := by
  unfold plugM
  split
  · rename_i c
    obtain ⟨h1, h2, h3, h4⟩ := plugE_parts c
    refine ⟨by simp; omega, fun a ha b hb hn => ?_⟩
    rcases List.mem_append.1 ha with ha1 | ha1
    · rcases List.mem_append.1 hb with hb1 | hb1
      · exact h.ap a ha1 b hb1 hn
      · obtain rfl := List.mem_singleton.1 hb1
        rw [rcap_comm]; exact ovl_false h3 a ha1 hn
    · obtain rfl := List.mem_singleton.1 ha1
      rcases List.mem_append.1 hb with hb1 | hb1
      · exact ovl_false h3 b hb1 (Ne.symm hn)
      · exact absurd (congrArg O.nm (List.mem_singleton.1 hb1).symm) hn
  · exact h
theorem Inv2.del {m : List O} (h : Inv2 m) (s : ByteArray) : Inv2 (delM m s) :=
  ⟨Nat.le_trans (List.length_filter_le _ _) h.len, fun a ha b hb hn => h.ap a (List.mem_filter.1 ha).1 b (List.mem_filter.1 hb).1 hn⟩
theorem Inv2.mov {m : List O} (hi : Inv m) (h : Inv2 m) (s : ByteArray) (x y : Int) : Inv2 (movM m s x y) := by
  unfold movM
  split
  · rename_i c
    obtain ⟨h1, h2, h3⟩ := movE_parts c
    have nm_at : ∀ o : O, (at_ o x y).nm = o.nm := fun o => rfl
    refine ⟨by rw [List.length_map]; exact h.len, fun a ha b hb hn => ?_⟩
    obtain ⟨a0, ha0, rfl⟩ := List.mem_map.1 ha
    obtain ⟨b0, hb0, rfl⟩ := List.mem_map.1 hb
    by_cases ea : a0.nm = s
    · rw [if_pos ea] at hn ⊢
      by_cases eb : b0.nm = s
      · rw [if_pos eb] at hn
        exact absurd (by rw [nm_at, nm_at, ea, eb]) hn
      · rw [if_neg eb] at hn ⊢
        have el : look m s = a0 := by subst ea; exact look_of hi.nd ha0
        rw [el] at h3
        exact ovl_false h3 b0 hb0 (by rw [nm_at, ea]; exact eb)
    · rw [if_neg ea] at hn ⊢
      by_cases eb : b0.nm = s
      · rw [if_pos eb] at hn ⊢
        have el : look m s = b0 := by subst eb; exact look_of hi.nd hb0
        rw [el] at h3
        rw [rcap_comm]
        exact ovl_false h3 a0 ha0 (by rw [nm_at, eb]; exact ea)
      · rw [if_neg eb] at hn ⊢
        exact h.ap a0 ha0 b0 hb0 hn
  · exact h
theorem Inv2.doM {m : List O} (hi : Inv m) (h : Inv2 m) (x : Op) : Inv2 (doM m x) := by
  unfold Go.Proofs.YtidcajmbkbamcaaGreat.doM
  split
  · exact h.plug
  · split
    · exact h.del _
    · exact Inv2.mov hi h _ _ _
theorem inv2_run : ∀ (l : List Op) (m : List O), Inv m → Inv2 m → Inv2 (l.foldl doM m)
  | [], m, _, h => h
  | x :: l, m, hi, h => inv2_run l _ (hi.doM x) (Inv2.doM hi h x)
theorem inv2_nil : Inv2 [] := ⟨by simp, fun _ h => by cases h⟩
theorem areas_apart {m : List O} (hi : Inv m) (h : Inv2 m) : (sareas m).Pairwise Apart := by
  unfold sareas
  rw [List.pairwise_map]
  have hp := souts_perm hi.nd
  have hnd : (souts m).Pairwise fun a b => a.nm ≠ b.nm := by
    have := (hp.map okey).nodup_iff.2 hi.nd
    exact List.pairwise_map.1 this
  refine List.Pairwise.imp_of_mem (R := fun a b => a.nm ≠ b.nm) (fun {a b} ha hb hn => ?_) hnd
  have ha' := hp.mem_iff.1 ha
  have hb' := hp.mem_iff.1 hb
  exact apart_of (lg_ne (hi.ck a ha')) (lg_ne (hi.ck b hb')) (h.ap a ha' b hb' hn)
theorem rectsF_len {n : Nat} : ∀ {bs : List Bd}, (∀ b ∈ bs, b.2.2.length ≤ n) → (rectsF bs).length ≤ bs.length * n
  | [], _ => by simp [rectsF]
  | b :: bs, h => by
    have h1 := rectsF_len (bs := bs) fun c hc => h c (by simp [hc])
    have h2 := h b (by simp)
    have e : rectsF (b :: bs) = b.2.2.map (mkR b.1 b.2.1) ++ rectsF bs := rfl
    rw [e, List.length_append, List.length_map, List.length_cons, Nat.add_mul]; omega
theorem bfold_runs (f : Int → List Rn) (n : Nat) (hf : ∀ y, (f y).length ≤ n) : ∀ (l : List Rn) (o : List Bd), (∀ b ∈ o, b.2.2.length ≤ n) → ∀ b ∈ l.foldl (bstep f) o, b.2.2.length ≤ n
  | [], o, h => h
  | c :: l, o, h => by
    refine bfold_runs f n hf l _ fun b hb => ?_
    unfold bstep at hb
    split at hb
    · exact h b hb
    · split at hb
      · rename_i z hz
        have hzm := h z (List.mem_of_getLast? hz)
        split at hb
        · rcases List.mem_append.1 hb with hb | hb
          · exact h b ((List.dropLast_sublist o).mem hb)
          · rw [List.mem_singleton.1 hb]; exact hzm
        · rcases List.mem_append.1 hb with hb | hb
          · exact h b hb
          · rw [List.mem_singleton.1 hb]; exact hf _
      · rw [List.mem_singleton.1 hb]; exact hf _
theorem canon_len {l : List R} (h : l.length ≤ 8) : (canonF l).length ≤ 256 := by
  have hf : ∀ y, (rowF orF (cl l) (cl []) y).length ≤ 16 := by
    intro y
    have h1 := combF_len orF (sumF (rsF (cl l) y)) (sumF (rsF (cl []) y))
    have h2 := sumF_len (l := rsF (cl l) y) fun r hr => (rsF_ok (cl_ok l) r hr).1
    have h3 := rsF_len (cl l) y
    have h4 := cl_len l
    have e : sumF (rsF (cl []) y) = [] := rfl
    rw [e] at h1 
    unfold rowF
    rw [e]
    simp at h1
    omega
  have h1 := rectsF_len (n := 16) (bs := bandsF orF l []) (bfold_runs _ 16 hf _ [] (by simp))
  have h2 : (bandsF orF l []).length ≤ 15 := by
    have h := bfold_len (rowF orF (cl l) (cl [])) (pairs (ysF (cl l ++ cl []))) (pairs (ysF (cl l ++ cl []))).length
    rw [List.take_of_length_le (Nat.le_refl _), pairs_len] at h
    have h2 := ysF_len (cl l ++ cl [])
    have e : cl [] = [] := rfl
    rw [e, List.append_nil] at h h2
    have := cl_len l
    unfold bandsF
    rw [e, List.append_nil]
    omega
  show (rectsF (bandsF orF l [])).length ≤ 256
  omega
end Go.Proofs.YtidcajmbkbamcaaGreat
end

/-! LayoutDisjoint: for every run and point the law returns true, and its arguments read as they did. No conditions: every input that the row admits. -/
section
namespace Go.Proofs.YtidcajmbkbamcaaGreat
open Go Go.Ab Go.RowKit Go.ChangeShapes Go.WideShapes Go.ChangeAt
set_option linter.unusedSimpArgs false
set_option linter.unusedVariables false
set_option linter.unnecessarySimpa false

attribute [local simp] condK_true condK_false condK_not wpc_skip wpc_ret wpc_exit wpc_seq wpc_reg wpc_regD testA_bool wpc_cond wpc_block thenA_normal thenA_ret thenA_exit blockA_normal blockA_ret blockA_exit blockA_other endA_normal endA_ret ev_tmp' ev_const ev_func ev_global cv_int cv_bool cv_string cv_pointer cv_slice cv_agg cv_map put_some put_none wH_s setE_apply setE_env less_eq env_cons env_nil upd_upd upd_apply del_apply startA_eq cells_ag cells_sl one_sl cells_vs one_vs cells_ep one_ep cells_fn one_fn cells_int one_int cells_bool one_bool cells_string one_string cells_pointer one_pointer cells_slice one_slice cells_map one_map cells_agg resK_one resK_nil resK_two rvK_t rvK_c rvsK_nil rvsK_cons iseq_nil iseq_cons gdA_true gdA_false gdA_undef istep_free istep_guard istepV_free istepV_guard dseq_nil dseq_pu dseq_rd dseq_ef wpc_regT dtree_nil dtree_pu dtree_rd dtree_ef dtree_br chkAll_nil chkAll_cons andK_true pickK_true pickK_false pickK_tb pickK_fb bin2K_pl eqbK_eq eqbK_ne eqpK_eq eqpK_ne eqmK_eq eqmK_ne eqzK_eq eqzK_ne eqzK_sl eqzK_vs un1K_pl convK_int fillK_some fillA_cons fillA_nil cellsK_some needK_true needK_ok seeK_ep seeK_ptr oneK_agg oneK_one nilcK_ptr nilcK_ep fadrK_ptr fadrK_ep fldK_ag iadAK_ptr iadAK_ep iadSK_sl iadSK_vs extK_0 extK_1 extK_2 extK_3 lenK_pl lenK_sl lenK_vs lensK_pl boxK_some minmax1K_int storeK_ptr callvK_fn callvK_pl newsK_nil newsK_vs newsK_sl appK_nil appK_nil0 appK_sl appK_vs bnd1K_int bndK_none bndK_some slsK_vs slsK_nil slsK_sl0 slsK_sl slstrK_pl boolK_some eqsK_ag iop_eqs iop_sls iop_slstr seesK_some seesK_ro mapsK_some MAP_some findK_some findK_none plK_pl nmapK_none nmapK_some iop_mlook iop_mlen iop_mmk iop_mupd iop_mdel iop_mrng itK_none itK_some ptr0K_ptr iop_mnxt iop_ment it1K_some entK_some iop_mov iop_pick iop_bin iop_eqb iop_eqp iop_eqm iop_eqz iop_un capK_pl capK_sl capK_vs iop_cap apzK_nil iop_apz mksK_int iop_mks clrK_sl clrK_vs clrK_nil iop_clr iop_conv iop_build iop_load iop_nilc iop_fadr iop_fld iop_iadA iop_iadS iop_ext iop_mkf iop_len iop_lens iop_minmax iop_al iop_box iop_bsl iop_store iop_call iop_callv iop_app BIN_add BIN_sub BIN_mul BIN_and BIN_or BIN_xor BIN_andNot BIN_eql BIN_neq BIN_lss BIN_leq BIN_gtr BIN_geq BIN_quo BIN_rem BIN_shl BIN_shr BIN_sadd BIN_seql BIN_sneq BIN_slss BIN_sleq BIN_sgtr BIN_sgeq UN_neg UN_xor UN_not MM_nil MM_cons partsA argsA ptrA lessL eqL min2I slotN_int slotP_int slotI_int
attribute [local simp] oc_len oc_tt oc_dd oc_one oc_ag oc_t1 oc_t2 oc_t3 oc_t4 oc_t5 oc_t6 oc_t7 oc_d1 oc_d2 oc_d3 oc_d4 oc_d5 oc_d6 oc_d7 opq_len opq_tt opq_dd opq_one opq_ag opq_t1 opq_t2 opq_t3 opq_t4 opq_t5 opq_t6 opq_t7 opq_t8 opq_d1 opq_d2 opq_d3 opq_d4 opq_d5 opq_d6 opq_d7 opq_d8 pnc_len pnc_tt pnc_dd pnc_one pnc_ag pnc_t1 pnc_d1 rc_len rc_t4 rc_t1 rc_t2 rc_t3 rc_d1 rc_d2 rc_d3 rc_d4 rc_ag rc_one rc_eq min2_t min2_f

theorem c17 (r : R) (h : rempty r = false) : PC Tryz.prog 17 [.ag (rc r)] (vi (areaR r)) := by
  have hr := rempty_ok r h
  have ha := areaR_rng h
  have hc : rcan r = r := by simp [rcan, h]
  have w1 := IntWalk.i64_in (r.x1 - r.x0) (by omega)
  have w2 := IntWalk.i64_in (r.y1 - r.y0) (by omega)
  have w3 : IntKind.i64.wrap ((r.x1 - r.x0) * (r.y1 - r.y0)) = areaR r := IntWalk.i64_in (areaR r) (by omega)
  refine .tell fun H => ?_
  refine call_c follows cf17_ok (by simp) ?_
  simp
  refine newK_of fun b hb => ?_
  simp
  refine (c40 r).ac ?_
  rw [hc]
  simp
  refine newK_of fun q hq => ?_
  simp [w1, w2, w3]
  exact ((Sub.refl H).upd hb).trans ((Sub.refl _).upd hq)
theorem c4 (l : List Op) (a : Pn) (hx : i64r a.x) (hy : i64r a.y) : PC Tryz.prog 4 [.vs l.length false (flat opq l), .ag (pnc a)] (vb true) := by
  refine .tell fun H => ?_
  refine call_c follows cf4_ok (by simp) ?_
  simp
  refine newK_of fun z hz => ?_
  have hz1 : Sub H (upd H z (.cells (pnc a))) := (Sub.refl H).upd hz
  have hzz : upd H z (.cells (pnc a)) z = some (.cells (pnc a)) := by simp [upd_apply]
  simp
  generalize upd H z (.cells (pnc a)) = H0 at *
  by_cases d1 : (60 : Int) < l.length
  · simp [d1]
    refine (c5).ac ?_
    simp
    exact hz1
  simp [d1]
  refine c15 l (by omega) fun p b st cc H1 hs1 hb0 hG => ?_
  have hinv : Inv (run l) := inv_run l [] inv_nil
  have hinv2 : Inv2 (run l) := inv2_run l [] inv_nil inv2_nil
  have hSz := hs1.at hzz
  have hS1 := hz1.trans hs1
  have hap := areas_apart hinv hinv2
  have hne := areas_ne hinv
  have hat := atF_some hinv (x := a.x) (y := a.y)
  have hup := souts_up (run l)
  have hsp := souts_perm hinv.nd
  have hsl : (souts (run l)).length ≤ 8 := by rw [souts_len]; exact hinv2.len
  have hck : ∀ o ∈ souts (run l), chk o = 0 := fun o ho => hinv.ck o ((souts_mem hinv).1 ho)
  have hml := hinv2.len
  have hsa : sareas (run l) = (souts (run l)).map lg := rfl
  generalize run l = m at *
  simp
  refine c10 hG (by omega) fun o1 H2 r1 => ?_
  have hG2 := hG.sub r1.sub
  have hz2 := r1.sub.at hSz
  have hS2 := hS1.trans r1.sub
  have q1 : Rw H2 o1 (flat oc (souts m)) (souts m).length 8 := (r1.rin (by rw [oc_flat_len])).rd
  have l1 := fun k => Rw.lenK q1 (k := k)
  have hnd : (souts m).Pairwise fun a b => a.nm ≠ b.nm := List.pairwise_map.1 ((hsp.map okey).nodup_iff.2 hinv.nd)
  generalize hN : souts m = N at *
  simp
  obtain ⟨A, hA0, hAs, hAe⟩ : ∃ A : Nat → Int, A 0 = 0 ∧ (∀ i (h : i < N.length), A (i + 1) = A i + areaR (lg N[i]) ∧ 0 ≤ A i ∧ A i ≤ 8589934592) ∧ A N.length = areaF (sareas m) := by
    refine ⟨fun i => areaF ((N.take i).map lg), by simp [areaF], fun i h => ⟨?_, ?_⟩, by simp only; rw [List.take_length, hsa]⟩
    · simp only
      rw [take_snoc' h, List.map_append]
      exact areaF_snoc _ _
    · have ha2 := areaF_rng (l := (N.take i).map lg) fun r hr => by
        obtain ⟨o, ho, rfl⟩ := List.mem_map.1 hr
        exact lg_ne (hck o (List.mem_of_mem_take ho))
      have hil : ((N.take i).map lg).length ≤ 8 := by rw [List.length_map, List.length_take]; omega
      simp only
      omega
  refine wpc_loop (fun s => ∃ i : Nat, s.n = 101 ∧ s.H = H2 ∧ s.t 3 = pA z ∧ s.t 5 = pA p ∧ s.t 6 = o1 ∧ s.t 7 = vi (A i) ∧ s.t 8 = vi i ∧ i ≤ N.length) (fun s => N.length - slotN (s.t 8)) ?_ ?_
  · exact FgK.same ⟨0, by simp, by simp, by simp, by simp, by simp, by simp [hA0], by simp, by omega⟩
  rintro s ⟨i, hn, hH, e3, e5, e6, e7, e8, hi⟩
  have w := IntWalk.i64_in ((i : Int) + 1) (by omega)
  by_cases hlt : i < N.length
  · obtain ⟨pp, hp1, hp2, hpf⟩ := fat (enc := oc) (k := 8) (fun _ => rfl) q1 hlt
    have hoe : rempty (lg N[i]) = false := lg_ne (hck N[i] (List.getElem_mem hlt))
    obtain ⟨et, ha2, ha3⟩ := hAs i hlt
    have ha1 := areaR_rng hoe
    have w2 := IntWalk.i64_in (A i + areaR (lg N[i])) (by omega)
    have hdist : ∀ j (hj : j < i), (N[j]'(by omega)).nm ≠ N[i].nm := fun j hj => List.pairwise_iff_getElem.1 hnd j i (by omega) hlt hj
    have hot : ∀ j (hj : j < i), rempty (rcap (lg N[i]) (lg (N[j]'(by omega)))) = true := fun j hj =>
      hinv2.ap _ (hsp.mem_iff.1 (List.getElem_mem hlt)) _ (hsp.mem_iff.1 (List.getElem_mem (by omega))) (Ne.symm (hdist j hj))
    have hnm : ∀ (h : 0 < i), Op.bytesLess (N[i - 1]'(by omega)).nm.toList N[i].nm.toList = true := fun h => by
      have hle := List.pairwise_iff_getElem.1 hup (i - 1) i (by omega) hlt (by omega)
      refine (bytesLess_iff _ _).2 (List.not_le.1 fun h2 => hdist (i - 1) (by omega) ?_)
      exact bytes_ext (List.le_antisymm hle h2)
    obtain ⟨q0, f0, g0⟩ := hpf 0 (vs8 N[i].nm) rfl
    generalize hO : N[i] = o at *
    simp (disch := omega) [hn, hH, e3, e5, e6, e7, e8, l1, hlt, hp1, hp2 _ (Sub.refl _)]
    refine (c16 o).ac ?_
    simp
    refine newK_of fun k hk => ?_
    have hSk : Sub H2 (upd H2 k (.cells (rc (lg o)))) := (Sub.refl H2).upd hk
    simp [e7]
    refine (c17 (lg o) hoe).ac ?_
    simp [w2]
    by_cases h0 : 0 < i
    · have w3 := IntWalk.i64_in ((i : Int) - 1) (by omega)
      obtain ⟨pm, hm1, hm2, hmf⟩ := fat (enc := oc) (k := 8) (fun _ => rfl) q1 (show i - 1 < N.length by omega)
      obtain ⟨qm, fm, gm⟩ := hmf 0 (vs8 (N[i - 1]'(by omega)).nm) rfl
      rw [show ((i - 1 : Nat) : Int) = (i : Int) - 1 by omega] at hm1
      have hnm' := hnm h0
      generalize (N[i - 1]'(by omega)) = om at *
      simp (disch := omega) [h0, e6, e8, w3, hm1, fm, gm _ hSk, hp1, f0, g0 _ hSk]
      simp (disch := omega) [hnm']
      refine wpc_loop (fun s' => ∃ j : Nat, s'.n = 101 ∧ s'.H = upd H2 k (.cells (rc (lg o))) ∧ s'.t 3 = pA z ∧ s'.t 5 = pA p ∧ s'.t 6 = o1 ∧ s'.t 7 = vi (A i + areaR (lg o)) ∧ s'.t 8 = vi i ∧ s'.t 9 = pA k ∧ s'.t 10 = vi j ∧ j ≤ i) (fun s' => i - slotN (s'.t 10)) ?_ ?_
      · exact FgK.same ⟨0, by simp, by simp, by simp [e3], by simp [e5], by simp [e6], by simp, by simp [e8], by simp, by simp, by omega⟩
      rintro s' ⟨j, gn, gH, g3, g5, g6, g7, g8, g9, g10, hj⟩
      by_cases hjt : j < i
      · have wj := IntWalk.i64_in ((j : Int) + 1) (by omega)
        obtain ⟨pj, hj1, hj2⟩ := fsee (enc := oc) (k := 8) (fun _ => rfl) q1 (show j < N.length by omega)
        have hot' := hot j hjt
        generalize (N[j]'(by omega)) = oj at *
        simp (disch := omega) [gn, gH, g3, g5, g6, g7, g8, g9, g10, hjt, hj1, hj2 _ hSk]
        refine (c16 oj).ac ?_
        simp
        refine (c19 (lg o) (lg oj)).ac ?_
        simp
        refine (c18 _).ac ?_
        rw [hot']
        simp (disch := omega) [wj]
        exact FgK.same ⟨⟨j + 1, by simp, by simp, by simp, by simp, by simp, by simp, by simp, by simp, by simp, by omega⟩, by simp [g10]; omega⟩
      · simp (disch := omega) [gn, gH, g3, g5, g6, g7, g8, g9, g10, hjt, w]
        exact FgK.of H2 hSk ⟨⟨i + 1, by simp, by simp, by simp, by simp, by simp, by simp [et], by simp, by omega⟩, by simp [e8]; omega⟩
    · have hi0 : i = 0 := by omega
      simp (disch := omega) [e6, e8, h0]
      refine wpc_loop (fun s' => ∃ j : Nat, s'.n = 101 ∧ s'.H = upd H2 k (.cells (rc (lg o))) ∧ s'.t 3 = pA z ∧ s'.t 5 = pA p ∧ s'.t 6 = o1 ∧ s'.t 7 = vi (A i + areaR (lg o)) ∧ s'.t 8 = vi i ∧ s'.t 9 = pA k ∧ s'.t 10 = vi j ∧ j ≤ i) (fun s' => i - slotN (s'.t 10)) ?_ ?_
      · exact FgK.same ⟨0, by simp, by simp, by simp [e3], by simp [e5], by simp [e6], by simp, by simp [e8], by simp, by simp, by omega⟩
      rintro s' ⟨j, gn, gH, g3, g5, g6, g7, g8, g9, g10, hj⟩
      by_cases hjt : j < i
      · have wj := IntWalk.i64_in ((j : Int) + 1) (by omega)
        obtain ⟨pj, hj1, hj2⟩ := fsee (enc := oc) (k := 8) (fun _ => rfl) q1 (show j < N.length by omega)
        have hot' := hot j hjt
        generalize (N[j]'(by omega)) = oj at *
        simp (disch := omega) [gn, gH, g3, g5, g6, g7, g8, g9, g10, hjt, hj1, hj2 _ hSk]
        refine (c16 oj).ac ?_
        simp
        refine (c19 (lg o) (lg oj)).ac ?_
        simp
        refine (c18 _).ac ?_
        rw [hot']
        simp (disch := omega) [wj]
        exact FgK.same ⟨⟨j + 1, by simp, by simp, by simp, by simp, by simp, by simp, by simp, by simp, by simp, by omega⟩, by simp [g10]; omega⟩
      · simp (disch := omega) [gn, gH, g3, g5, g6, g7, g8, g9, g10, hjt, w]
        exact FgK.of H2 hSk ⟨⟨i + 1, by simp, by simp, by simp, by simp, by simp, by simp [et], by simp, by omega⟩, by simp [e8]; omega⟩
  · obtain rfl : i = N.length := by omega
    rw [hAe] at e7
    simp (disch := omega) [hn, hH, e3, e5, e6, e7, e8, l1, hlt]
    refine c13 hG2 (by omega) fun o2 H3 r3 => ?_
    have hcl : (canonF (sareas m)).length ≤ 256 := canon_len (by rw [hsa, List.length_map]; omega)
    rw [regF_in hcl] at r3
    have rr : Rr H3 o2 (canonF (sareas m)) := (r3.rin (flat_len rc_l _)).rd
    have h8 : (N.length : Int) ≤ 8 := by omega
    have hz3 := r3.sub.at hz2
    simp (disch := omega) [l1, h8]
    refine c20 rr hcl (canon_idem _) ?_
    simp
    refine c21 rr (by omega) (by rw [canon_idem]; omega) ?_
    rw [canon_idem, canon_area hne hap]
    have hpt : ptF (cl (canonF (sareas m))) a.x a.y = ptF (sareas m) a.x a.y := by rw [cl_self (canon_clean _), canon_pts, cl_self hne]
    simp (disch := omega) [e7, hz3]
    refine c22 rr (by omega) ?_
    rw [hpt]
    simp (disch := omega) [hz3]
    refine c23 a.x a.y (hG2.sub r3.sub) (by omega) ?_
    rw [hN]
    have hiff : ptF (sareas m) a.x a.y = true ↔ atF N a.x a.y ≠ ⟨#[]⟩ := by
      rw [hat, ptF_iff]
      constructor
      · rintro ⟨r, hr, g⟩
        exact ⟨r, hr, by simp [rcont, rcan, hne r hr]; omega⟩
      · rintro ⟨r, hr, g⟩
        refine ⟨r, hr, ?_⟩
        simp [rcont, rcan, hne r hr] at g; omega
    by_cases hb : atF N a.x a.y = ⟨#[]⟩
    · have hp0 : ptF (sareas m) a.x a.y = false := by
        cases e : ptF (sareas m) a.x a.y with
        | false => rfl
        | true => exact absurd hb (hiff.1 e)
      rw [hb, hp0]
      simp
      refine (c5).ac ?_
      simp
      exact hS2.trans r3.sub
    · rw [hiff.2 hb]
      simp [hb, ne_empty hb]
      refine (c5).ac ?_
      simp
      exact hS2.trans r3.sub
theorem law_LayoutDisjoint (xs : List AV) (hf : FitsT [(false, [.sl opqL]), (true, pnL)] xs) : ACall Tryz.prog 4 xs (fun _ => none) (fun v _ => v = vb true) := by
  match xs, hf with
  | [a, b], ⟨h1, h2, _⟩ =>
    obtain ⟨l, rfl⟩ := fitOps h1
    obtain ⟨o, rfl, g1, g2⟩ := fitPn h2
    exact (c4 l o g1 g2).same rfl
set_option maxRecDepth 100000

theorem layoutDisjoint_lifted (os : Os) (started : os.Started) (H : Type) (enc : TypeId × Value → H) :
    ReturnsInHanded {} Tryz.checked os 4 .any (Rows.layoutDisjointSpec.pre6 enc Tryz.prog Tryz.f4 Rows.layoutDisjointRow.domain false) (Rows.layoutDisjointSpec.post enc Tryz.prog Tryz.f4 false true false false) := by
  refine returnsInHanded_of_change_sized (C := Tryz.checked) own started (by kernel_rfl) Tryz.func4
    (ChangeSpec.witness6 (enc := enc) (C := Tryz.checked) false ⟨#[], #[.slice none 0 0, .agg #[.int .i64 0, .int .i64 0]], []⟩ 8 (by kernel_rfl) (by kernel_rfl) (by kernel_rfl) (by kernel_rfl)) ?_
  intro W base args ds gs before hval hW _ _ _
  refine law_contract (L := [(false, [.sl opqL]), (true, pnL)]) laidOut (by kernel_rfl) rfl (fun ds hd => ?_) ⟨_, rfl, by kernel_rfl⟩ ?_ (fun xs hf => law_LayoutDisjoint xs hf) W base args ds gs before hval hW
  · match ds, hd with
    | [d0, d1], _ => exact ⟨rfl, rfl, rfl⟩
  · exact of_decide_eq_true (by kernel_rfl)

theorem layoutDisjoint_holds : Rows.LayoutDisjointSaid :=
  OpenClaim.holds_of_wide 4 Tryz.f4 rfl rfl rfl rfl rfl rfl rfl ⟨rfl, rfl, rfl, rfl, rfl⟩ rfl rfl rfl rfl rfl (by kernel_rfl) Tryz.func4 (by kernel_rfl)
    (of_decide_eq_true (by kernel_rfl)) (by unfold Func.isWrapper; first | (rw [if_pos (by decide +kernel)]; kernel_rfl) | (rw [if_neg (by decide +kernel)]; exact ⟨rfl, rfl⟩))
    (fun os started H enc _ => layoutDisjoint_lifted os started H enc)
end Go.Proofs.YtidcajmbkbamcaaGreat
end
