/-
  Rows that are read, whoever holds them: handed in, or in a block of the view; and pointers at cells.
-/
import Derived.Test.YtmpncpamndhmcaaGreatAbN
namespace Go.Ab
open Go.RowKit
set_option linter.unusedVariables false
set_option linter.unusedSimpArgs false

/-- A pointer at cells. -/
def PAt (H : AH) (p : AV) (cs : List AV) : Prop := (∃ r, p = .ep (cs ++ r)) ∨ ∃ b o C, p = .pl (.pointer (some ⟨b, o, none⟩)) ∧ (H b = some (.cells C) ∨ H b = some (.ro C)) ∧ ∃ r, C.drop o = cs ++ r ∧ o ≤ C.length
theorem PAt.sub {H H' : AH} {p : AV} {cs : List AV} (h : PAt H p cs) (hs : Sub H H') : PAt H' p cs := by
  rcases h with h | ⟨b, o, C, h1, h2 | h2, h3⟩
  · exact .inl h
  · exact .inr ⟨b, o, C, h1, .inl (hs _ _ h2), h3⟩
  · exact .inr ⟨b, o, C, h1, .inr (hs _ _ h2), h3⟩
theorem PAt.see {H : AH} {p : AV} {cs : List AV} (h : PAt H p cs) {sz : Nat} (hz : sz ≤ cs.length) {k : List AV → Prop} : @SEE H p sz ⟨k⟩ = k (cs.take sz) := by
  rcases h with ⟨r, rfl⟩ | ⟨b, o, C, rfl, h2, r, h3, h4⟩
  · rw [seeK_ep, needK_ok (by simp; omega), List.take_append_of_le_length hz]
  · have hl : o + sz ≤ C.length := by
      have := congrArg List.length h3
      simp at this; omega
    rcases h2 with h2 | h2
    · rw [seeK_ptr, h2, seesK_some, needK_ok hl, h3, List.take_append_of_le_length hz]
    · rw [seeK_ptr, h2, seesK_ro, needK_ok hl, h3, List.take_append_of_le_length hz]
theorem PAt.fadr {H : AH} {p : AV} {cs : List AV} (h : PAt H p cs) {off : Nat} (hz : off ≤ cs.length) : ∃ q, (∀ k : AV → Prop, @fadrK off p ⟨k⟩ = k q) ∧ PAt H q (cs.drop off) := by
  rcases h with ⟨r, rfl⟩ | ⟨b, o, C, rfl, h2, r, h3, h4⟩
  · exact ⟨_, fun k => fadrK_ep, .inl ⟨r, by rw [List.drop_append_of_le_length hz]⟩⟩
  · refine ⟨_, fun k => fadrK_ptr, .inr ⟨b, o + off, C, rfl, h2, r, ?_, ?_⟩⟩
    · rw [← List.drop_drop, h3, List.drop_append_of_le_length hz]
    · have := congrArg List.length h3
      simp at this; omega
/-- A row that is read. -/
def Rw (H : AH) (a : AV) (cs : List AV) (n sz : Nat) : Prop := cs.length = n * sz ∧ ((∃ f, a = .vs n f cs) ∨ (n = 0 ∧ a = vnil) ∨ ∃ b o f C, a = .sl b o n sz f ∧ H b = some (.cells C) ∧ ∃ r, C.drop o = cs ++ r ∧ o ≤ C.length)
theorem Rw.nil (H : AH) (sz : Nat) : Rw H vnil [] 0 sz := ⟨by simp, .inr (.inl ⟨rfl, rfl⟩)⟩
theorem Rw.vs (H : AH) {n sz : Nat} {f : Bool} {cs : List AV} (h : cs.length = n * sz) : Rw H (.vs n f cs) cs n sz := ⟨h, .inl ⟨f, rfl⟩⟩
theorem Rw.sl {H : AH} {b n sz : Nat} {f : Bool} {cs : List AV} (h : cs.length = n * sz) (hb : H b = some (.cells cs)) : Rw H (.sl b 0 n sz f) cs n sz := ⟨h, .inr (.inr ⟨b, 0, f, cs, rfl, hb, [], by simp, by simp⟩)⟩
theorem RowIn.rd {H : AH} {a : AV} {cs : List AV} {n sz : Nat} (h : RowIn H a cs n sz) : Rw H a cs n sz := by
  rcases h with ⟨h1, ⟨h2, h3⟩ | ⟨r, f, h2, h3⟩⟩
  · exact ⟨h1, .inr (.inl ⟨h2, h3⟩)⟩
  · subst h2; exact .sl h1 h3
theorem Rw.sub {H H' : AH} {a : AV} {cs : List AV} {n sz : Nat} (h : Rw H a cs n sz) (hs : Sub H H') : Rw H' a cs n sz := by
  rcases h with ⟨hl, h | h | ⟨b, o, f, C, h1, h2, h3⟩⟩
  · exact ⟨hl, .inl h⟩
  · exact ⟨hl, .inr (.inl h)⟩
  · exact ⟨hl, .inr (.inr ⟨b, o, f, C, h1, hs _ _ h2, h3⟩)⟩
theorem Rw.lenK {H : AH} {a : AV} {cs : List AV} {n sz : Nat} (h : Rw H a cs n sz) {k : AV → Prop} : @lenK a ⟨k⟩ = k (vi n) := by
  rcases h with ⟨hl, ⟨f, rfl⟩ | ⟨rfl, rfl⟩ | ⟨b, o, f, C, rfl, _⟩⟩ <;> rfl
theorem Rw.one {H : AH} {a : AV} {cs : List AV} {n sz : Nat} (h : Rw H a cs n sz) : a.one = true := by
  rcases h with ⟨hl, ⟨f, rfl⟩ | ⟨rfl, rfl⟩ | ⟨b, o, f, C, rfl, _⟩⟩ <;> rfl
theorem Rw.cells {H : AH} {a : AV} {cs : List AV} {n sz : Nat} (h : Rw H a cs n sz) : a.cells = some [a] := by
  rcases h with ⟨hl, ⟨f, rfl⟩ | ⟨rfl, rfl⟩ | ⟨b, o, f, C, rfl, _⟩⟩ <;> rfl
/-- An element's place. -/
theorem Rw.idx {H : AH} {a : AV} {cs : List AV} {n sz i : Nat} (h : Rw H a cs n sz) (hi : i < n) : ∃ p, (∀ k : AV → Prop, @iadSK sz a (vi i) ⟨k⟩ = k p) ∧ PAt H p (cs.drop (i * sz)) := by
  have hle : i * sz ≤ n * sz := Nat.mul_le_mul_right _ (by omega)
  rcases h with ⟨hl, ⟨f, rfl⟩ | ⟨rfl, rfl⟩ | ⟨b, o, f, C, rfl, h2, r, h3, h4⟩⟩
  · refine ⟨.ep (cs.drop (i * sz)), fun k => ?_, .inl ⟨[], by simp⟩⟩
    rw [iadSK_vs, needK_ok (by omega)]
    simp
  · omega
  · refine ⟨.pl (.pointer (some ⟨b, o + i * sz, none⟩)), fun k => ?_, .inr ⟨b, o + i * sz, C, rfl, .inl h2, r, ?_, ?_⟩⟩
    · rw [iadSK_sl, needK_ok (by omega)]
      simp
    · rw [← List.drop_drop, h3, List.drop_append_of_le_length (by omega)]
    · have := congrArg List.length h3
      simp at this; omega
theorem Rw.see {H : AH} {a : AV} {cs : List AV} {n sz i : Nat} (h : Rw H a cs n sz) (hi : i < n) : ∃ p, (∀ k : AV → Prop, @iadSK sz a (vi i) ⟨k⟩ = k p) ∧ ∀ H', Sub H H' → ∀ k : List AV → Prop, @SEE H' p sz ⟨k⟩ = k ((cs.drop (i * sz)).take sz) := by
  obtain ⟨p, h1, h2⟩ := h.idx hi
  refine ⟨p, h1, fun H' hs k => ?_⟩
  have := h.1
  have h3 : (i + 1) * sz ≤ n * sz := Nat.mul_le_mul_right _ (by omega)
  rw [Nat.add_mul] at h3
  exact (h2.sub hs).see (by simp; omega)
/-- All of it, to be appended. -/
theorem Rw.news {H : AH} {a : AV} {cs : List AV} {n sz : Nat} (h : Rw H a cs n sz) {k : Nat → List AV → Prop} : @NEWS H a sz ⟨k⟩ = k n cs := by
  rcases h with ⟨hl, ⟨f, rfl⟩ | ⟨rfl, rfl⟩ | ⟨b, o, f, C, rfl, h2, r, h3, h4⟩⟩
  · rw [newsK_vs, needK_ok (by omega), List.take_of_length_le (by omega)]
  · have : cs = [] := by simpa using hl
    subst this
    rw [newsK_nil]
  · have hl2 : o + n * sz ≤ C.length := by
      have := congrArg List.length h3
      simp at this; omega
    rw [newsK_sl, needK_ok rfl, h2, cellsK_some, needK_ok hl2, h3, List.take_append_of_le_length (by omega), List.take_of_length_le (by omega)]
/-- A row of one's own, or handed in. -/
def Ri (H : AH) (a : AV) (l : List Int) : Prop := Rw H a (l.map vi) l.length 1
theorem Ri.see {H : AH} {a : AV} {l : List Int} {i : Nat} (h : Ri H a l) (hi : i < l.length) : ∃ p, (∀ k : AV → Prop, @iadSK 1 a (vi i) ⟨k⟩ = k p) ∧ ∀ H', Sub H H' → ∀ k : List AV → Prop, @SEE H' p 1 ⟨k⟩ = k [vi l[i]] := by
  obtain ⟨p, h1, h2⟩ := Rw.see h hi
  refine ⟨p, h1, fun H' hs k => ?_⟩
  rw [h2 H' hs, Nat.mul_one, viat hi]
/-- More at the end of a row of one's own. -/
theorem sl_app {H0 H : AH} {r n sz m bytes : Nat} {f : Bool} {cs ns : List AV} {k : AV → AH → Prop} (hr : H0 r = none) (hs : Sub (upd H0 r (.cells cs)) H) (ho : ns.all AV.one = true) (hl : cs.length = n * sz) (hb : (n + m) * bytes ≤ 140737488355328)
    (hk : ∀ r' H', H0 r' = none → Sub (upd H0 r' (.cells (cs ++ ns))) H' → k (.sl r' 0 (n + m) sz false) H') : @appK H sz bytes (.sl r 0 n sz f) m ns ⟨k⟩ := by
  have hHr : H r = some (.cells cs) := hs r _ (by simp [upd_apply])
  rw [appK_sl]
  refine cellsK_of hHr ⟨⟨ho, rfl, by omega, hb⟩, fun r' hr' => ?_⟩
  rw [List.take_of_length_le (by omega)]
  have hs0 : Sub H0 H := fun j o hj => hs j o (by simp only [upd_apply]; rw [if_neg (by rintro rfl; rw [hr] at hj; cases hj)]; exact hj)
  refine hk r' _ ?_ ?_
  · rcases hr' with rfl | hr'
    · exact hr
    · exact hs0.none_of hr'
  · refine Sub.cong fun j o hj => ?_
    simp only [del_apply]
    rw [if_neg (by rintro rfl; rw [hr] at hj; cases hj)]
    exact hs0 j o hj
theorem Ri.sub {H H' : AH} {a : AV} {l : List Int} (h : Ri H a l) (hs : Sub H H') : Ri H' a l := Rw.sub h hs
theorem Ri.lenK {H : AH} {a : AV} {l : List Int} (h : Ri H a l) {k : AV → Prop} : @lenK a ⟨k⟩ = k (vi l.length) := Rw.lenK h
theorem Ri.one {H : AH} {a : AV} {l : List Int} (h : Ri H a l) : a.one = true := Rw.one h
theorem Ri.cells {H : AH} {a : AV} {l : List Int} (h : Ri H a l) : a.cells = some [a] := Rw.cells h
theorem Row.ri {H0 H : AH} {out : AV} {l : List Int} (h : Row H0 H out (l.map vi) l.length 1) : Ri H out l := (h.rin (by simp)).rd
/-! ### Rows of elements -/
section
variable {E : Type} {enc : E → List AV} {k : Nat}
theorem fsee (he : ∀ x, (enc x).length = k) {H : AH} {a : AV} {l : List E} {i : Nat} (h : Rw H a (flat enc l) l.length k) (hi : i < l.length) : ∃ p, (∀ kk : AV → Prop, @iadSK k a (vi i) ⟨kk⟩ = kk p) ∧ ∀ H', Sub H H' → ∀ kk : List AV → Prop, @SEE H' p k ⟨kk⟩ = kk (enc l[i]) := by
  obtain ⟨p, h1, h2⟩ := Rw.see h hi
  refine ⟨p, h1, fun H' hs kk => ?_⟩
  rw [h2 H' hs, flat_drop he l i hi, List.take_append_of_le_length (by rw [he]; omega), List.take_of_length_le (by rw [he]; omega)]
/-- A field of an element. -/
theorem fat (he : ∀ x, (enc x).length = k) {H : AH} {a : AV} {l : List E} {i : Nat} (h : Rw H a (flat enc l) l.length k) (hi : i < l.length) : ∃ p, (∀ kk : AV → Prop, @iadSK k a (vi i) ⟨kk⟩ = kk p) ∧ (∀ H', Sub H H' → ∀ kk : List AV → Prop, @SEE H' p k ⟨kk⟩ = kk (enc l[i])) ∧
    ∀ off v, (enc l[i])[off]? = some v → ∃ q, (∀ kk : AV → Prop, @fadrK off p ⟨kk⟩ = kk q) ∧ ∀ H', Sub H H' → ∀ kk : List AV → Prop, @SEE H' q 1 ⟨kk⟩ = kk [v] := by
  obtain ⟨p, h1, h2⟩ := h.idx hi
  have e := flat_drop he l i hi
  rw [e] at h2
  have hl : k ≤ (enc l[i] ++ flat enc (l.drop (i + 1))).length := by rw [List.length_append, he]; omega
  refine ⟨p, h1, fun H' hs kk => ?_, fun off v hv => ?_⟩
  · rw [(h2.sub hs).see hl, List.take_append_of_le_length (by rw [he]; omega), List.take_of_length_le (by rw [he]; omega)]
  · have hlt : off < (enc l[i]).length := (List.getElem?_eq_some_iff.1 hv).1
    obtain ⟨q, h3, h4⟩ := h2.fadr (off := off) (by rw [List.length_append]; omega)
    refine ⟨q, h3, fun H' hs kk => ?_⟩
    rw [(h4.sub hs).see (by rw [List.length_drop, List.length_append]; omega), List.drop_append_of_le_length (by omega), List.drop_eq_getElem_cons hlt]
    have : (enc l[i])[off] = v := (List.getElem?_eq_some_iff.1 hv).2
    rw [this]
    rfl
end
end Go.Ab
