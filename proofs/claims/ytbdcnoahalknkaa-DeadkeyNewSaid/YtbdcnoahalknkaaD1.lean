/-
  Compose sequences, in plain words: which lists New accepts, what Feed and Pending answer. No program in sight; conditions: as each lemma states them.
-/
import Derived.Test.YtbdcnoahalknkaaAbN
namespace Go.Proofs.Ytbdcnoahalknkaa
open Go Go.Ab Go.RowKit
set_option linter.unusedSimpArgs false
set_option linter.unusedVariables false
set_option linter.unnecessarySimpa false


structure Sq where
  ks : List Int
  r : ByteArray

abbrev emp : ByteArray := ⟨#[]⟩
/-- The words that a tree of the sequences has a node for. -/
def Dom (S : List Sq) (w : List Int) : Prop := w = [] ∨ ∃ s ∈ S, w <+: s.ks
/-- The sequence that is a word. -/
def hit (S : List Sq) (w : List Int) : Option Sq := S.find? fun s => decide (s.ks = w)
def resOf (S : List Sq) (w : List Int) : ByteArray := match hit S w with | some s => s.r | none => emp
theorem hit_some {S : List Sq} {w : List Int} {s : Sq} (h : hit S w = some s) : s ∈ S ∧ s.ks = w := ⟨List.mem_of_find?_eq_some h, by simpa using List.find?_some h⟩
theorem hit_none {S : List Sq} {w : List Int} : hit S w = none ↔ ∀ s ∈ S, s.ks ≠ w := by simp [hit]
theorem hit_ex {S : List Sq} {w : List Int} {s : Sq} (h : s ∈ S) (e : s.ks = w) : ∃ t, hit S w = some t := by
  cases h2 : hit S w with
  | some t => exact ⟨t, rfl⟩
  | none => exact absurd e (hit_none.1 h2 s h)

def chk (s : Sq) : Int := if s.ks.length < 1 ∨ 6 < s.ks.length then 5 else if ∃ k ∈ s.ks, k < 1 then 6 else if s.r.size = 0 ∨ 16 < s.r.size then 3 else 0
theorem chk_ok {s : Sq} (h : chk s = 0) : 1 ≤ s.ks.length ∧ s.ks.length ≤ 6 ∧ (∀ k ∈ s.ks, 1 ≤ k) ∧ s.r.size ≠ 0 ∧ s.r.size ≤ 16 := by
  unfold chk at h
  split at h
  · cases h
  · split at h
    · cases h
    · split at h
      · cases h
      · rename_i h1 h2 h3
        refine ⟨by omega, by omega, fun k hk => ?_, by omega, by omega⟩
        rcases Int.lt_or_le k 1 with h4 | h4
        · exact absurd ⟨k, hk, h4⟩ h2
        · exact h4
theorem chk_ne {s : Sq} (h : chk s = 0) : s.r ≠ emp := by
  intro e
  exact (chk_ok h).2.2.2.1 (by rw [e]; rfl)
theorem chk_nil {s : Sq} (h : chk s = 0) : s.ks ≠ [] := by
  intro e
  have := (chk_ok h).1
  rw [e] at this; simp at this

def clash (S : List Sq) (s : Sq) : Bool := S.any fun t => t.ks.isPrefixOf s.ks || s.ks.isPrefixOf t.ks
theorem clash_iff {S : List Sq} {s : Sq} : clash S s = true ↔ ∃ t ∈ S, t.ks <+: s.ks ∨ s.ks <+: t.ks := by simp [clash]
/-- New's error, behind sequences that were accepted. -/
def newE : List Sq → List Sq → Int
  | _, [] => 0
  | acc, s :: r => if chk s ≠ 0 then chk s else if clash acc s = true then 7 else newE (acc ++ [s]) r
def newT (l : List Sq) : Int := if 256 < l.length then 5 else newE [] l
theorem newE_step {acc r : List Sq} {s : Sq} (h1 : chk s = 0) (h2 : clash acc s = false) : newE acc (s :: r) = newE (acc ++ [s]) r := by simp [newE, h1, h2]
theorem newE_chk {acc r : List Sq} {s : Sq} (h1 : chk s ≠ 0) : newE acc (s :: r) = chk s := by simp [newE, h1]
theorem newE_clash {acc r : List Sq} {s : Sq} (h1 : chk s = 0) (h2 : clash acc s = true) : newE acc (s :: r) = 7 := by simp [newE, h1, h2]

/-- What New accepts. -/
structure Acc (S : List Sq) : Prop where
  chk : ∀ s ∈ S, chk s = 0
  apart : ∀ s ∈ S, ∀ t ∈ S, s.ks <+: t.ks → s = t
  nodup : S.Pairwise fun s t => s.ks ≠ t.ks
theorem Acc.nil : Acc [] := ⟨fun _ h => by simp at h, fun _ h => by simp at h, .nil⟩
theorem Acc.push {S : List Sq} {s : Sq} (h : Acc S) (h1 : Ytbdcnoahalknkaa.chk s = 0) (h2 : clash S s = false) : Acc (S ++ [s]) := by
  have hc : ∀ t ∈ S, ¬ (t.ks <+: s.ks) ∧ ¬ (s.ks <+: t.ks) := by
    intro t ht
    have h3 : ¬ clash S s = true := by simp [h2]
    rw [clash_iff] at h3
    exact ⟨fun e => h3 ⟨t, ht, .inl e⟩, fun e => h3 ⟨t, ht, .inr e⟩⟩
  refine ⟨fun t ht => ?_, fun t ht u hu e => ?_, ?_⟩
  · rcases List.mem_append.1 ht with h4 | h4
    · exact h.chk t h4
    · rw [List.mem_singleton.1 h4]; exact h1
  · rcases List.mem_append.1 ht with h4 | h4 <;> rcases List.mem_append.1 hu with h5 | h5
    · exact h.apart t h4 u h5 e
    · rw [List.mem_singleton.1 h5] at e; exact absurd e (hc t h4).1
    · rw [List.mem_singleton.1 h4] at e; exact absurd e (hc u h5).2
    · rw [List.mem_singleton.1 h4, List.mem_singleton.1 h5]
  · refine List.pairwise_append.2 ⟨h.nodup, by simp, fun a ha b hb e => ?_⟩
    rw [List.mem_singleton.1 hb] at e
    exact (hc a ha).1 (e ▸ List.prefix_refl _)
theorem newE_acc {acc l : List Sq} (h : Acc acc) (e : newE acc l = 0) : Acc (acc ++ l) := by
  induction l generalizing acc with
  | nil => simpa using h
  | cons s r ih =>
    unfold newE at e
    split at e
    · exact absurd e ‹_›
    · split at e
      · cases e
      · rename_i h1 h2
        have := ih (h.push (by omega) (by simpa using h2)) e
        simpa using this
theorem newT_acc {l : List Sq} (h : newT l = 0) : Acc l := by
  unfold newT at h
  split at h
  · cases h
  · simpa using newE_acc Acc.nil h

theorem Dom.pre {S : List Sq} {w : List Int} {k : Int} (h : Dom S (w ++ [k])) : Dom S w := by
  rcases h with h | ⟨s, hs, h⟩
  · simp at h
  · exact .inr ⟨s, hs, (List.prefix_append w [k]).trans h⟩
theorem dom_take {S : List Sq} {s : Sq} {i : Nat} (h : s ∈ S) : Dom S (s.ks.take i) := .inr ⟨s, h, List.take_prefix i s.ks⟩
theorem Acc.res_ne {S : List Sq} (h : Acc S) {s : Sq} (hs : s ∈ S) : resOf S s.ks = s.r ∧ s.r ≠ emp := by
  obtain ⟨t, ht⟩ := hit_ex hs rfl
  obtain ⟨h1, h2⟩ := hit_some ht
  have : t = s := h.apart t h1 s hs (h2 ▸ List.prefix_refl _)
  unfold resOf
  rw [ht]
  exact ⟨by rw [this], chk_ne (h.chk s hs)⟩
theorem Acc.res_emp {S : List Sq} (h : Acc S) {w : List Int} : resOf S w = emp ↔ ∀ s ∈ S, s.ks ≠ w := by
  constructor
  · intro e s hs e2
    subst e2
    have := h.res_ne hs
    exact this.2 (this.1 ▸ e)
  · intro e
    unfold resOf
    rw [hit_none.2 e]

/-- When a sequence is refused as one that is there already: what insert sees on its way. -/
theorem clash_walk {S : List Sq} (h : Acc S) {s : Sq} (hs : Ytbdcnoahalknkaa.chk s = 0) :
    clash S s = true ↔ (∃ i, 0 < i ∧ i < s.ks.length ∧ resOf S (s.ks.take i) ≠ emp) ∨ resOf S s.ks ≠ emp ∨ ∃ k, Dom S (s.ks ++ [k]) := by
  rw [clash_iff]
  constructor
  · rintro ⟨t, ht, h1 | h1⟩
    · obtain ⟨hn, hne⟩ := h.res_ne ht
      rw [List.prefix_iff_eq_take] at h1
      by_cases h2 : t.ks.length < s.ks.length
      · refine .inl ⟨t.ks.length, ?_, h2, ?_⟩
        · have := chk_nil (h.chk t ht)
          exact List.length_pos_iff.2 this
        · rw [← h1, hn]; exact hne
      · rw [List.take_of_length_le (by omega)] at h1
        exact .inr (.inl (by rw [← h1, hn]; exact hne))
    · obtain ⟨r, hr⟩ := h1
      cases r with
      | nil =>
        obtain ⟨hn, hne⟩ := h.res_ne ht
        rw [List.append_nil] at hr
        exact .inr (.inl (by rw [hr, hn]; exact hne))
      | cons k r => exact .inr (.inr ⟨k, .inr ⟨t, ht, r, by rw [← hr]; simp⟩⟩)
  · rintro (⟨i, _, _, h1⟩ | h1 | ⟨k, h1⟩)
    · have h2 : ¬ ∀ t ∈ S, t.ks ≠ s.ks.take i := fun e => h1 (h.res_emp.2 e)
      simp only [ne_eq, Classical.not_forall, Classical.not_not] at h2
      obtain ⟨t, ht, h3⟩ := h2
      exact ⟨t, ht, .inl (h3 ▸ List.take_prefix _ _)⟩
    · have h2 : ¬ ∀ t ∈ S, t.ks ≠ s.ks := fun e => h1 (h.res_emp.2 e)
      simp only [ne_eq, Classical.not_forall, Classical.not_not] at h2
      obtain ⟨t, ht, h3⟩ := h2
      exact ⟨t, ht, .inl (h3 ▸ List.prefix_refl _)⟩
    · rcases h1 with h1 | ⟨t, ht, h1⟩
      · simp at h1
      · exact ⟨t, ht, .inr ((List.prefix_append _ _).trans h1)⟩

/-! ### Feed -/
def opn (S : List Sq) (w : List Int) : Bool := S.any fun s => decide (0 < w.length) && decide (w.length < s.ks.length) && w.isPrefixOf s.ks
theorem opn_iff {S : List Sq} {w : List Int} : opn S w = true ↔ w ≠ [] ∧ ∃ s ∈ S, w.length < s.ks.length ∧ w <+: s.ks := by
  simp only [opn, List.any_eq_true, Bool.and_eq_true, decide_eq_true_eq, List.isPrefixOf_iff_prefix]
  constructor
  · rintro ⟨s, hs, ⟨h1, h2⟩, h3⟩
    exact ⟨by rintro rfl; simp at h1, s, hs, h2, h3⟩
  · rintro ⟨h1, s, hs, h2, h3⟩
    exact ⟨s, hs, ⟨List.length_pos_iff.2 h1, h2⟩, h3⟩
theorem Acc.opn {S : List Sq} (h : Acc S) {w : List Int} : opn S w = true ↔ w ≠ [] ∧ Dom S w ∧ resOf S w = emp := by
  rw [opn_iff]
  constructor
  · rintro ⟨h1, s, hs, h2, h3⟩
    refine ⟨h1, .inr ⟨s, hs, h3⟩, h.res_emp.2 fun t ht e => ?_⟩
    have := h.apart t ht s hs (e ▸ h3)
    rw [← e, this] at h2
    omega
  · rintro ⟨h1, h2, h3⟩
    refine ⟨h1, ?_⟩
    rcases h2 with h2 | ⟨s, hs, h2⟩
    · exact absurd h2 h1
    · refine ⟨s, hs, ?_, h2⟩
      rcases Nat.lt_or_ge w.length s.ks.length with h4 | h4
      · exact h4
      · exact absurd (h2.eq_of_length_le h4).symm (h.res_emp.1 h3 s hs)
/-- The word that counts. -/
def was (S : List Sq) (w : List Int) : List Int := if opn S w = true then w else []
theorem was_no {S : List Sq} {w : List Int} (h : opn S w = false) : was S w = [] := by simp [was, h]
theorem was_yes {S : List Sq} {w : List Int} (h : opn S w = true) : was S w = w := by simp [was, h]
theorem was_ne {S : List Sq} {w : List Int} : was S w ≠ [] ↔ opn S w = true := by
  cases h : Ytbdcnoahalknkaa.opn S w with
  | false => simp [was_no h]
  | true => simpa [was_yes h] using (opn_iff.1 h).1
theorem was_len {S : List Sq} (h : Acc S) {w : List Int} : (was S w).length ≤ 5 := by
  cases h2 : Ytbdcnoahalknkaa.opn S w with
  | false => simp [was_no h2]
  | true =>
    rw [was_yes h2]
    obtain ⟨_, s, hs, h3, _⟩ := opn_iff.1 h2
    have := (chk_ok (h.chk s hs)).2.1
    omega
structure Fed where
  w : List Int
  r : ByteArray
  n : Int
def feed (S : List Sq) (w : List Int) (x : Int) : Fed := match hit S (was S w ++ [x]) with
  | some s => ⟨[], s.r, 2⟩
  | none => if opn S (was S w ++ [x]) = true then ⟨was S w ++ [x], emp, 1⟩ else if opn S w = true then ⟨[], emp, 3⟩ else ⟨[], emp, 0⟩
theorem feed_hit {S : List Sq} {w : List Int} {x : Int} {s : Sq} (h : hit S (was S w ++ [x]) = some s) : feed S w x = ⟨[], s.r, 2⟩ := by simp [feed, h]
theorem feed_go {S : List Sq} {w : List Int} {x : Int} (h : hit S (was S w ++ [x]) = none) (h2 : opn S (was S w ++ [x]) = true) : feed S w x = ⟨was S w ++ [x], emp, 1⟩ := by simp [feed, h, h2]
theorem feed_off {S : List Sq} {w : List Int} {x : Int} (h : hit S (was S w ++ [x]) = none) (h2 : opn S (was S w ++ [x]) = false) (h3 : opn S w = true) : feed S w x = ⟨[], emp, 3⟩ := by simp [feed, h, h2, h3]
theorem feed_no {S : List Sq} {w : List Int} {x : Int} (h : hit S (was S w ++ [x]) = none) (h2 : opn S (was S w ++ [x]) = false) (h3 : opn S w = false) : feed S w x = ⟨[], emp, 0⟩ := by simp [feed, h, h2, h3]

/-! ### Pending -/
/-- The numbers that can come next. -/
def cand (S : List Sq) (w : List Int) : List Int := (S.filter fun s => decide (w.length < s.ks.length) && w.isPrefixOf s.ks).map fun s => s.ks.getD w.length 0
theorem prefix_snoc {w l : List Int} {k : Int} : w ++ [k] <+: l ↔ w <+: l ∧ w.length < l.length ∧ l.getD w.length 0 = k := by
  constructor
  · rintro ⟨r, rfl⟩
    refine ⟨⟨k :: r, by simp⟩, by simp, by simp⟩
  · rintro ⟨⟨r, rfl⟩, h2, h3⟩
    cases r with
    | nil => simp at h2
    | cons a r =>
      have : a = k := by simpa using h3
      subst this
      exact ⟨r, by simp⟩
theorem mem_cand {S : List Sq} {w : List Int} {k : Int} : k ∈ cand S w ↔ Dom S (w ++ [k]) := by
  simp only [cand, List.mem_map, List.mem_filter, Bool.and_eq_true, decide_eq_true_eq, List.isPrefixOf_iff_prefix, Dom]
  constructor
  · rintro ⟨s, ⟨hs, h1, h2⟩, h3⟩
    exact .inr ⟨s, hs, prefix_snoc.2 ⟨h2, h1, h3⟩⟩
  · rintro (h | ⟨s, hs, h⟩)
    · simp at h
    · obtain ⟨h1, h2, h3⟩ := prefix_snoc.1 h
      exact ⟨s, ⟨hs, h2, h1⟩, h3⟩
def insI (k : Int) : List Int → List Int
  | [] => [k]
  | x :: l => if k < x then k :: x :: l else if k = x then x :: l else x :: insI k l
theorem mem_insI {k y : Int} : ∀ {l : List Int}, y ∈ insI k l ↔ y = k ∨ y ∈ l
  | [] => by simp [insI]
  | x :: l => by
    have ih := mem_insI (k := k) (y := y) (l := l)
    unfold insI
    split
    · simp
    · split
      · rename_i h; subst h; simp
      · simp only [List.mem_cons, ih]
        constructor <;> (rintro (h | h | h) <;> simp [h])
theorem insI_rising {k : Int} : ∀ {l : List Int}, l.Pairwise (· < ·) → (insI k l).Pairwise (· < ·)
  | [], _ => by simp [insI]
  | x :: l, h => by
    obtain ⟨h1, h2⟩ := List.pairwise_cons.1 h
    have ih := insI_rising (k := k) h2
    unfold insI
    split
    · rename_i h3
      refine List.pairwise_cons.2 ⟨fun y hy => ?_, h⟩
      rcases List.mem_cons.1 hy with rfl | hy
      · exact h3
      · have := h1 y hy; omega
    · split
      · exact h
      · refine List.pairwise_cons.2 ⟨fun y hy => ?_, ih⟩
        rcases mem_insI.1 hy with rfl | hy
        · omega
        · exact h1 y hy
theorem insI_len {k : Int} : ∀ {l : List Int}, (insI k l).length ≤ l.length + 1
  | [] => by simp [insI]
  | x :: l => by
    have ih := insI_len (k := k) (l := l)
    unfold insI
    split
    · simp
    · split <;> simp <;> omega
def pend (S : List Sq) (w : List Int) : List Int := (cand S (was S w)).foldr insI []
theorem fold_facts (l : List Int) : (l.foldr insI []).Pairwise (· < ·) ∧ (∀ k, k ∈ l.foldr insI [] ↔ k ∈ l) ∧ (l.foldr insI []).length ≤ l.length := by
  induction l with
  | nil => simp
  | cons x l ih =>
    simp only [List.foldr_cons]
    refine ⟨insI_rising ih.1, fun k => ?_, ?_⟩
    · rw [mem_insI, ih.2.1, List.mem_cons]
    · have := insI_len (k := x) (l := l.foldr insI []); simp; omega
theorem pend_rising (S : List Sq) (w : List Int) : (pend S w).Pairwise (· < ·) := (fold_facts _).1
theorem mem_pend {S : List Sq} {w : List Int} {k : Int} : k ∈ pend S w ↔ Dom S (was S w ++ [k]) := by
  rw [pend, (fold_facts _).2.1, mem_cand]
theorem pend_len (S : List Sq) (w : List Int) : (pend S w).length ≤ S.length := by
  refine Nat.le_trans (fold_facts _).2.2 ?_
  unfold cand
  rw [List.length_map]
  exact List.length_filter_le _ _
theorem Acc.dom_pos {S : List Sq} (h : Acc S) {w : List Int} {k : Int} (hd : Dom S (w ++ [k])) : 1 ≤ k := by
  rcases hd with hd | ⟨s, hs, r, hr⟩
  · simp at hd
  · exact (chk_ok (h.chk s hs)).2.2.1 k (by rw [← hr]; simp)

def longest : List Sq → Nat
  | [] => 0
  | s :: r => max s.ks.length (longest r)
theorem longest_push (S : List Sq) (s : Sq) : longest (S ++ [s]) = max (longest S) s.ks.length := by
  induction S with
  | nil => simp [longest]
  | cons t S ih => simp only [List.cons_append, longest, ih]; omega
theorem le_longest {S : List Sq} {s : Sq} (h : s ∈ S) : s.ks.length ≤ longest S := by
  induction S with
  | nil => simp at h
  | cons t S ih =>
    simp only [longest]
    rcases List.mem_cons.1 h with rfl | h
    · omega
    · have := ih h; omega
end Go.Proofs.Ytbdcnoahalknkaa
