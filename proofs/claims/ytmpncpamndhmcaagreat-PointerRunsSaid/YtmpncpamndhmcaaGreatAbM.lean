/-
  Maps, iterators and growing rows, for the walks: what holds of lists of entries.
-/
import Derived.Test.YtmpncpamndhmcaaGreatAbL
namespace Go.Ab
open Go.RowKit
set_option linter.unusedVariables false
set_option linter.unusedSimpArgs false

/-! ### Maps with whole numbers as keys -/
section
variable {E : Type} {key : E → Int} {val : E → AV}
def mI (key : E → Int) (val : E → AV) (m : List E) : List (Value × AV) := m.map fun e => (.int .i64 (key e), val e)
theorem mfind_none {s : Int} : ∀ (m : List E) (i : Nat), (∀ e ∈ m, key e ≠ s) → mfind 1 (.int .i64 s) (mI key val m) i = some none
  | [], _, _ => rfl
  | e :: m, i, h => by
    have h1 : (s == key e) = false := by simpa using Ne.symm (h e (by simp))
    simp only [mI, List.map_cons, mfind, sameK, if_true, h1]
    exact mfind_none m (i + 1) fun x hx => h x (by simp [hx])
theorem mfind_some {s : Int} {e : E} {m2 : List E} : ∀ (m1 : List E) (i : Nat), (∀ x ∈ m1, key x ≠ s) → key e = s → mfind 1 (.int .i64 s) (mI key val (m1 ++ e :: m2)) i = some (some (i + m1.length, val e))
  | [], i, _, he => by simp [mI, mfind, sameK, he]
  | x :: m1, i, h, he => by
    have h1 : (s == key x) = false := by simpa using Ne.symm (h x (by simp))
    have ih := mfind_some (m2 := m2) (e := e) m1 (i + 1) (fun y hy => h y (by simp [hy])) he
    simp only [mI, List.map_cons, List.cons_append, mfind, sameK, if_true, h1]
    rw [show i + (x :: m1).length = i + 1 + m1.length by simp; omega]
    exact ih
theorem mI_erase {m1 m2 : List E} {e : E} : (mI key val (m1 ++ e :: m2)).eraseIdx m1.length = mI key val (m1 ++ m2) := by
  simp only [mI, List.map_append, List.map_cons]
  rw [List.eraseIdx_append_of_length_le (by simp)]
  simp
end

/-! ### When the entries were made -/
def Stp (st : List Nat) (cl n : Nat) : Prop := st.length = n ∧ st.Nodup ∧ ∀ x ∈ st, x < cl
theorem Stp.nil : Stp [] 0 0 := ⟨rfl, .nil, fun _ h => by cases h⟩
theorem Stp.push {st : List Nat} {cl n : Nat} (h : Stp st cl n) : Stp (st ++ [cl]) (cl + 1) (n + 1) := by
  refine ⟨by simp [h.1], List.nodup_append.2 ⟨h.2.1, by simp, fun a ha b hb => ?_⟩, fun x hx => ?_⟩
  · have := h.2.2 a ha
    have : b = cl := by simpa using hb
    omega
  · rcases List.mem_append.1 hx with hx | hx
    · have := h.2.2 x hx; omega
    · have : x = cl := by simpa using hx
      omega
theorem Stp.erase {st : List Nat} {cl n : Nat} (h : Stp st cl (n + 1)) (i : Nat) (hi : i ≤ n) : Stp (st.eraseIdx i) cl n := by
  refine ⟨by rw [List.length_eraseIdx, h.1, if_pos (by omega)]; omega, h.2.1.sublist (List.eraseIdx_sublist ..), fun x hx => h.2.2 x ((List.eraseIdx_sublist ..).subset hx)⟩
theorem Stp.len {st : List Nat} {cl n n' : Nat} (h : Stp st cl n) (e : n = n') : Stp st cl n' := e ▸ h

theorem entF_of : ∀ (es : List (Value × AV)) (st : List Nat) (j : Nat) (e : Value × AV) (s : Nat), st.Nodup → es[j]? = some e → st[j]? = some s → entF es st s = some e
  | [], st, j, e, s, _, h, _ => by simp at h
  | x :: es, [], j, e, s, _, _, h => by simp at h
  | x :: es, b :: st, 0, e, s, _, h, h2 => by
    simp at h h2
    subst h; subst h2
    simp [entF]
  | x :: es, b :: st, j + 1, e, s, hn, h, h2 => by
    have h2' : st[j]? = some s := by simpa using h2
    have hb : b ≠ s := fun e => (List.nodup_cons.1 hn).1 (e ▸ List.mem_of_getElem? h2')
    simp only [entF, if_neg hb]
    exact entF_of es st j e s (List.nodup_cons.1 hn).2 (by simpa using h) h2'

/-! ### Iterations -/
/-- How many are still to come. -/
def left (st seen : List Nat) : Nat := (st.filter fun x => !seen.contains x).length
theorem left_le (st seen : List Nat) (s : Nat) : left st (s :: seen) ≤ left st seen := by
  induction st with
  | nil => exact Nat.le_refl _
  | cons a st ih =>
    simp only [left, List.filter_cons] at ih ⊢
    by_cases h1 : seen.contains a = true
    · have h2 : (s :: seen).contains a = true := by simp at h1 ⊢; exact .inr h1
      simp only [h1, h2, Bool.not_true, Bool.false_eq_true, if_false]; exact ih
    · have h1' : seen.contains a = false := by simpa using h1
      by_cases h2 : (s :: seen).contains a = true
      · simp only [h1', h2, Bool.not_false, Bool.not_true, if_true, Bool.false_eq_true, if_false, List.length_cons]; omega
      · have h2' : (s :: seen).contains a = false := by simpa using h2
        simp only [h1', h2', Bool.not_false, if_true, List.length_cons]; omega
theorem left_lt {st seen : List Nat} {s : Nat} (h : s ∈ st) (hs : s ∉ seen) : left st (s :: seen) < left st seen := by
  induction st with
  | nil => cases h
  | cons a st ih =>
    have hle := left_le st seen s
    simp only [left, List.filter_cons] at ih hle ⊢
    rcases List.mem_cons.1 h with rfl | h
    · have h1 : seen.contains s = false := by simpa using hs
      have h2 : (s :: seen).contains s = true := by simp
      simp only [h1, h2, Bool.not_false, Bool.not_true, if_true, Bool.false_eq_true, if_false, List.length_cons]; omega
    · have ih := ih h
      by_cases h1 : seen.contains a = true
      · have h2 : (s :: seen).contains a = true := by simp at h1 ⊢; exact .inr h1
        simp only [h1, h2, Bool.not_true, Bool.false_eq_true, if_false]; exact ih
      · have h1' : seen.contains a = false := by simpa using h1
        by_cases h2 : (s :: seen).contains a = true
        · simp only [h1', h2, Bool.not_false, Bool.not_true, if_true, Bool.false_eq_true, if_false, List.length_cons]; omega
        · have h2' : (s :: seen).contains a = false := by simpa using h2
          simp only [h1', h2', Bool.not_false, if_true, List.length_cons]; omega
/-- The entries that were shown and meet a test. -/
def vis {E : Type} (c : E → Bool) (m : List E) (st seen : List Nat) : List E := ((m.zip st).filter fun x => seen.contains x.2 && c x.1).map (·.1)
theorem vis_nil {E : Type} (c : E → Bool) (m : List E) (st : List Nat) : vis c m st [] = [] := by
  have : (m.zip st).filter (fun x => ([] : List Nat).contains x.2 && c x.1) = [] := by
    rw [List.filter_eq_nil_iff]; intro x _; simp
  simp only [vis, this, List.map_nil]
theorem vis_out {E : Type} (c : E → Bool) (m : List E) (st seen : List Nat) (s : Nat) (h : s ∉ st) : vis c m st (s :: seen) = vis c m st seen := by
  unfold vis
  congr 1
  apply List.filter_congr
  intro x hx
  have : x.2 ∈ st := (List.of_mem_zip hx).2
  have hne : x.2 ≠ s := fun e => h (e ▸ this)
  have : (s :: seen).contains x.2 = seen.contains x.2 := by simp [hne]
  rw [this]
theorem vis_cons {E : Type} (c : E → Bool) (x : E) (m : List E) (b : Nat) (st seen : List Nat) : vis c (x :: m) (b :: st) seen = if seen.contains b && c x then x :: vis c m st seen else vis c m st seen := by
  unfold vis
  rw [List.zip_cons_cons, List.filter_cons]
  split
  · rename_i h; simp only [h, if_true, List.map_cons]
  · rename_i h; simp only [h, if_false]
theorem vis_step {E : Type} (c : E → Bool) : ∀ (m : List E) (st seen : List Nat) (j : Nat) (e : E) (s : Nat), st.Nodup → m[j]? = some e → st[j]? = some s → s ∉ seen →
    (vis c m st (s :: seen)).Perm (vis c m st seen ++ if c e then [e] else [])
  | [], st, seen, j, e, s, _, h, _, _ => by simp at h
  | x :: m, [], seen, j, e, s, _, _, h, _ => by simp at h
  | x :: m, b :: st, seen, 0, e, s, hn, h, h2, hs => by
    simp at h h2
    subst h; subst h2
    have h1 : seen.contains b = false := by simpa using hs
    have h3 : (b :: seen).contains b = true := by simp
    rw [vis_cons, vis_cons, vis_out c m st seen b (List.nodup_cons.1 hn).1, h1, h3]
    cases c x with
    | true => simpa using (List.perm_append_comm (l₁ := [x]) (l₂ := vis c m st seen))
    | false => simp
  | x :: m, b :: st, seen, j + 1, e, s, hn, h, h2, hs => by
    have h2' : st[j]? = some s := by simpa using h2
    have hb : b ≠ s := fun e => (List.nodup_cons.1 hn).1 (e ▸ List.mem_of_getElem? h2')
    have ih := vis_step c m st seen j e s (List.nodup_cons.1 hn).2 (by simpa using h) h2' hs
    have h3 : (s :: seen).contains b = seen.contains b := by simp [hb]
    rw [vis_cons, vis_cons, h3]
    split
    · exact ih.cons x
    · exact ih
theorem vis_all {E : Type} (c : E → Bool) : ∀ (m : List E) (st seen : List Nat), m.length = st.length → (∀ s ∈ st, s ∈ seen) → vis c m st seen = m.filter c
  | [], st, seen, _, _ => by simp [vis]
  | x :: m, [], seen, h, _ => by simp at h
  | x :: m, b :: st, seen, h, hs => by
    have h1 : seen.contains b = true := by simpa using hs b (by simp)
    have ih := vis_all c m st seen (by simpa using h) (fun s h => hs s (by simp [h]))
    rw [vis_cons, ih, h1, List.filter_cons]
    simp

theorem vis_sub {E : Type} (c : E → Bool) (m : List E) (st seen : List Nat) : (vis c m st seen).length ≤ m.length := by
  unfold vis
  have h1 := List.length_filter_le (fun x : E × Nat => seen.contains x.2 && c x.1) (m.zip st)
  have h2 : (m.zip st).length ≤ m.length := by simp [List.length_zip]; omega
  simp only [List.length_map]
  omega
theorem Sub.none_of {H H1 : AH} {b : Nat} (h : Sub H H1) (hb : H1 b = none) : H b = none := by
  cases e : H b with
  | none => rfl
  | some o => rw [h b o e] at hb; cases hb

/-! ### Rows that grow -/
/-- A row of one's own, or none. -/
def Row (H0 H : AH) (out : AV) (cs : List AV) (n sz : Nat) : Prop := (n = 0 ∧ cs = [] ∧ out = vnil ∧ H = H0) ∨ ∃ r, out = .sl r 0 n sz false ∧ H0 r = none ∧ H = upd H0 r (.cells cs)
theorem Row.sub {H0 H : AH} {out : AV} {cs : List AV} {n sz : Nat} (h : Row H0 H out cs n sz) : Sub H0 H := by
  rcases h with ⟨_, _, _, rfl⟩ | ⟨r, _, hr, rfl⟩
  · exact .refl _
  · exact (Sub.refl _).upd hr
theorem Row.nil (H : AH) (sz : Nat) : Row H H vnil [] 0 sz := .inl ⟨rfl, rfl, rfl, rfl⟩
theorem Row.mk {H0 : AH} {r : Nat} {cs : List AV} {n sz : Nat} (h : H0 r = none) : Row H0 (upd H0 r (.cells cs)) (.sl r 0 n sz false) cs n sz := .inr ⟨r, rfl, h, rfl⟩
/-- The row, where another block turns. -/
theorem Row.turn {B H : AH} {it : Nat} {X X' : AO} {out : AV} {cs : List AV} {n sz : Nat} (h : Row (upd B it X) H out cs n sz) : Row (upd B it X') (upd H it X') out cs n sz := by
  rcases h with ⟨h1, h2, h3, rfl⟩ | ⟨r, h1, hr, rfl⟩
  · refine .inl ⟨h1, h2, h3, ?_⟩
    funext j; simp only [upd_apply]; split <;> rfl
  · have hne : r ≠ it := by rintro rfl; simp [upd_apply] at hr
    refine .inr ⟨r, h1, ?_, ?_⟩
    · simp only [upd_apply, if_neg hne] at hr ⊢; exact hr
    · funext j
      simp only [upd_apply]
      by_cases e : j = it
      · subst e; rw [if_pos rfl, if_neg (Ne.symm hne), if_pos rfl]
      · rw [if_neg e, if_neg e, if_neg e]
/-- One more lot at its end. -/
theorem Row.app {H0 H1 H : AH} {out : AV} {cs ns : List AV} {n m sz bytes : Nat} {k : AV → AH → Prop} (h : Row H0 H1 out cs n sz) (hs : Sub H1 H) (hm : m ≠ 0) (ho : ns.all AV.one = true) (hl : cs.length = n * sz) (hb : (n + m) * bytes ≤ 140737488355328)
    (hk : ∀ r H', H0 r = none → Sub (upd H0 r (.cells (cs ++ ns))) H' → k (.sl r 0 (n + m) sz false) H') : @appK H sz bytes out m ns ⟨k⟩ := by
  have hs0 := h.sub.trans hs
  have free : ∀ r, H r = none → H0 r = none := by
    intro r hr
    cases e : H0 r with
    | none => rfl
    | some o => rw [hs0 r o e] at hr; cases hr
  rcases h with ⟨rfl, rfl, rfl, rfl⟩ | ⟨r, rfl, hr, rfl⟩
  · rw [appK_nil hm]
    refine ⟨⟨ho, by simpa using hb⟩, fun r hr => ?_⟩
    have := hk r (upd H r (.cells ns)) (free r hr) (by simpa using hs.cong)
    simpa using this
  · have hHr : H r = some (.cells cs) := hs r _ (by simp [upd_apply])
    rw [appK_sl]
    refine cellsK_of hHr ⟨⟨ho, rfl, by omega, hb⟩, fun r' hr' => ?_⟩
    rw [List.take_of_length_le (by omega)]
    refine hk r' _ ?_ ?_
    · rcases hr' with rfl | hr'
      · exact hr
      · exact free r' hr'
    · refine Sub.cong fun j o hj => ?_
      simp only [del_apply]
      rw [if_neg (by rintro rfl; rw [hr] at hj; cases hj)]
      exact hs0 j o hj
def slotSn (H : AH) (it : Nat) : List Nat := match H it with
  | some (.it _ _ _ seen) => seen
  | _ => []
theorem slotSn_of {H : AH} {it m since last : Nat} {seen : List Nat} (h : H it = some (.it m since last seen)) : slotSn H it = seen := by simp [slotSn, h]
/-- Two rising lists with the same numbers. -/
theorem rising_eq : ∀ (a b : List Int), a.Pairwise (· < ·) → b.Pairwise (· < ·) → (∀ x, x ∈ a ↔ x ∈ b) → a = b
  | [], [], _, _, _ => rfl
  | [], y :: b, _, _, h => absurd ((h y).2 (by simp)) (by simp)
  | x :: a, [], _, _, h => absurd ((h x).1 (by simp)) (by simp)
  | x :: a, y :: b, ha, hb, h => by
    obtain ⟨h1, h2⟩ := List.pairwise_cons.1 ha
    obtain ⟨h3, h4⟩ := List.pairwise_cons.1 hb
    have e : x = y := by
      have hx := (h x).1 (by simp)
      have hy := (h y).2 (by simp)
      rcases List.mem_cons.1 hx with hx | hx
      · exact hx
      · rcases List.mem_cons.1 hy with hy | hy
        · exact hy.symm
        · have := h3 x hx; have := h1 y hy; omega
    subst e
    rw [rising_eq a b h2 h4 fun z => ?_]
    constructor
    · intro hz
      rcases List.mem_cons.1 ((h z).1 (by simp [hz])) with e | hz'
      · have := h1 z hz; omega
      · exact hz'
    · intro hz
      rcases List.mem_cons.1 ((h z).2 (by simp [hz])) with e | hz'
      · have := h3 z hz; omega
      · exact hz'
/-- A row that is looked at. -/
def RowIn (H : AH) (out : AV) (cs : List AV) (n sz : Nat) : Prop := cs.length = n * sz ∧ ((n = 0 ∧ out = vnil) ∨ ∃ r f, out = .sl r 0 n sz f ∧ H r = some (.cells cs))
theorem RowIn.nil (H : AH) (sz : Nat) : RowIn H vnil [] 0 sz := ⟨by simp, .inl ⟨rfl, rfl⟩⟩
theorem Row.rin {H0 H : AH} {out : AV} {cs : List AV} {n sz : Nat} (h : Row H0 H out cs n sz) (hl : cs.length = n * sz) : RowIn H out cs n sz := by
  rcases h with ⟨rfl, rfl, rfl, rfl⟩ | ⟨r, rfl, _, rfl⟩
  · exact RowIn.nil _ _
  · exact ⟨hl, .inr ⟨r, false, rfl, by simp [upd_apply]⟩⟩
/-- The cells of whole numbers, of elements. -/
theorem viat {l : List Int} {j : Nat} (h : j < l.length) : ((l.map vi).drop j).take 1 = [vi l[j]] := by
  rw [← List.map_drop, List.drop_eq_getElem_cons h]; rfl
def flat {E : Type} (enc : E → List AV) (l : List E) : List AV := (l.map enc).flatten
theorem flat_len {E : Type} {enc : E → List AV} {k : Nat} (he : ∀ x, (enc x).length = k) (l : List E) : (flat enc l).length = l.length * k := by
  induction l with
  | nil => simp [flat]
  | cons x l ih => simp only [flat, List.map_cons, List.flatten_cons, List.length_append, he, List.length_cons] at ih ⊢; rw [ih, Nat.add_mul]; omega
theorem flat_drop {E : Type} {enc : E → List AV} {k : Nat} (he : ∀ x, (enc x).length = k) : ∀ (l : List E) (j : Nat) (h : j < l.length), (flat enc l).drop (j * k) = enc l[j] ++ flat enc (l.drop (j + 1))
  | x :: l, 0, _ => by simp [flat]
  | x :: l, j + 1, h => by
    have ih := flat_drop he l j (by simpa using h)
    have e : flat enc (x :: l) = enc x ++ flat enc l := by simp [flat]
    have e2 : (enc x ++ flat enc l).drop k = flat enc l := by rw [← he x, List.drop_left]
    rw [e, Nat.add_mul, Nat.one_mul, Nat.add_comm, ← List.drop_drop, e2, ih]
    simp
theorem flat_app {E : Type} {enc : E → List AV} (a b : List E) : flat enc (a ++ b) = flat enc a ++ flat enc b := by simp [flat]
theorem flat_one {E : Type} {enc : E → List AV} (a : E) : flat enc [a] = enc a := by simp [flat]
theorem flat_nil {E : Type} {enc : E → List AV} : flat enc [] = [] := rfl
end Go.Ab
