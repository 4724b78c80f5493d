/-
  The tree of sequences in the heap: what the view holds of it, and what a step of its growth does. Conditions: as each lemma states them.
-/
import Derived.Test.YtbdcnoahalknkaaD1
namespace Go.Proofs.Ytbdcnoahalknkaa
open Go Go.Ab Go.RowKit
set_option linter.unusedSimpArgs false
set_option linter.unusedVariables false
set_option linter.unnecessarySimpa false


def pO (o : Option Nat) : AV := match o with
  | some b => pA b
  | none => .pl (.pointer none)
def mO (o : Option Nat) : AV := match o with
  | some m => .pl (.map (some m))
  | none => .pl (.map none)
theorem pO_some (b : Nat) : pO (some b) = pA b := rfl
theorem pO_none : pO none = .pl (.pointer none) := rfl
theorem mO_some (b : Nat) : mO (some b) = .pl (.map (some b)) := rfl
theorem mO_none : mO none = .pl (.map none) := rfl
/-- The tree: nodes and maps by their words. -/
structure Tri (H : AH) (D : List Int → Prop) (res : List Int → ByteArray) (nd mp : List Int → Option Nat) : Prop where
  inj : ∀ w w' b, nd w = some b → nd w' = some b → w = w'
  minj : ∀ w w' m, mp w = some m → mp w' = some m → w = w'
  node : ∀ w b, nd w = some b → H b = some (.cells [vs8 (res w), mO (mp w)])
  kids : ∀ w m, mp w = some m → ∃ ks st cl, H m = some (.map (mI id (fun k => pO (nd (w ++ [k]))) ks) st cl) ∧ Stp st cl ks.length ∧ ks.Nodup ∧ ∀ k, k ∈ ks ↔ D (w ++ [k])
  leaf : ∀ w, mp w = none → ∀ k, ¬ D (w ++ [k])
  dom : ∀ w, (nd w).isSome = true ↔ D w
  own : ∀ w m, mp w = some m → D w
def Own (nd mp : List Int → Option Nat) (j : Nat) : Prop := (∃ w, nd w = some j) ∨ ∃ w, mp w = some j
/-- The tree lies in blocks that B does not have. -/
structure TriB (B H : AH) (D : List Int → Prop) (res : List Int → ByteArray) (nd mp : List Int → Option Nat) : Prop where
  t : Tri H D res nd mp
  sub : Sub B H
  free : ∀ j, Own nd mp j → B j = none

section
variable {H B : AH} {D : List Int → Prop} {res : List Int → ByteArray} {nd mp : List Int → Option Nat} {w : List Int} {b m : Nat}
theorem Tri.mono {H' : AH} (h : Tri H D res nd mp) (hs : Sub H H') : Tri H' D res nd mp :=
  ⟨h.inj, h.minj, fun w b hb => hs _ _ (h.node w b hb), fun w m hm => by
    obtain ⟨ks, st, cl, h1, h2⟩ := h.kids w m hm
    exact ⟨ks, st, cl, hs _ _ h1, h2⟩, h.leaf, h.dom, h.own⟩
theorem Tri.cong {D' : List Int → Prop} (h : Tri H D res nd mp) (hd : ∀ w, D w ↔ D' w) : Tri H D' res nd mp :=
  ⟨h.inj, h.minj, h.node, fun w m hm => by
    obtain ⟨ks, st, cl, h1, h2, h3, h4⟩ := h.kids w m hm
    exact ⟨ks, st, cl, h1, h2, h3, fun k => (h4 k).trans (hd _)⟩, fun w hw k hk => h.leaf w hw k ((hd _).2 hk), fun w => (h.dom w).trans (hd _), fun w m hm => (hd _).1 (h.own w m hm)⟩
theorem Tri.nd_some (h : Tri H D res nd mp) (hd : D w) : ∃ b, nd w = some b := Option.isSome_iff_exists.1 ((h.dom w).2 hd)
theorem Tri.nd_none (h : Tri H D res nd mp) (hd : ¬ D w) : nd w = none := by
  cases e : nd w with
  | none => rfl
  | some b => exact absurd ((h.dom w).1 (by rw [e]; rfl)) hd
theorem Tri.ndm (h : Tri H D res nd mp) (w' : List Int) (h1 : nd w = some b) : mp w' ≠ some b := by
  intro e
  obtain ⟨ks, st, cl, h2, _⟩ := h.kids w' b e
  rw [h.node w b h1] at h2
  cases h2
theorem Tri.held (h : Tri H D res nd mp) {j : Nat} (hj : Own nd mp j) : H j ≠ none := by
  rcases hj with ⟨w, hw⟩ | ⟨w, hw⟩
  · rw [h.node w j hw]; simp
  · obtain ⟨ks, st, cl, h2, _⟩ := h.kids w j hw
    rw [h2]; simp
/-- A look at a child. -/
theorem kid_find (h : Tri H D res nd mp) (hm : mp w = some m) (k : Int) : ∃ es st cl, H m = some (.map es st cl) ∧ ((¬ D (w ++ [k]) ∧ mfind 1 (.int .i64 k) es 0 = some none) ∨ (D (w ++ [k]) ∧ ∃ j, mfind 1 (.int .i64 k) es 0 = some (some (j, pO (nd (w ++ [k])))))) := by
  obtain ⟨ks, st, cl, h1, h2, h3, h4⟩ := h.kids w m hm
  refine ⟨_, st, cl, h1, ?_⟩
  rcases split_key id k ks with h5 | ⟨m1, e, m2, rfl, h5, h6⟩
  · refine .inl ⟨fun hd => ?_, mfind_none ks 0 h5⟩
    exact h5 k ((h4 k).2 hd) rfl
  · have h6' : e = k := h6
    subst h6'
    refine .inr ⟨(h4 e).1 (by simp), 0 + m1.length, mfind_some m1 0 h5 rfl⟩

/-- A node gets a map. -/
theorem TriB.map (h : TriB B H D res nd mp) (hb : nd w = some b) (hw : mp w = none) (hm : H m = none) :
    TriB B (upd (upd H m (.map [] [] 0)) b (.cells [vs8 (res w), mO (some m)])) D res nd (fun v => if v = w then some m else mp v) := by
  have hbm : b ≠ m := by rintro rfl; rw [h.t.node w b hb] at hm; cases hm
  have hB : B b = none := h.free b (.inl ⟨w, hb⟩)
  have hBm : B m = none := h.sub.none_of hm
  have old : ∀ v m', mp v = some m' → m' ≠ m := by
    rintro v m' h1 rfl
    obtain ⟨ks, st, cl, h2, _⟩ := h.t.kids v m' h1
    rw [hm] at h2; cases h2
  refine ⟨⟨h.t.inj, ?_, ?_, ?_, ?_, h.t.dom, ?_⟩, ?_, ?_⟩
  · intro v v' m' h1 h2
    split at h1 <;> split at h2
    · simp_all
    · have := Option.some.inj h1; subst this; exact absurd rfl (old _ _ h2)
    · have := Option.some.inj h2; subst this; exact absurd rfl (old _ _ h1)
    · exact h.t.minj v v' m' h1 h2
  · intro v c hc
    by_cases e : v = w
    · subst e
      rw [hb] at hc
      obtain rfl := Option.some.inj hc
      simp [upd_apply]
    · have h1 : c ≠ b := by rintro rfl; exact e (h.t.inj v w c hc hb)
      have h2 : c ≠ m := by rintro rfl; rw [h.t.node v c hc] at hm; cases hm
      simp only [upd_apply, if_neg h1, if_neg h2, if_neg e]
      exact h.t.node v c hc
  · intro v m' h1
    split at h1
    · rename_i e
      obtain rfl := Option.some.inj h1
      subst e
      exact ⟨[], [], 0, by simp [upd_apply, Ne.symm hbm, mI], Stp.nil, .nil, fun k => by simpa using h.t.leaf v hw k⟩
    · obtain ⟨ks, st, cl, h2, h3⟩ := h.t.kids v m' h1
      have h4 : m' ≠ b := by rintro rfl; exact h.t.ndm v hb h1
      refine ⟨ks, st, cl, ?_, h3⟩
      simp only [upd_apply, if_neg h4, if_neg (old v m' h1)]
      exact h2
  · intro v h1 k
    split at h1
    · cases h1
    · exact h.t.leaf v h1 k
  · intro v m' h1
    split at h1
    · rename_i e; subst e; exact (h.t.dom v).1 (by rw [hb]; rfl)
    · exact h.t.own v m' h1
  · intro j o hj
    have h1 : j ≠ b := by rintro rfl; rw [hB] at hj; cases hj
    have h2 : j ≠ m := by rintro rfl; rw [hBm] at hj; cases hj
    simp only [upd_apply, if_neg h1, if_neg h2]
    exact h.sub j o hj
  · rintro j (⟨v, h1⟩ | ⟨v, h1⟩)
    · exact h.free j (.inl ⟨v, h1⟩)
    · dsimp only at h1
      split at h1
      · obtain rfl := Option.some.inj h1; exact hBm
      · exact h.free j (.inr ⟨v, h1⟩)

/-- A map gets a child. -/
theorem TriB.push {k : Int} {c : Nat} {es : List (Value × AV)} {st : List Nat} {cl : Nat} (h : TriB B H D res nd mp) (hw : mp w = some m) (hd : ¬ D (w ++ [k])) (hr : res (w ++ [k]) = ⟨#[]⟩) (hc : H c = none) (hes : H m = some (.map es st cl)) :
    TriB B (upd (upd H c (.cells [vs8 ⟨#[]⟩, mO none])) m (.map (es ++ [(.int .i64 k, pA c)]) (st ++ [cl]) (cl + 1))) (fun v => D v ∨ v = w ++ [k]) res (fun v => if v = w ++ [k] then some c else nd v) mp := by
  obtain ⟨ks, st', cl', h1, h2, h3, h4⟩ := h.t.kids w m hw
  rw [hes] at h1
  cases h1
  have hcm : c ≠ m := by rintro rfl; rw [hes] at hc; cases hc
  have hBc : B c = none := h.sub.none_of hc
  have hBm : B m = none := h.free m (.inr ⟨w, hw⟩)
  have hnd := h.t.nd_none hd
  have old : ∀ v b, nd v = some b → b ≠ c := by
    rintro v b h5 rfl
    rw [h.t.node v b h5] at hc; cases hc
  have nom : mp (w ++ [k]) = none := by
    cases e : mp (w ++ [k]) with
    | none => rfl
    | some m' => exact absurd (h.t.own _ _ e) hd
  have grand : ∀ k', ¬ D (w ++ [k] ++ [k']) := h.t.leaf _ nom
  refine ⟨⟨?_, h.t.minj, ?_, ?_, ?_, ?_, ?_⟩, ?_, ?_⟩
  · intro v v' b h5 h6
    split at h5 <;> split at h6
    · simp_all
    · have := Option.some.inj h5; subst this; exact absurd rfl (old _ _ h6)
    · have := Option.some.inj h6; subst this; exact absurd rfl (old _ _ h5)
    · exact h.t.inj v v' b h5 h6
  · intro v b h5
    split at h5
    · rename_i e
      obtain rfl := Option.some.inj h5
      subst e
      simp only [upd_apply, if_neg hcm, if_true, hr, nom]
    · have h6 : b ≠ m := by rintro rfl; exact h.t.ndm w h5 hw
      simp only [upd_apply, if_neg h6, if_neg (old v b h5)]
      exact h.t.node v b h5
  · intro v m' h5
    by_cases e : v = w
    · subst e
      rw [hw] at h5
      obtain rfl := Option.some.inj h5
      have hk : k ∉ ks := fun hk => hd ((h4 k).1 hk)
      refine ⟨ks ++ [k], _, _, ?_, by simpa using h2.push, ?_, fun x => ?_⟩
      · simp only [upd_apply, if_true]
        congr 2
        simp only [mI, List.map_append, List.map_cons, List.map_nil, id, if_true, pO_some]
        congr 1
        refine List.map_congr_left fun x hx => ?_
        have : ¬ v ++ [x] = v ++ [k] := by
          intro e
          have : x = k := by simpa using e
          subst this
          exact hk hx
        simp only [if_neg this]
      · rw [List.nodup_append]
        exact ⟨h3, by simp, fun a ha b hb e => hk (by rw [List.mem_singleton.1 hb] at e; exact e ▸ ha)⟩
      · rw [List.mem_append, h4, List.mem_singleton]
        simp
    · obtain ⟨ks', st', cl', h6, h7, h8, h9⟩ := h.t.kids v m' h5
      have hm' : m' ≠ m := by rintro rfl; exact e (h.t.minj v w m' h5 hw)
      have hc' : m' ≠ c := by rintro rfl; rw [hc] at h6; cases h6
      have ne : ∀ x, ¬ v ++ [x] = w ++ [k] := by
        intro x e2
        exact e (List.append_inj_left' e2 rfl)
      refine ⟨ks', st', cl', ?_, h7, h8, fun x => ?_⟩
      · simp only [upd_apply, if_neg hm', if_neg hc', ne]
        exact h6
      · rw [h9]
        simp [ne]
  · rintro v h5 x (h6 | h6)
    · exact h.t.leaf v h5 x h6
    · have : v = w := List.append_inj_left' h6 rfl
      rw [this, hw] at h5; cases h5
  · intro v
    skip
    split
    · rename_i e; simp [e]
    · rename_i e; rw [h.t.dom]; simp [e]
  · intro v m' h5
    exact .inl (h.t.own v m' h5)
  · intro j o hj
    have h5 : j ≠ c := by rintro rfl; rw [hBc] at hj; cases hj
    have h6 : j ≠ m := by rintro rfl; rw [hBm] at hj; cases hj
    simp only [upd_apply, if_neg h5, if_neg h6]
    exact h.sub j o hj
  · rintro j (⟨v, h5⟩ | ⟨v, h5⟩)
    · dsimp only at h5
      split at h5
      · obtain rfl := Option.some.inj h5; exact hBc
      · exact h.free j (.inl ⟨v, h5⟩)
    · exact h.free j (.inr ⟨v, h5⟩)

/-- A node's result is set. -/
theorem TriB.set (h : TriB B H D res nd mp) (hb : nd w = some b) (r : ByteArray) :
    TriB B (upd H b (.cells [vs8 r, mO (mp w)])) D (fun v => if v = w then r else res v) nd mp := by
  have hB : B b = none := h.free b (.inl ⟨w, hb⟩)
  refine ⟨⟨h.t.inj, h.t.minj, ?_, ?_, h.t.leaf, h.t.dom, h.t.own⟩, ?_, h.free⟩
  · intro v c hc
    by_cases e : v = w
    · subst e
      rw [hb] at hc
      obtain rfl := Option.some.inj hc
      simp [upd_apply]
    · have h1 : c ≠ b := by rintro rfl; exact e (h.t.inj v w c hc hb)
      simp only [upd_apply, if_neg h1, if_neg e]
      exact h.t.node v c hc
  · intro v m' h1
    obtain ⟨ks, st, cl, h2, h3⟩ := h.t.kids v m' h1
    have h4 : m' ≠ b := by rintro rfl; exact h.t.ndm v hb h1
    refine ⟨ks, st, cl, ?_, h3⟩
    simp only [upd_apply, if_neg h4]
    exact h2
  · intro j o hj
    have h1 : j ≠ b := by rintro rfl; rw [hB] at hj; cases hj
    simp only [upd_apply, if_neg h1]
    exact h.sub j o hj
/-- What B has may change, too. -/
theorem TriB.base {t : Nat} {X X' : AO} (h : TriB B H D res nd mp) (hX : B t = some X) : TriB (upd B t X') (upd H t X') D res nd mp := by
  have ho : ¬ Own nd mp t := fun hO => by have := h.free t hO; rw [hX] at this; cases this
  refine ⟨⟨h.t.inj, h.t.minj, ?_, ?_, h.t.leaf, h.t.dom, h.t.own⟩, ?_, ?_⟩
  · intro w b hb
    have : b ≠ t := by rintro rfl; exact ho (.inl ⟨w, hb⟩)
    simp only [upd_apply, if_neg this]
    exact h.t.node w b hb
  · intro w m hm
    obtain ⟨ks, st, cl, h2, h3⟩ := h.t.kids w m hm
    have : m ≠ t := by rintro rfl; exact ho (.inr ⟨w, hm⟩)
    refine ⟨ks, st, cl, ?_, h3⟩
    simp only [upd_apply, if_neg this]
    exact h2
  · intro j o hj
    simp only [upd_apply] at hj ⊢
    split
    · rename_i e; rw [if_pos e] at hj; exact hj
    · rename_i e
      rw [if_neg e] at hj
      exact h.sub j o hj
  · intro j hO
    have := h.free j hO
    simp only [upd_apply]
    rw [if_neg (by rintro rfl; exact ho hO)]
    exact this
/-- A new block beside the tree. -/
theorem TriB.beside {z : Nat} {X : AO} (h : TriB B H D res nd mp) (hz : H z = none) : TriB (upd B z X) (upd H z X) D res nd mp := by
  refine ⟨h.t.mono ((Sub.refl H).upd hz), h.sub.cong, fun j hO => ?_⟩
  have : j ≠ z := by rintro rfl; exact h.t.held hO hz
  simp only [upd_apply, if_neg this]
  exact h.free j hO
theorem TriB.cong {D' : List Int → Prop} {res' : List Int → ByteArray} (h : TriB B H D res nd mp) (hd : ∀ w, D w ↔ D' w) (hr : ∀ w, res w = res' w) : TriB B H D' res' nd mp := by
  have : res = res' := funext hr
  subst this
  exact ⟨h.t.cong hd, h.sub, h.free⟩
theorem TriB.less {B' : AH} (h : TriB B H D res nd mp) (hs : Sub B' B) : TriB B' H D res nd mp := ⟨h.t, hs.trans h.sub, fun j hj => hs.none_of (h.free j hj)⟩
end
/-- A tree with nothing but its root. -/
theorem TriB.root {B : AH} {r : Nat} (hr : B r = none) : TriB B (upd B r (.cells [vs8 ⟨#[]⟩, mO none])) (fun w => w = []) (fun _ => ⟨#[]⟩) (fun w => if w = [] then some r else none) (fun _ => none) := by
  refine ⟨⟨?_, ?_, ?_, ?_, ?_, ?_, ?_⟩, ?_, ?_⟩
  · intro w w' b h1 h2
    split at h1 <;> split at h2 <;> simp_all
  · intro w w' m h1; cases h1
  · intro w b h1
    split at h1
    · obtain rfl := Option.some.inj h1; simp [upd_apply]
    · cases h1
  · intro w m h1; cases h1
  · intro w _ k h1; simp at h1
  · intro w
    skip
    split <;> simp_all
  · intro w m h1; cases h1
  · exact (Sub.refl B).upd hr
  · rintro j (⟨w, h1⟩ | ⟨w, h1⟩)
    · dsimp only at h1
      split at h1
      · obtain rfl := Option.some.inj h1; exact hr
      · cases h1
    · cases h1
end Go.Proofs.Ytbdcnoahalknkaa
