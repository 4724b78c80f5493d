/-
  The library's sort, as a contract over the view: a row of one's own that holds plain values is sorted in place.
-/
import Derived.Test.YtmpncpamndhmcaaGreatAbL
import Derived.Sort.Grow
namespace Go.Ab
open Go.RowKit Go.Sort
set_option linter.unusedSimpArgs false
set_option linter.unusedVariables false

abbrev rowC {α : Type} (enc : α → Value) (pre : List AV) (zs : List α) (post : List AV) : List AV := pre ++ zs.map (fun z => .pl (enc z)) ++ post

theorem rowC_at {α : Type} {enc : α → Value} {pre post : List AV} {zs : List α} (j : Nat) : (rowC enc pre zs post)[j]? = if j < pre.length then pre[j]? else if j < pre.length + zs.length then (zs[j - pre.length]?).map (fun z => .pl (enc z)) else post[j - (pre.length + zs.length)]? := by
  simp only [rowC, List.append_assoc]
  rw [List.getElem?_append]
  split
  · rfl
  · rw [List.getElem?_append]
    simp only [List.length_map]
    by_cases h : j < pre.length + zs.length
    · rw [if_pos h, if_pos (by omega), List.getElem?_map]
    · rw [if_neg h, if_neg (by omega)]
      congr 1
      omega

section
variable {P : Program} {α : Type} [Inhabited α] {enc : α → Value} {S : Nat → Prop} {W0 w : World} {H : AH} {b : Nat} {pre post : List AV} {zs zs' : List α}

theorem row_holds (hr : RH S W0 H w) (hH : H b = some (.cells (rowC enc pre zs post))) : Holds enc w b pre.length zs.toArray := by
  obtain ⟨C, T, h1, h2, h3⟩ := hr.obj b _ hH
  intro j hj
  have hj' : j < zs.length := by simpa using hj
  have hc : pre.length + j < C.size := by
    have : (rowC enc pre zs post).length = pre.length + zs.length + post.length := by simp [rowC]; omega
    omega
  have ha : (rowC enc pre zs post)[pre.length + j]? = some (.pl (enc zs[j])) := by
    rw [rowC_at, if_neg (by omega), if_pos (by omega), show pre.length + j - pre.length = j by omega, List.getElem?_eq_getElem hj']
    rfl
  have hv := h3 _ _ _ ha (Array.getElem?_eq_getElem hc)
  refine ⟨?_, by simp [World.frozen?, h1]⟩
  rw [World.cell?]
  simp only [h1]
  rw [Array.getElem?_eq_getElem hc, hv.pl_inv]
  congr 2
  rw [getElem!_pos _ _ (by simpa using hj')]
  simp

theorem row_sorted (hr : RH S W0 H w) (hH : H b = some (.cells (rowC enc pre zs post))) (hlen : zs'.length = zs.length) (n : Nat) (os : Array Obj) :
    Evo S H w S (upd H b (.cells (rowC enc pre zs' post))) (grow (putRow enc (Sort.ahead w n) b pre.length zs'.toArray) os) ∧ RH S W0 (upd H b (.cells (rowC enc pre zs' post))) (grow (putRow enc (Sort.ahead w n) b pre.length zs'.toArray) os) := by
  obtain ⟨C, T, h1, h2, h3⟩ := hr.obj b _ hH
  have hlt : b < w.heap.size := hr.lt b _ hH
  have hA : Evo S H w S H (Sort.ahead w n) ∧ RH S W0 H (Sort.ahead w n) := by
    have he : Evo S H w S H (Sort.ahead w n) := ⟨Nat.le_refl _, fun _ _ _ => rfl, fun _ C _ F h => ⟨C, F, h, rfl⟩, fun _ h => h, fun _ h => .inl h, fun _ => .inr (.inl rfl)⟩
    exact ⟨he, ⟨hr.below.trans ⟨rfl, rfl, rfl, Nat.le_refl _, fun _ _ => rfl⟩, hr.sub, hr.bound, hr.lt, hr.free, fun k o hk => (hr.obj k o hk).evo hr he rfl⟩⟩
  have hne : ∀ k, k ≠ b → (putRow enc (Sort.ahead w n) b pre.length zs'.toArray).heap[k]? = (Sort.ahead w n).heap[k]? := fun k hk => by
    simp only [putRow, mapBlock, Array.getElem?_modify]
    rw [if_neg (Ne.symm hk)]
  have hbb : (putRow enc (Sort.ahead w n) b pre.length zs'.toArray).heap[b]? = some (.cells (putCells enc pre.length zs'.toArray C) T (0, 0)) := by
    simp only [putRow, mapBlock, Array.getElem?_modify, if_true, Sort.heap_ahead, h1]
    rfl
  have hsz : (putCells enc pre.length zs'.toArray C).size = C.size := by simp [putCells]
  have hl : (rowC enc pre zs' post).length = (rowC enc pre zs post).length := by simp [rowC, hlen]
  obtain ⟨e1, e2⟩ := evo_write (w' := putRow enc (Sort.ahead w n) b pre.length zs'.toArray) (cs := rowC enc pre zs' post) hA.2 hH h1 rfl rfl rfl (by simp) hne hbb hsz (by rw [hsz, hl]; exact h2) (fun j a v ha hv => by
    have hj : j < C.size := by
      rw [← hsz]; exact (Array.getElem?_eq_some_iff.1 hv).1
    have hcv : (putCells enc pre.length zs'.toArray C)[j]? = some (if pre.length ≤ j ∧ j < pre.length + zs'.toArray.size then enc zs'.toArray[j - pre.length]! else C[j]) := by
      simp [putCells, Array.getElem?_eq_getElem hj]
    rw [hcv] at hv
    rw [rowC_at] at ha
    by_cases g1 : j < pre.length
    · rw [if_pos g1] at ha
      rw [if_neg (by omega)] at hv
      refine (h3 j a v ?_ (by rw [← hv]; exact Array.getElem?_eq_getElem hj)).evo hr hA.1
      rw [rowC_at, if_pos g1]; exact ha
    · rw [if_neg g1] at ha
      by_cases g2 : j < pre.length + zs'.length
      · rw [if_pos g2] at ha
        rw [if_pos ⟨by omega, by simpa using g2⟩] at hv
        have hz : zs'[j - pre.length]? = some zs'[j - pre.length] := List.getElem?_eq_getElem (by omega)
        rw [hz] at ha
        obtain rfl := Option.some.inj ha
        obtain rfl := Option.some.inj hv
        rw [getElem!_pos _ _ (by simp; omega)]
        simp only [List.getElem_toArray]
        exact .pl _
      · rw [if_neg g2] at ha
        rw [if_neg (by simp; omega)] at hv
        refine (h3 j a v ?_ (by rw [← hv]; exact Array.getElem?_eq_getElem hj)).evo hr hA.1
        rw [rowC_at, if_neg g1, if_neg (by omega), ← hlen]; exact ha)
  generalize putRow enc (Sort.ahead w n) b pre.length zs'.toArray = w2 at e1 e2 hne hbb
  have hgs : ∀ k, k < w2.heap.size → (grow w2 os).heap[k]? = w2.heap[k]? := fun k hk => by
    simp only [grow, Array.getElem?_append]
    rw [if_pos hk]
  have he : Evo S (upd H b (.cells (rowC enc pre zs' post))) w2 S (upd H b (.cells (rowC enc pre zs' post))) (grow w2 os) := by
    refine ⟨by simp, fun k hk _ => hgs k hk, fun k C _ F h => ?_, fun _ h => h, fun _ h => .inl h, fun _ => .inr (.inl rfl)⟩
    have : k < w2.heap.size := by
      rcases Nat.lt_or_ge k w2.heap.size with g | g
      · exact g
      · rw [Array.getElem?_eq_none g] at h; cases h
    exact ⟨C, F, (hgs k this).trans h, rfl⟩
  refine ⟨hA.1.trans (e1.trans he), ⟨e2.below.trans ⟨rfl, rfl, rfl, by simp, fun k hk => hgs k (Nat.lt_of_lt_of_le hk e2.below.size)⟩, e2.sub, fun k hk => ?_, fun k o hk => ?_, e2.free, fun k o hk => (e2.obj k o hk).evo e2 he (hgs k (e2.lt k o hk))⟩⟩
  · have := e2.bound k hk; simp; omega
  · have := e2.lt k o hk; simp; omega

/-- A sort of the library: out of its contract over worlds. -/
theorem sort_row {f : FuncId} {le : α → α → Bool} (hs : ∀ (blk off cap : Nat) (zs : List α) (w : World), Holds enc w blk off zs.toArray → blk < w.heap.size → zs.length < 4611686018427387904 →
      Calls P f #[.slice (some ⟨blk, off, none⟩) zs.length cap] w fun e w' => e = .returned (.tuple #[]) ∧ ∃ n os, w' = grow (putRow enc (Sort.ahead w n) blk off (zs.mergeSort le).toArray) os)
    {K : AV → AH → Prop} {x : Bool} (hH : H b = some (.cells (rowC enc pre zs post))) (hz : zs.length < 4611686018427387904) (hk : K (.tp []) (upd H b (.cells (rowC enc pre (zs.mergeSort le) post)))) :
    ACall P f [.sl b pre.length zs.length 1 x] H K := by
  intro S W0 w cs hr ha
  obtain ⟨v, rfl⟩ : ∃ v, cs = #[v] := by
    have := ha.1
    match cs with
    | ⟨[v]⟩ => exact ⟨v, rfl⟩
    | ⟨[]⟩ => simp at this
    | ⟨_ :: _ :: _⟩ => simp at this
  have hv := ha.2 0 _ v rfl rfl
  cases hv with
  | sl _ _ _ _ c _ C T F h hc hn hx =>
    refine (hs b pre.length c zs w (row_holds hr hH) (hr.lt b _ hH) hz).mono ?_
    rintro e w' ⟨rfl, n, os, rfl⟩
    obtain ⟨e1, e2⟩ := row_sorted (zs' := zs.mergeSort le) hr hH (List.length_mergeSort _) n os
    exact ⟨_, S, _, _, rfl, e1, e2, .tp [] #[] rfl (fun j a v ha => by simp at ha), hk⟩

theorem sort_nil {f : FuncId} (hs : ∀ (p : Option Addr) (cap : Nat) (w : World), Calls P f #[.slice p 0 cap] w fun e w' => e = .returned (.tuple #[]) ∧ w' = w)
    {K : AV → AH → Prop} (hk : K (.tp []) H) : ACall P f [.pl (.slice none 0 0)] H K := by
  intro S W0 w cs hr ha
  obtain ⟨v, rfl⟩ : ∃ v, cs = #[v] := by
    have := ha.1
    match cs with
    | ⟨[v]⟩ => exact ⟨v, rfl⟩
    | ⟨[]⟩ => simp at this
    | ⟨_ :: _ :: _⟩ => simp at this
  obtain rfl := (ha.2 0 _ v rfl rfl).pl_inv
  refine (hs none 0 w).mono ?_
  rintro e w' ⟨rfl, rfl⟩
  exact ⟨_, S, _, H, rfl, Evo.refl _ _ _, hr, .tp [] #[] rfl (fun j a v ha => by simp at ha), hk⟩
end
end Go.Ab
