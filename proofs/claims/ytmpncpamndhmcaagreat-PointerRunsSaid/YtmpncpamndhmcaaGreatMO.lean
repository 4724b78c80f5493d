/-
  Several texts in one: O1; O2; R1; V1; V2; V3; V4; V6; V5; V7; V8; V9; V10; V11; V12; V13; V14. Conditions: as each lemma states them.
-/
import Derived.Test.YtmpncpamndhmcaaGreatAbL
import Derived.Test.YtmpncpamndhmcaaGreatCf
import Derived.Test.YtmpncpamndhmcaaGreatAbO
import Derived.Test.YtmpncpamndhmcaaGreatAbS
import Derived.Test.YtmpncpamndhmcaaGreatShelf
open Go Go.Ab Go.RowKit
set_option linter.unusedSimpArgs false
set_option linter.unusedVariables false
set_option linter.unnecessarySimpa false
attribute [local simp] condK_true condK_false condK_not wpc_skip wpc_ret wpc_exit wpc_seq wpc_reg wpc_regD testA_bool wpc_cond wpc_block thenA_normal thenA_ret thenA_exit blockA_normal blockA_ret blockA_exit blockA_other endA_normal endA_ret ev_tmp' ev_const ev_func ev_global cv_int cv_bool cv_string cv_pointer cv_slice cv_agg cv_map put_some put_none wH_s setE_apply setE_env less_eq env_cons env_nil upd_upd upd_apply del_apply startA_eq cells_ag cells_sl one_sl cells_vs one_vs cells_ep one_ep cells_fn one_fn cells_int one_int cells_bool one_bool cells_string one_string cells_pointer one_pointer cells_slice one_slice cells_map one_map cells_agg resK_one resK_nil resK_two rvK_t rvK_c rvsK_nil rvsK_cons iseq_nil iseq_cons gdA_true gdA_false gdA_undef istep_free istep_guard istepV_free istepV_guard dseq_nil dseq_pu dseq_rd dseq_ef wpc_regT dtree_nil dtree_pu dtree_rd dtree_ef dtree_br chkAll_nil chkAll_cons andK_true pickK_true pickK_false pickK_tb pickK_fb bin2K_pl eqbK_eq eqbK_ne eqpK_eq eqpK_ne eqmK_eq eqmK_ne eqzK_eq eqzK_ne eqzK_sl eqzK_vs un1K_pl convK_int fillK_some fillA_cons fillA_nil cellsK_some needK_true needK_ok seeK_ep seeK_ptr oneK_agg oneK_one nilcK_ptr nilcK_ep fadrK_ptr fadrK_ep fldK_ag iadAK_ptr iadAK_ep iadSK_sl iadSK_vs extK_0 extK_1 extK_2 extK_3 lenK_pl lenK_sl lenK_vs lensK_pl boxK_some minmax1K_int storeK_ptr callvK_fn callvK_pl newsK_nil newsK_vs newsK_sl appK_nil appK_nil0 appK_sl appK_vs bnd1K_int bndK_none bndK_some slsK_vs slsK_nil slsK_sl0 slsK_sl slstrK_pl boolK_some eqsK_ag iop_eqs iop_sls iop_slstr seesK_some seesK_ro mapsK_some MAP_some findK_some findK_none plK_pl nmapK_none nmapK_some iop_mlook iop_mlen iop_mmk iop_mupd iop_mdel iop_mrng itK_none itK_some ptr0K_ptr iop_mnxt iop_ment it1K_some entK_some iop_mov iop_pick iop_bin iop_eqb iop_eqp iop_eqm iop_eqz iop_un capK_pl capK_sl capK_vs iop_cap apzK_nil iop_apz mksK_int iop_mks clrK_sl clrK_vs clrK_nil iop_clr iop_conv iop_build iop_load iop_nilc iop_fadr iop_fld iop_iadA iop_iadS iop_ext iop_mkf iop_len iop_lens iop_minmax iop_al iop_box iop_bsl iop_store iop_call iop_callv iop_app BIN_add BIN_sub BIN_mul BIN_and BIN_or BIN_xor BIN_andNot BIN_eql BIN_neq BIN_lss BIN_leq BIN_gtr BIN_geq BIN_quo BIN_rem BIN_shl BIN_shr BIN_sadd BIN_seql BIN_sneq BIN_slss BIN_sleq BIN_sgtr BIN_sgeq UN_neg UN_xor UN_not MM_nil MM_cons partsA argsA ptrA lessL eqL min2I slotN_int slotP_int slotI_int
/-! The small functions on rectangles and transforms. Conditions: as each lemma states them. -/
section
namespace Go.Proofs.YtmpncpamndhmcaaGreat
open Go Go.Ab Go.RowKit

theorem follows : Tryz.prog.follows .mixedOrders = true := by kernel_rfl

def okc (n : Int) : Bool := decide (-16384 ≤ n) && decide (n ≤ 16384)
theorem c167 (n : Int) : PC Tryz.prog 167 [vi n] (vb (okc n)) := by
  intro H K hk
  refine call_c follows cf167_ok (by simp) ?_
  simp
  by_cases h : -16384 ≤ n
  · simp [h]
    have := hk H (.refl _)
    simpa [okc, h] using this
  · simp [h]
    have := hk H (.refl _)
    simpa [okc, h] using this
end Go.Proofs.YtmpncpamndhmcaaGreat
end

/-! The size of a transformed image; valid, empty, canonical rectangles; the checks of lengths. Conditions: as each lemma states them. -/
section
namespace Go.Proofs.YtmpncpamndhmcaaGreat
open Go Go.Ab Go.RowKit

structure R where
  x0 : Int
  y0 : Int
  x1 : Int
  y1 : Int
def rc (r : R) : List AV := [vi r.x0, vi r.y0, vi r.x1, vi r.y1]
def rvalid (r : R) : Bool := okc r.x0 && okc r.y0 && okc r.x1 && okc r.y1
theorem c166 (r : R) : PC Tryz.prog 166 [.ag (rc r)] (vb (rvalid r)) := by
  intro H K hk
  refine call_c follows cf166_ok (by simp) ?_
  simp [rc]
  refine newK_of fun p hp => ?_
  simp
  refine c167 _ _ _ fun H1 h1 => ?_
  have g0 : Ext H H1 := ((Ext.refl H).upd hp).trans h1
  have g1 := h1.at (b := p) (by simp; rfl)
  unfold rvalid at hk
  cases e0 : okc r.x0 with
  | false => 
    simp [e0] at hk ⊢
    exact hk _ g0
  | true =>
    simp [e0, g1] at hk ⊢
    refine c167 _ _ _ fun H2 h2 => ?_
    cases e1 : okc r.y0 with
    | false =>
      simp [e1] at hk ⊢
      exact hk _ (g0.trans h2)
    | true =>
      simp [e1, h2.at g1] at hk ⊢
      refine c167 _ _ _ fun H3 h3 => ?_
      cases e2 : okc r.x1 with
      | false =>
        simp [e2] at hk ⊢
        exact hk _ ((g0.trans h2).trans h3)
      | true =>
        simp [e2, h3.at (h2.at g1)] at hk ⊢
        refine c167 _ _ _ fun H4 h4 => ?_
        simp
        exact hk _ (((g0.trans h2).trans h3).trans h4)

end Go.Proofs.YtmpncpamndhmcaaGreat
end

/-! Rectangles: empty, canonical, the common part, the area; one within another. Conditions: as each lemma states them. -/
section
namespace Go.Proofs.YtmpncpamndhmcaaGreat
open Go Go.Ab Go.RowKit

theorem rc_len (r : R) : (rc r).length = 4 := rfl
theorem rc_t4 (r : R) : (rc r).take 4 = rc r := rfl
theorem rc_t1 (r : R) : (rc r).take 1 = [vi r.x0] := rfl
theorem rc_t2 (r : R) : (rc r).take 2 = [vi r.x0, vi r.y0] := rfl
theorem rc_t3 (r : R) : (rc r).take 3 = [vi r.x0, vi r.y0, vi r.x1] := rfl
theorem rc_d1 (r : R) : (rc r).tail = [vi r.y0, vi r.x1, vi r.y1] := rfl
theorem rc_d2 (r : R) : (rc r).drop 2 = [vi r.x1, vi r.y1] := rfl
theorem rc_d3 (r : R) : (rc r).drop 3 = [vi r.y1] := rfl
theorem rc_d4 (r : R) : (rc r).drop 4 = [] := rfl
theorem rc_ag (a b c d : Int) : AV.ag [vi a, vi b, vi c, vi d] = .ag (rc ⟨a, b, c, d⟩) := rfl
theorem rc_one (r : R) : (rc r).all AV.one = true := rfl
def req (a b : R) : Bool := a.x0 == b.x0 && (a.y0 == b.y0 && (a.x1 == b.x1 && a.y1 == b.y1))
theorem rc_eq (a b : R) : eqL [1, 1, 1, 1] (rc a) (rc b) = some (req a b) := by simp [rc, eqL, req]
theorem req_iff (a b : R) : req a b = true ↔ a = b := by cases a; cases b; simp [req]
attribute [local simp] rc_len rc_t4 rc_t1 rc_t2 rc_t3 rc_d1 rc_d2 rc_d3 rc_d4 rc_ag rc_one rc_eq
theorem min2_t (a b : Int) : (if a < b then b else a) = max a b := by omega
theorem min2_f (a b : Int) : (if b < a then b else a) = min a b := by omega
attribute [local simp] min2_t min2_f

def rempty (r : R) : Bool := !rvalid r || decide (r.x1 ≤ r.x0) || decide (r.y1 ≤ r.y0)
theorem c163 (r : R) : PC Tryz.prog 163 [.ag (rc r)] (vb (rempty r)) := by
  refine .tell fun H => ?_
  refine call_c follows cf163_ok (by simp) ?_
  repeat' (first | simp [*] | (with_reducible (refine newK_of fun _ h_ => ?_); have hn_ := free_ne h_; (try simp only [upd_none', ne_eq] at h_)) | (with_reducible (refine condK_of (fun h_ => ?_) (fun h_ => ?_))) | with_reducible (refine (c166 ..).ac ?_))
  all_goals ((try with_reducible refine And.intro ?_ ?_) <;> (try (repeat' (first | with_reducible exact Sub.refl _ | with_reducible refine Sub.of_upd (by simp [*]) ?_))))
  all_goals (simp_all [rempty] <;> omega)
def rcan (r : R) : R := if rempty r then ⟨0, 0, 0, 0⟩ else r
theorem c158 (r : R) : PC Tryz.prog 158 [.ag (rc r)] (.ag (rc (rcan r))) := by
  refine .tell fun H => ?_
  refine call_c follows cf158_ok (by simp) ?_
  repeat' (first | simp [*] | (with_reducible (refine newK_of fun _ h_ => ?_); have hn_ := free_ne h_; (try simp only [upd_none', ne_eq] at h_)) | (with_reducible (refine condK_of (fun h_ => ?_) (fun h_ => ?_))) | with_reducible (refine (c163 ..).ac ?_))
  all_goals ((try with_reducible refine And.intro ?_ ?_) <;> (try (repeat' (first | with_reducible exact Sub.refl _ | with_reducible refine Sub.of_upd (by simp [*]) ?_))))
  all_goals (simp_all [rcan] <;> omega)
theorem rempty_ok (r : R) (h : rempty r = false) : -16384 ≤ r.x0 ∧ r.x0 < r.x1 ∧ r.x1 ≤ 16384 ∧ -16384 ≤ r.y0 ∧ r.y0 < r.y1 ∧ r.y1 ≤ 16384 := by
  simp [rempty, rvalid, okc] at h; omega
theorem rempty_of (r : R) (h : -16384 ≤ r.x0 ∧ r.x0 < r.x1 ∧ r.x1 ≤ 16384 ∧ -16384 ≤ r.y0 ∧ r.y0 < r.y1 ∧ r.y1 ≤ 16384) : rempty r = false := by
  simp [rempty, rvalid, okc]; omega
end Go.Proofs.YtmpncpamndhmcaaGreat
end

/-! Runs of columns, in plain words: canonical lists of runs, their points, and that the points tell the list. No program in sight; conditions: as each lemma states them. -/
section
namespace Go.Proofs.YtmpncpamndhmcaaGreat
open Go Go.Ab Go.RowKit

abbrev Rn := Int × Int
def InR (rs : List Rn) (x : Int) : Prop := ∃ r ∈ rs, r.1 ≤ x ∧ x < r.2
/-- Runs that are not empty, in order, and do not touch. -/
def Can (rs : List Rn) : Prop := (∀ r ∈ rs, r.1 < r.2) ∧ rs.Pairwise fun a b => a.2 < b.1
theorem Can.nil : Can [] := ⟨by simp, .nil⟩
theorem Can.cons {r : Rn} {rs : List Rn} : Can (r :: rs) ↔ r.1 < r.2 ∧ (∀ s ∈ rs, r.2 < s.1) ∧ Can rs := by
  constructor
  · rintro ⟨h1, h2⟩
    obtain ⟨h3, h4⟩ := List.pairwise_cons.1 h2
    exact ⟨h1 r (by simp), h3, fun s hs => h1 s (by simp [hs]), h4⟩
  · rintro ⟨h1, h2, h3, h4⟩
    refine ⟨fun s hs => ?_, List.pairwise_cons.2 ⟨h2, h4⟩⟩
    rcases List.mem_cons.1 hs with rfl | hs
    · exact h1
    · exact h3 s hs
theorem can_app {a b : List Rn} : Can (a ++ b) ↔ Can a ∧ Can b ∧ ∀ r ∈ a, ∀ s ∈ b, r.2 < s.1 := by
  unfold Can
  rw [List.pairwise_append]
  constructor
  · rintro ⟨h1, h2, h3, h4⟩
    exact ⟨⟨fun r hr => h1 r (by simp [hr]), h2⟩, ⟨fun r hr => h1 r (by simp [hr]), h3⟩, h4⟩
  · rintro ⟨⟨h1, h2⟩, ⟨h3, h4⟩, h5⟩
    exact ⟨fun r hr => (List.mem_append.1 hr).elim (h1 r) (h3 r), h2, h4, h5⟩
theorem can_one {r : Rn} : Can [r] ↔ r.1 < r.2 := by rw [Can.cons]; simp [Can.nil]
theorem InR.cons {r : Rn} {rs : List Rn} {x : Int} : InR (r :: rs) x ↔ (r.1 ≤ x ∧ x < r.2) ∨ InR rs x := by simp [InR]
theorem inR_app {a b : List Rn} {x : Int} : InR (a ++ b) x ↔ InR a x ∨ InR b x := by
  simp only [InR, List.mem_append]
  constructor
  · rintro ⟨r, h | h, h2⟩
    · exact .inl ⟨r, h, h2⟩
    · exact .inr ⟨r, h, h2⟩
  · rintro (⟨r, h, h2⟩ | ⟨r, h, h2⟩)
    · exact ⟨r, .inl h, h2⟩
    · exact ⟨r, .inr h, h2⟩
theorem inR_nil {x : Int} : ¬ InR [] x := by simp [InR]
theorem Can.le_head {r : Rn} {rs : List Rn} (h : Can (r :: rs)) {s : Rn} (hs : s ∈ r :: rs) : r.1 ≤ s.1 := by
  obtain ⟨h1, h2, _⟩ := Can.cons.1 h
  rcases List.mem_cons.1 hs with rfl | hs
  · exact Int.le_refl _
  · have := h2 s hs; omega
theorem can_uniq : ∀ {a b : List Rn}, Can a → Can b → (∀ x, InR a x ↔ InR b x) → a = b
  | [], [], _, _, _ => rfl
  | [], s :: b, _, hb, h => by
    have h1 := (Can.cons.1 hb).1
    exact absurd ((h s.1).2 (InR.cons.2 (.inl ⟨by omega, h1⟩))) inR_nil
  | r :: a, [], ha, _, h => by
    have h1 := (Can.cons.1 ha).1
    exact absurd ((h r.1).1 (InR.cons.2 (.inl ⟨by omega, h1⟩))) inR_nil
  | r :: a, s :: b, ha, hb, h => by
    obtain ⟨h1, h2, h3⟩ := Can.cons.1 ha
    obtain ⟨g1, g2, g3⟩ := Can.cons.1 hb
    have e1 : r.1 = s.1 := by
      obtain ⟨t, ht, h4, _⟩ := (h r.1).1 (InR.cons.2 (.inl ⟨by omega, h1⟩))
      obtain ⟨u, hu, h5, _⟩ := (h s.1).2 (InR.cons.2 (.inl ⟨by omega, g1⟩))
      have := hb.le_head ht
      have := ha.le_head hu
      omega
    have e2 : r.2 = s.2 := by
      rcases Int.lt_trichotomy r.2 s.2 with h4 | h4 | h4
      · obtain ⟨t, ht, h5, h6⟩ := (h r.2).2 (InR.cons.2 (.inl ⟨by omega, h4⟩))
        rcases List.mem_cons.1 ht with rfl | ht
        · omega
        · have := h2 t ht; omega
      · exact h4
      · obtain ⟨t, ht, h5, h6⟩ := (h s.2).1 (InR.cons.2 (.inl ⟨by omega, h4⟩))
        rcases List.mem_cons.1 ht with rfl | ht
        · omega
        · have := g2 t ht; omega
    have e : r = s := Prod.ext e1 e2
    subst e
    rw [can_uniq h3 g3 fun x => ?_]
    constructor
    · intro hx
      rcases InR.cons.1 ((h x).1 (InR.cons.2 (.inr hx))) with h5 | h5
      · obtain ⟨t, ht, h6, _⟩ := hx
        have := h2 t ht; omega
      · exact h5
    · intro hx
      rcases InR.cons.1 ((h x).2 (InR.cons.2 (.inr hx))) with h5 | h5
      · obtain ⟨t, ht, h6, _⟩ := hx
        have := g2 t ht; omega
      · exact h5

/-! ### Merging runs in order of their beginnings -/
def mstep (out : List Rn) (r : Rn) : List Rn := match out.getLast? with
  | some l => if r.1 ≤ l.2 then out.dropLast ++ [(l.1, max l.2 r.2)] else out ++ [r]
  | none => [r]
theorem mstep_nil (r : Rn) : mstep [] r = [r] := rfl
theorem mstep_in {o : List Rn} {l r : Rn} (h : r.1 ≤ l.2) : mstep (o ++ [l]) r = o ++ [(l.1, max l.2 r.2)] := by simp [mstep, h]
theorem mstep_out {o : List Rn} {l r : Rn} (h : ¬ r.1 ≤ l.2) : mstep (o ++ [l]) r = o ++ [l] ++ [r] := by simp [mstep, h]
theorem list_snoc {α : Type} (l : List α) : l = [] ∨ ∃ o x, l = o ++ [x] := by
  rcases List.eq_nil_or_concat l with h | ⟨o, x, h⟩
  · exact .inl h
  · exact .inr ⟨o, x, by simpa using h⟩
theorem mstep_can {o : List Rn} {r : Rn} (h : Can o) (hr : r.1 < r.2) (hs : ∀ l ∈ o, l.1 ≤ r.1) : Can (mstep o r) ∧ (∀ x, InR (mstep o r) x ↔ InR o x ∨ (r.1 ≤ x ∧ x < r.2)) ∧ ∀ l ∈ mstep o r, l.1 ≤ r.1 := by
  rcases list_snoc o with rfl | ⟨o, l, rfl⟩
  · rw [mstep_nil]
    exact ⟨can_one.2 hr, fun x => by simp [InR], by simp⟩
  · obtain ⟨h1, h2, h3⟩ := can_app.1 h
    rw [can_one] at h2
    have hl := hs l (by simp)
    by_cases c : r.1 ≤ l.2
    · rw [mstep_in c]
      refine ⟨can_app.2 ⟨h1, can_one.2 (by simp only; omega), fun a ha b hb => ?_⟩, fun x => ?_, fun a ha => ?_⟩
      · rw [List.mem_singleton.1 hb]; exact h3 a ha l (by simp)
      · rw [inR_app, inR_app, InR.cons, InR.cons]
        simp only [inR_nil, or_false]
        constructor
        · rintro (h4 | h4)
          · exact .inl (.inl h4)
          · by_cases h5 : x < l.2
            · exact .inl (.inr ⟨h4.1, h5⟩)
            · exact .inr ⟨by omega, by omega⟩
        · rintro ((h4 | h4) | h4)
          · exact .inl h4
          · exact .inr ⟨h4.1, by omega⟩
          · exact .inr ⟨by omega, by omega⟩
      · rcases List.mem_append.1 ha with ha | ha
        · exact hs a (by simp [ha])
        · rw [List.mem_singleton.1 ha]; exact hl
    · rw [mstep_out c]
      refine ⟨can_app.2 ⟨h, can_one.2 hr, fun a ha b hb => ?_⟩, fun x => ?_, fun a ha => ?_⟩
      · rw [List.mem_singleton.1 hb]
        rcases List.mem_append.1 ha with ha | ha
        · have := h3 a ha l (by simp); omega
        · rw [List.mem_singleton.1 ha]; omega
      · rw [inR_app, InR.cons]; simp [inR_nil]
      · rcases List.mem_append.1 ha with ha | ha
        · exact hs a ha
        · rw [List.mem_singleton.1 ha]; exact Int.le_refl _
theorem merge_can : ∀ (l o : List Rn), Can o → (∀ r ∈ l, r.1 < r.2) → l.Pairwise (fun a b => a.1 ≤ b.1) → (∀ a ∈ o, ∀ r ∈ l, a.1 ≤ r.1) → Can (l.foldl mstep o) ∧ ∀ x, InR (l.foldl mstep o) x ↔ InR o x ∨ InR l x
  | [], o, h, _, _, _ => ⟨h, fun x => by simp [inR_nil]⟩
  | r :: l, o, h, h1, h2, h3 => by
    obtain ⟨h4, h5⟩ := List.pairwise_cons.1 h2
    obtain ⟨g1, g2, g3⟩ := mstep_can (r := r) h (h1 r (by simp)) fun a ha => h3 a ha r (by simp)
    obtain ⟨k1, k2⟩ := merge_can l (mstep o r) g1 (fun s hs => h1 s (by simp [hs])) h5 fun a ha s hs => Int.le_trans (g3 a ha) (h4 s hs)
    refine ⟨k1, fun x => ?_⟩
    rw [List.foldl_cons, k2, g2, InR.cons, or_assoc]

/-! ### Adding a run -/
def astep (s : List Rn × List Rn × Int × Int) (r : Rn) : List Rn × List Rn × Int × Int :=
  if r.2 < s.2.2.1 then (s.1 ++ [r], s.2.1, s.2.2.1, s.2.2.2) else if s.2.2.2 < r.1 then (s.1, s.2.1 ++ [r], s.2.2.1, s.2.2.2) else (s.1, s.2.1, min s.2.2.1 r.1, max s.2.2.2 r.2)
def addF (rs : List Rn) (x0 x1 : Int) : List Rn := let s := rs.foldl astep ([], [], x0, x1); s.1 ++ [(s.2.2.1, s.2.2.2)] ++ s.2.1
structure AInv (s : List Rn × List Rn × Int × Int) (p : List Rn) (x0 x1 : Int) : Prop where
  lt : s.2.2.1 < s.2.2.2
  low : Can s.1
  high : Can s.2.1
  l : ∀ r ∈ s.1, r.2 < s.2.2.1
  h : ∀ r ∈ s.2.1, s.2.2.2 < r.1
  lp : ∀ r ∈ s.1, r ∈ p
  hp : ∀ r ∈ s.2.1, r ∈ p
  pts : ∀ x, (InR s.1 x ∨ (s.2.2.1 ≤ x ∧ x < s.2.2.2) ∨ InR s.2.1 x) ↔ (InR p x ∨ (x0 ≤ x ∧ x < x1))
  a : s.2.2.1 = x0 ∨ ∃ r ∈ p, s.2.2.1 ≤ r.1 ∧ s.2.2.1 < r.2
theorem astep_inv {s : List Rn × List Rn × Int × Int} {p : List Rn} {x0 x1 : Int} {r : Rn} (h : AInv s p x0 x1) (hc : Can (p ++ [r])) : AInv (astep s r) (p ++ [r]) x0 x1 := by
  obtain ⟨c1, c2, c3⟩ := can_app.1 hc
  rw [can_one] at c2
  have c4 : ∀ t ∈ p, t.1 < t.2 ∧ t.2 < r.1 := fun t ht => ⟨c1.1 t ht, c3 t ht r (by simp)⟩
  obtain ⟨low, high, a, b⟩ := s
  obtain ⟨q1, q2, q3, q4, q5, q6, q7, q8, q9⟩ := h
  simp only at q1 q2 q3 q4 q5 q6 q7 q8 q9
  have pts' : ∀ x, InR (p ++ [r]) x ↔ InR p x ∨ (r.1 ≤ x ∧ x < r.2) := fun x => by rw [inR_app, InR.cons]; simp [inR_nil]
  unfold astep
  simp only
  by_cases e1 : r.2 < a
  · rw [if_pos e1]
    refine ⟨q1, can_app.2 ⟨q2, can_one.2 c2, fun t ht u hu => ?_⟩, q3, fun t ht => ?_, q5, fun t ht => ?_, fun t ht => List.mem_append_left _ (q7 t ht), fun x => ?_, ?_⟩
    · rw [List.mem_singleton.1 hu]; exact (c4 t (q6 t ht)).2
    · rcases List.mem_append.1 ht with ht | ht
      · exact q4 t ht
      · rw [List.mem_singleton.1 ht]; exact e1
    · rcases List.mem_append.1 ht with ht | ht
      · exact List.mem_append_left _ (q6 t ht)
      · exact List.mem_append_right _ ht
    · have := q8 x
      rw [pts', inR_app, InR.cons]
      simp only [inR_nil, or_false]
      constructor
      · rintro ((g | g) | g)
        · exact (this.1 (.inl g)).elim (fun k => .inl (.inl k)) .inr
        · exact .inl (.inr g)
        · exact (this.1 (.inr g)).elim (fun k => .inl (.inl k)) .inr
      · rintro ((g | g) | g)
        · exact (this.2 (.inl g)).elim (fun k => .inl (.inl k)) .inr
        · exact .inl (.inr g)
        · exact (this.2 (.inr g)).elim (fun k => .inl (.inl k)) .inr
    · rcases q9 with g | ⟨t, ht, g⟩
      · exact .inl g
      · exact .inr ⟨t, List.mem_append_left _ ht, g⟩
  · rw [if_neg e1]
    by_cases e2 : b < r.1
    · rw [if_pos e2]
      refine ⟨q1, q2, can_app.2 ⟨q3, can_one.2 c2, fun t ht u hu => ?_⟩, q4, fun t ht => ?_, fun t ht => List.mem_append_left _ (q6 t ht), fun t ht => ?_, fun x => ?_, ?_⟩
      · rw [List.mem_singleton.1 hu]; exact (c4 t (q7 t ht)).2
      · rcases List.mem_append.1 ht with ht | ht
        · exact q5 t ht
        · rw [List.mem_singleton.1 ht]; exact e2
      · rcases List.mem_append.1 ht with ht | ht
        · exact List.mem_append_left _ (q7 t ht)
        · exact List.mem_append_right _ ht
      · have := q8 x
        rw [pts', inR_app, InR.cons]
        simp only [inR_nil, or_false]
        constructor
        · rintro (g | g | g | g)
          · exact (this.1 (.inl g)).elim (fun k => .inl (.inl k)) .inr
          · exact (this.1 (.inr (.inl g))).elim (fun k => .inl (.inl k)) .inr
          · exact (this.1 (.inr (.inr g))).elim (fun k => .inl (.inl k)) .inr
          · exact .inl (.inr g)
        · rintro ((g | g) | g)
          · rcases this.2 (.inl g) with k | k | k
            · exact .inl k
            · exact .inr (.inl k)
            · exact .inr (.inr (.inl k))
          · exact .inr (.inr (.inr g))
          · rcases this.2 (.inr g) with k | k | k
            · exact .inl k
            · exact .inr (.inl k)
            · exact .inr (.inr (.inl k))
      · rcases q9 with g | ⟨t, ht, g⟩
        · exact .inl g
        · exact .inr ⟨t, List.mem_append_left _ ht, g⟩
    · rw [if_neg e2]
      have hh : high = [] := by
        cases high with
        | nil => rfl
        | cons t u =>
          have h1 := q5 t (by simp)
          have h2 := c4 t (q7 t (by simp))
          omega
      subst hh
      refine ⟨by simp only; omega, q2, q3, fun t ht => ?_, fun t ht => by simp at ht, fun t ht => List.mem_append_left _ (q6 t ht), fun t ht => by simp at ht, fun x => ?_, .inr ⟨r, by simp, by simp only; omega, by simp only; omega⟩⟩
      · have h1 := q4 t ht
        have h2 := (c4 t (q6 t ht)).2
        simp only; omega
      · have := q8 x
        rw [pts']
        simp only [inR_nil, or_false] at this ⊢
        constructor
        · rintro (g | g)
          · exact (this.1 (.inl g)).elim (fun k => .inl (.inl k)) .inr
          · by_cases g2 : a ≤ x ∧ x < b
            · exact (this.1 (.inr g2)).elim (fun k => .inl (.inl k)) .inr
            · exact .inl (.inr (by omega))
        · rintro ((g | g) | g)
          · exact (this.2 (.inl g)).elim .inl fun k => .inr (by omega)
          · exact .inr (by omega)
          · exact (this.2 (.inr g)).elim .inl fun k => .inr (by omega)
theorem afold_inv : ∀ (l : List Rn) {s : List Rn × List Rn × Int × Int} {p : List Rn} {x0 x1 : Int}, AInv s p x0 x1 → Can (p ++ l) → AInv (l.foldl astep s) (p ++ l) x0 x1
  | [], s, p, x0, x1, h, _ => by simpa using h
  | r :: l, s, p, x0, x1, h, hc => by
    have e : p ++ r :: l = (p ++ [r]) ++ l := by simp
    rw [e] at hc ⊢
    exact afold_inv l (astep_inv h (can_app.1 hc).1) hc
theorem add_can {rs : List Rn} {x0 x1 : Int} (h : Can rs) (hx : x0 < x1) : Can (addF rs x0 x1) ∧ ∀ x, InR (addF rs x0 x1) x ↔ InR rs x ∨ (x0 ≤ x ∧ x < x1) := by
  have h0 : AInv ([], [], x0, x1) [] x0 x1 := ⟨hx, Can.nil, Can.nil, by simp, by simp, by simp, by simp, fun x => by simp [inR_nil], .inl rfl⟩
  have hI := afold_inv rs h0 (by simpa using h)
  rw [List.nil_append] at hI
  unfold addF
  generalize rs.foldl astep ([], [], x0, x1) = s at hI ⊢
  obtain ⟨low, high, a, b⟩ := s
  obtain ⟨q1, q2, q3, q4, q5, q6, q7, q8, q9⟩ := hI
  simp only at q1 q2 q3 q4 q5 q6 q7 q8 ⊢
  refine ⟨can_app.2 ⟨can_app.2 ⟨q2, can_one.2 q1, fun t ht u hu => ?_⟩, q3, fun t ht u hu => ?_⟩, fun x => ?_⟩
  · rw [List.mem_singleton.1 hu]; exact q4 t ht
  · have h1 := q5 u hu
    rcases List.mem_append.1 ht with ht | ht
    · have h2 := q4 t ht; omega
    · rw [List.mem_singleton.1 ht]; exact h1
  · rw [inR_app, inR_app, InR.cons, ← q8]
    simp only [inR_nil, or_false, or_assoc]
theorem addfold_can : ∀ (l o : List Rn), Can o → (∀ r ∈ l, r.1 < r.2) → Can (l.foldl (fun acc r => addF acc r.1 r.2) o) ∧ ∀ x, InR (l.foldl (fun acc r => addF acc r.1 r.2) o) x ↔ InR o x ∨ InR l x
  | [], o, h, _ => ⟨h, fun x => by simp [inR_nil]⟩
  | r :: l, o, h, h1 => by
    obtain ⟨g1, g2⟩ := add_can h (h1 r (by simp))
    obtain ⟨k1, k2⟩ := addfold_can l _ g1 fun s hs => h1 s (by simp [hs])
    refine ⟨k1, fun x => ?_⟩
    rw [List.foldl_cons, k2, g2, InR.cons, or_assoc]
def sumF (l : List Rn) : List Rn := l.foldl (fun acc r => addF acc r.1 r.2) []
theorem sumF_can {l : List Rn} (h : ∀ r ∈ l, r.1 < r.2) : Can (sumF l) := (addfold_can l [] Can.nil h).1
theorem sumF_in {l : List Rn} (h : ∀ r ∈ l, r.1 < r.2) (x : Int) : InR (sumF l) x ↔ InR l x := by
  have := (addfold_can l [] Can.nil h).2 x
  simp only [inR_nil, false_or] at this
  exact this
/-- However the runs were put in order, merging gives the same. -/
theorem merge_eq {l d : List Rn} (h : ∀ r ∈ l, r.1 < r.2) (hp : d.Perm l) (hs : d.Pairwise fun a b => a.1 ≤ b.1) : d.foldl mstep [] = sumF l := by
  have hd : ∀ r ∈ d, r.1 < r.2 := fun r hr => h r (hp.mem_iff.1 hr)
  obtain ⟨k1, k2⟩ := merge_can d [] Can.nil hd hs (by simp)
  refine can_uniq k1 (sumF_can h) fun x => ?_
  rw [k2, sumF_in h]
  have e : ¬ InR [] x := inR_nil
  simp only [e, false_or]
  exact ⟨fun ⟨r, hr, h2⟩ => ⟨r, hp.mem_iff.1 hr, h2⟩, fun ⟨r, hr, h2⟩ => ⟨r, hp.mem_iff.2 hr, h2⟩⟩

/-! ### Pieces between cuts -/
def cstep (keep : Int → Bool) (out : List Rn) (c : Rn) : List Rn := if keep c.1 = true then (match out.getLast? with
  | some l => if l.2 = c.1 then out.dropLast ++ [(l.1, c.2)] else out ++ [c]
  | none => [c]) else out
theorem cstep_no {keep : Int → Bool} {o : List Rn} {c : Rn} (h : keep c.1 = false) : cstep keep o c = o := by simp [cstep, h]
theorem cstep_nil {keep : Int → Bool} {c : Rn} (h : keep c.1 = true) : cstep keep [] c = [c] := by simp [cstep, h]
theorem cstep_in {keep : Int → Bool} {o : List Rn} {l c : Rn} (h : keep c.1 = true) (h2 : l.2 = c.1) : cstep keep (o ++ [l]) c = o ++ [(l.1, c.2)] := by simp [cstep, h, h2]
theorem cstep_out {keep : Int → Bool} {o : List Rn} {l c : Rn} (h : keep c.1 = true) (h2 : l.2 ≠ c.1) : cstep keep (o ++ [l]) c = o ++ [l] ++ [c] := by simp [cstep, h, h2]
theorem cstep_can {keep : Int → Bool} {o : List Rn} {c : Rn} (h : Can o) (hc : c.1 < c.2) (hs : ∀ l ∈ o, l.2 ≤ c.1) : Can (cstep keep o c) ∧ (∀ x, InR (cstep keep o c) x ↔ InR o x ∨ (keep c.1 = true ∧ c.1 ≤ x ∧ x < c.2)) ∧ ∀ l ∈ cstep keep o c, l.2 ≤ c.2 := by
  cases hk : keep c.1 with
  | false =>
    rw [cstep_no hk]
    exact ⟨h, fun x => by simp, fun l hl => by have := hs l hl; omega⟩
  | true =>
    rcases list_snoc o with rfl | ⟨o, l, rfl⟩
    · rw [cstep_nil hk]
      exact ⟨can_one.2 hc, fun x => by simp [InR], by simp⟩
    · obtain ⟨h1, h2, h3⟩ := can_app.1 h
      rw [can_one] at h2
      have hl := hs l (by simp)
      by_cases e : l.2 = c.1
      · rw [cstep_in hk e]
        refine ⟨can_app.2 ⟨h1, can_one.2 (by simp only; omega), fun a ha b hb => ?_⟩, fun x => ?_, fun a ha => ?_⟩
        · rw [List.mem_singleton.1 hb]; exact h3 a ha l (by simp)
        · rw [inR_app, inR_app, InR.cons, InR.cons]
          simp only [inR_nil, or_false, true_and]
          constructor
          · rintro (g | g)
            · exact .inl (.inl g)
            · by_cases g2 : x < l.2
              · exact .inl (.inr ⟨g.1, g2⟩)
              · exact .inr ⟨by omega, g.2⟩
          · rintro ((g | g) | g)
            · exact .inl g
            · exact .inr ⟨g.1, by omega⟩
            · exact .inr ⟨by omega, g.2⟩
        · rcases List.mem_append.1 ha with ha | ha
          · have := hs a (by simp [ha]); omega
          · rw [List.mem_singleton.1 ha]; exact Int.le_refl _
      · rw [cstep_out hk e]
        refine ⟨can_app.2 ⟨h, can_one.2 hc, fun a ha b hb => ?_⟩, fun x => ?_, fun a ha => ?_⟩
        · rw [List.mem_singleton.1 hb]
          rcases List.mem_append.1 ha with ha | ha
          · have := h3 a ha l (by simp); omega
          · rw [List.mem_singleton.1 ha]; omega
        · rw [inR_app, InR.cons]; simp [inR_nil]
        · rcases List.mem_append.1 ha with ha | ha
          · have := hs a ha; omega
          · rw [List.mem_singleton.1 ha]; exact Int.le_refl _
/-- The pieces of a rising list of cuts. -/
def pairs : List Int → List Rn
  | a :: b :: l => (a, b) :: pairs (b :: l)
  | _ => []
theorem pairs_lt : ∀ (l : List Int), l.Pairwise (· < ·) → (∀ p ∈ pairs l, p.1 < p.2) ∧ (pairs l).Pairwise fun a b => a.2 ≤ b.1
  | [], _ => by simp [pairs]
  | [a], _ => by simp [pairs]
  | a :: b :: l, h => by
    obtain ⟨h1, h2⟩ := List.pairwise_cons.1 h
    obtain ⟨k1, k2⟩ := pairs_lt (b :: l) h2
    have hb : ∀ p ∈ pairs (b :: l), b ≤ p.1 := by
      have : ∀ (l : List Int) (b : Int), (b :: l).Pairwise (· < ·) → ∀ p ∈ pairs (b :: l), b ≤ p.1 := by
        intro l
        induction l with
        | nil => intro b _ p hp; simp [pairs] at hp
        | cons c l ih =>
          intro b h p hp
          obtain ⟨h3, h4⟩ := List.pairwise_cons.1 h
          simp only [pairs, List.mem_cons] at hp
          rcases hp with rfl | hp
          · exact Int.le_refl _
          · have := ih c h4 p hp
            have := h3 c (by simp)
            omega
      exact this l b h2
    refine ⟨fun p hp => ?_, ?_⟩
    · simp only [pairs, List.mem_cons] at hp
      rcases hp with rfl | hp
      · exact h1 b (by simp)
      · exact k1 p hp
    · simp only [pairs]
      exact List.pairwise_cons.2 ⟨fun p hp => hb p hp, k2⟩
theorem cfold_can (keep : Int → Bool) : ∀ (l : List Rn) (o : List Rn), Can o → (∀ p ∈ l, p.1 < p.2) → l.Pairwise (fun a b => a.2 ≤ b.1) → (∀ a ∈ o, ∀ p ∈ l, a.2 ≤ p.1) →
    Can (l.foldl (cstep keep) o) ∧ ∀ x, InR (l.foldl (cstep keep) o) x ↔ InR o x ∨ InR (l.filter fun p => keep p.1) x
  | [], o, h, _, _, _ => ⟨h, fun x => by simp [inR_nil]⟩
  | c :: l, o, h, h1, h2, h3 => by
    obtain ⟨h4, h5⟩ := List.pairwise_cons.1 h2
    obtain ⟨g1, g2, g3⟩ := cstep_can (keep := keep) (c := c) h (h1 c (by simp)) fun a ha => h3 a ha c (by simp)
    obtain ⟨k1, k2⟩ := cfold_can keep l _ g1 (fun s hs => h1 s (by simp [hs])) h5 fun a ha s hs => Int.le_trans (g3 a ha) (h4 s hs)
    refine ⟨k1, fun x => ?_⟩
    rw [List.foldl_cons, k2, g2, List.filter_cons]
    cases hk : keep c.1 with
    | true => simp [InR.cons, or_assoc]
    | false => simp
/-- The pieces that are kept, added one after another. -/
def keptF (keep : Int → Bool) (xs : List Int) : List Rn := sumF ((pairs xs).filter fun p => keep p.1)
theorem kept_eq {keep : Int → Bool} {xs : List Int} (h : xs.Pairwise (· < ·)) : (pairs xs).foldl (cstep keep) [] = keptF keep xs := by
  obtain ⟨h1, h2⟩ := pairs_lt xs h
  obtain ⟨k1, k2⟩ := cfold_can keep (pairs xs) [] Can.nil h1 h2 (by simp)
  have h3 : ∀ r ∈ (pairs xs).filter fun p => keep p.1, r.1 < r.2 := fun r hr => h1 r (List.mem_filter.1 hr).1
  refine can_uniq k1 (sumF_can h3) fun x => ?_
  rw [k2, keptF, sumF_in h3]
  have e : ¬ InR [] x := inR_nil
  simp only [e, false_or]
theorem kept_can {keep : Int → Bool} {xs : List Int} (h : xs.Pairwise (· < ·)) : Can (keptF keep xs) := sumF_can fun r hr => (pairs_lt xs h).1 r (List.mem_filter.1 hr).1
end Go.Proofs.YtmpncpamndhmcaaGreat
end

/-! Regions of the program, walked: clean, edges, covers. Conditions: as each lemma states them. -/
section
namespace Go.Proofs.YtmpncpamndhmcaaGreat
open Go Go.Ab Go.RowKit

attribute [local simp] rc_len rc_t4 rc_t1 rc_t2 rc_t3 rc_d1 rc_d2 rc_d3 rc_d4 rc_ag rc_one rc_eq

def cl (l : List R) : List R := l.filter fun r => !rempty r
theorem cl_len (l : List R) : (cl l).length ≤ l.length := List.length_filter_le _ _
theorem cl_push (l : List R) (r : R) : cl (l ++ [r]) = if rempty r = true then cl l else cl l ++ [r] := by
  unfold cl
  rw [List.filter_append]
  cases h : rempty r <;> simp [h]
theorem rc_l (r : R) : (rc r).length = 4 := rfl
abbrev Rr (H : AH) (a : AV) (l : List R) : Prop := Rw H a (flat rc l) l.length 4
theorem take_snoc' {α : Type} {l : List α} {i : Nat} (h : i < l.length) : l.take (i + 1) = l.take i ++ [l[i]] := by rw [List.take_succ_eq_append_getElem h]
def insI (k : Int) : List Int → List Int
  | [] => [k]
  | x :: l => if k < x then k :: x :: l else if k = x then x :: l else x :: insI k l
theorem mem_insI {k y : Int} : ∀ {l : List Int}, y ∈ insI k l ↔ y = k ∨ y ∈ l
  | [] => by simp [insI]
  | x :: l => by
    have ih := mem_insI (k := k) (y := y) (l := l)
    unfold insI
    split
    · simp
    · split
      · rename_i h; subst h; simp
      · simp only [List.mem_cons, ih]
        constructor <;> (rintro (h | h | h) <;> simp [h])
theorem insI_rising {k : Int} : ∀ {l : List Int}, l.Pairwise (· < ·) → (insI k l).Pairwise (· < ·)
  | [], _ => by simp [insI]
  | x :: l, h => by
    obtain ⟨h1, h2⟩ := List.pairwise_cons.1 h
    have ih := insI_rising (k := k) h2
    unfold insI
    split
    · rename_i h3
      refine List.pairwise_cons.2 ⟨fun y hy => ?_, h⟩
      rcases List.mem_cons.1 hy with rfl | hy
      · exact h3
      · have := h1 y hy; omega
    · split
      · exact h
      · refine List.pairwise_cons.2 ⟨fun y hy => ?_, ih⟩
        rcases mem_insI.1 hy with rfl | hy
        · omega
        · exact h1 y hy
theorem insI_len {k : Int} : ∀ {l : List Int}, (insI k l).length ≤ l.length + 1
  | [] => by simp [insI]
  | x :: l => by
    have ih := insI_len (k := k) (l := l)
    unfold insI
    split
    · simp
    · split <;> simp <;> omega
/-- The rows at which rectangles begin or end. -/
def ysF (l : List R) : List Int := l.foldl (fun ys r => insI r.y1 (insI r.y0 ys)) []
theorem ysFold (l : List R) : ∀ ys : List Int, ys.Pairwise (· < ·) → (l.foldl (fun ys r => insI r.y1 (insI r.y0 ys)) ys).Pairwise (· < ·) ∧ (∀ y, y ∈ l.foldl (fun ys r => insI r.y1 (insI r.y0 ys)) ys ↔ y ∈ ys ∨ ∃ r ∈ l, y = r.y0 ∨ y = r.y1) ∧ (l.foldl (fun ys r => insI r.y1 (insI r.y0 ys)) ys).length ≤ ys.length + 2 * l.length := by
  induction l with
  | nil => intro ys h; exact ⟨h, by simp, by simp⟩
  | cons r l ih =>
    intro ys h
    obtain ⟨h1, h2, h3⟩ := ih _ (insI_rising (k := r.y1) (insI_rising (k := r.y0) h))
    refine ⟨h1, fun y => ?_, ?_⟩
    · rw [List.foldl_cons, h2, mem_insI, mem_insI]
      constructor
      · rintro ((g | g | g) | ⟨t, ht, g⟩)
        · exact .inr ⟨r, by simp, .inr g⟩
        · exact .inr ⟨r, by simp, .inl g⟩
        · exact .inl g
        · exact .inr ⟨t, by simp [ht], g⟩
      · rintro (g | ⟨t, ht, g⟩)
        · exact .inl (.inr (.inr g))
        · rcases List.mem_cons.1 ht with rfl | ht
          · rcases g with g | g
            · exact .inl (.inr (.inl g))
            · exact .inl (.inl g)
          · exact .inr ⟨t, ht, g⟩
    · have g1 := insI_len (k := r.y1) (l := insI r.y0 ys)
      have g2 := insI_len (k := r.y0) (l := ys)
      rw [List.foldl_cons, List.length_cons]
      omega
theorem ysF_rising (l : List R) : (ysF l).Pairwise (· < ·) := (ysFold l [] .nil).1
theorem mem_ysF {l : List R} {y : Int} : y ∈ ysF l ↔ ∃ r ∈ l, y = r.y0 ∨ y = r.y1 := by
  have := (ysFold l [] .nil).2.1 y
  simpa [ysF] using this
theorem ysF_len (l : List R) : (ysF l).length ≤ 2 * l.length := by
  have := (ysFold l [] .nil).2.2
  simpa [ysF] using this
end Go.Proofs.YtmpncpamndhmcaaGreat
end

/-! Regions of the program, walked: the edges of two lists; whether a run covers a column. Conditions: as each lemma states them. -/
section
namespace Go.Proofs.YtmpncpamndhmcaaGreat
open Go Go.Ab Go.RowKit

attribute [local simp] rc_len rc_t4 rc_t1 rc_t2 rc_t3 rc_d1 rc_d2 rc_d3 rc_d4 rc_ag rc_one rc_eq

end Go.Proofs.YtmpncpamndhmcaaGreat
end

/-! Regions of the program, walked: whether a run covers a column. Conditions: as each lemma states them. -/
section
namespace Go.Proofs.YtmpncpamndhmcaaGreat
open Go Go.Ab Go.RowKit

attribute [local simp] rc_len rc_t4 rc_t1 rc_t2 rc_t3 rc_d1 rc_d2 rc_d3 rc_d4 rc_ag rc_one rc_eq

def rn (r : Rn) : List AV := [vi r.1, vi r.2]
theorem rn_l (r : Rn) : (rn r).length = 2 := rfl
def cvF (l : List Rn) (x : Int) : Bool := l.any fun r => decide (r.1 ≤ x) && decide (x < r.2)
theorem cvF_iff {l : List Rn} {x : Int} : cvF l x = true ↔ InR l x := by simp [cvF, InR]
attribute [local simp] rn
end Go.Proofs.YtmpncpamndhmcaaGreat
end

/-! The library's slices.SortFunc over runs, as a contract over the view: out of the shelf's contract over worlds. Conditions: as each lemma states them. -/
section
namespace Go.Proofs.YtmpncpamndhmcaaGreat
open Go Go.Ab Go.RowKit

attribute [local simp] rc_len rc_t4 rc_t1 rc_t2 rc_t3 rc_d1 rc_d2 rc_d3 rc_d4 rc_ag rc_one rc_eq

end Go.Proofs.YtmpncpamndhmcaaGreat
end

/-! Regions of the program, walked: the library's functions on runs and cuts: Equal, Grow, Concat, Compact. Conditions: as each lemma states them. -/
section
namespace Go.Proofs.YtmpncpamndhmcaaGreat
open Go Go.Ab Go.RowKit

attribute [local simp] rc_len rc_t4 rc_t1 rc_t2 rc_t3 rc_d1 rc_d2 rc_d3 rc_d4 rc_ag rc_one rc_eq

theorem rn_eq (a b : Rn) : eqL [1, 1] (rn a) (rn b) = some (decide (a = b)) := by
  obtain ⟨a1, a2⟩ := a
  obtain ⟨b1, b2⟩ := b
  by_cases h : a1 = b1 <;> by_cases h2 : a2 = b2 <;> simp [rn, eqL, h, h2]
theorem rn_one (r : Rn) : (rn r).all AV.one = true := rfl
section
attribute [local simp] rn_l rn_eq rn_one
end
end Go.Proofs.YtmpncpamndhmcaaGreat
end

/-! Regions of the program, walked: the library's Compact on cuts. Conditions: as each lemma states them. -/
section
namespace Go.Proofs.YtmpncpamndhmcaaGreat
open Go Go.Ab Go.RowKit

attribute [local simp] rc_len rc_t4 rc_t1 rc_t2 rc_t3 rc_d1 rc_d2 rc_d3 rc_d4 rc_ag rc_one rc_eq

def dstep (out : List Int) (x : Int) : List Int := if out.getLast? = some x then out else out ++ [x]
def dd (l : List Int) : List Int := l.foldl dstep []
end Go.Proofs.YtmpncpamndhmcaaGreat
end

/-! Regions of the program, walked: the runs of a row. Conditions: as each lemma states them. -/
section
namespace Go.Proofs.YtmpncpamndhmcaaGreat
open Go Go.Ab Go.RowKit

attribute [local simp] rc_len rc_t4 rc_t1 rc_t2 rc_t3 rc_d1 rc_d2 rc_d3 rc_d4 rc_ag rc_one rc_eq

open Go.Proofs in
def rsF (l : List R) (y : Int) : List Rn := (l.filter fun r => decide (r.y0 ≤ y) && decide (y < r.y1)).map fun r => (r.x0, r.x1)
theorem rsF_len (l : List R) (y : Int) : (rsF l y).length ≤ l.length := by unfold rsF; rw [List.length_map]; exact List.length_filter_le _ _
theorem rsF_push (l : List R) (r : R) (y : Int) : rsF (l ++ [r]) y = if (decide (r.y0 ≤ y) && decide (y < r.y1)) = true then rsF l y ++ [(r.x0, r.x1)] else rsF l y := by
  unfold rsF
  rw [List.filter_append]
  cases h : (decide (r.y0 ≤ y) && decide (y < r.y1)) <;> simp [h]
theorem rsF_ok {l : List R} {y : Int} (hc : ∀ r ∈ l, rempty r = false) : ∀ r ∈ rsF l y, r.1 < r.2 ∧ -16384 ≤ r.1 ∧ r.1 ≤ 16384 ∧ r.2 ≤ 16384 := by
  intro r hr
  obtain ⟨x, hx, rfl⟩ := List.mem_map.1 hr
  have := rempty_ok x (hc x (List.mem_filter.1 hx).1)
  simp only; omega
theorem Sub.under {H B : AH} (h : Sub H B) (q : Nat) (o : AO) : Sub (upd H q o) (upd B q o) := by
  intro j o' hj
  simp only [upd_apply] at hj ⊢
  split
  · rename_i e; rw [if_pos e] at hj; exact hj
  · rename_i e; rw [if_neg e] at hj; exact h j o' hj
theorem Row.base {H B Hs : AH} {o : AV} {cs : List AV} {n sz : Nat} (hs : Sub H B) (h : Row B Hs o cs n sz) : ∃ H', Sub H' Hs ∧ Row H H' o cs n sz := by
  rcases h with ⟨rfl, rfl, rfl, rfl⟩ | ⟨r, rfl, hr, rfl⟩
  · exact ⟨H, hs, Row.nil H sz⟩
  · exact ⟨_, Sub.under hs r _, Row.mk (hs.none_of hr)⟩
theorem rn_mk (a b : Int) : rn (a, b) = [vi a, vi b] := rfl
attribute [local simp] rn_mk
end Go.Proofs.YtmpncpamndhmcaaGreat
end

/-! Regions of the program, walked: the runs that are kept of two rows. Conditions: as each lemma states them. -/
section
namespace Go.Proofs.YtmpncpamndhmcaaGreat
open Go Go.Ab Go.RowKit

attribute [local simp] rc_len rc_t4 rc_t1 rc_t2 rc_t3 rc_d1 rc_d2 rc_d3 rc_d4 rc_ag rc_one rc_eq

theorem pairs_len : ∀ l : List Int, (pairs l).length = l.length - 1
  | [] => rfl
  | [a] => rfl
  | a :: b :: l => by
    have := pairs_len (b :: l)
    simp only [pairs, List.length_cons] at this ⊢
    omega
theorem pairs_at : ∀ (l : List Int) (i : Nat) (h : i + 1 < l.length), (pairs l)[i]'(by rw [pairs_len]; omega) = (l[i], l[i + 1])
  | [], i, h => by simp at h
  | [a], i, h => by simp at h
  | a :: b :: l, 0, _ => rfl
  | a :: b :: l, i + 1, h => by
    have := pairs_at (b :: l) i (by simpa using h)
    simp only [pairs]
    exact this
/-- The columns at which runs begin or end. -/
def xsF (l : List Rn) : List Int := ysF (l.map fun r => ⟨0, r.1, 0, r.2⟩)
theorem mem_xsF {l : List Rn} {x : Int} : x ∈ xsF l ↔ ∃ r ∈ l, x = r.1 ∨ x = r.2 := by
  unfold xsF
  rw [mem_ysF]
  constructor
  · rintro ⟨r, hr, h⟩
    obtain ⟨s, hs, rfl⟩ := List.mem_map.1 hr
    exact ⟨s, hs, h⟩
  · rintro ⟨r, hr, h⟩
    exact ⟨_, List.mem_map.2 ⟨r, hr, rfl⟩, h⟩
theorem xsF_rising (l : List Rn) : (xsF l).Pairwise (· < ·) := ysF_rising _
theorem xsF_len (l : List Rn) : (xsF l).length ≤ 2 * l.length := by have := ysF_len (l.map fun r => (⟨0, r.1, 0, r.2⟩ : R)); simpa [xsF] using this
def cutsL (l : List Rn) : List Int := l.flatMap fun r => [r.1, r.2]
theorem cutsL_len (l : List Rn) : (cutsL l).length = 2 * l.length := by
  induction l with
  | nil => rfl
  | cons r l ih => simp only [cutsL, List.flatMap_cons, List.length_append, List.length_cons, List.length_nil] at ih ⊢; omega
theorem cutsL_snoc (l : List Rn) (r : Rn) : cutsL (l ++ [r]) = cutsL l ++ [r.1, r.2] := by simp [cutsL]
def combF (kf : Bool → Bool → Bool) (a b : List Rn) : List Rn := keptF (fun x => kf (cvF a x) (cvF b x)) (xsF (a ++ b))
theorem cfold_len (keep : Int → Bool) (l : List Rn) : ∀ (i : Nat), ((l.take i).foldl (cstep keep) []).length ≤ i := by
  intro i
  induction i with
  | zero => simp
  | succ i ih =>
    by_cases h : i < l.length
    · rw [take_snoc' h, List.foldl_append]
      simp only [List.foldl_cons, List.foldl_nil]
      generalize (l.take i).foldl (cstep keep) [] = o at *
      unfold cstep
      split
      · split
        · split
          · simp; omega
          · simp; omega
        · simp
      · omega
    · have e : l.take (i + 1) = l.take i := by rw [List.take_of_length_le (by omega), List.take_of_length_le (by omega)]
      rw [e]; omega
end Go.Proofs.YtmpncpamndhmcaaGreat
end

/-! Regions of the program, walked: combine. Conditions: as each lemma states them. -/
section
namespace Go.Proofs.YtmpncpamndhmcaaGreat
open Go Go.Ab Go.RowKit

attribute [local simp] rc_len rc_t4 rc_t1 rc_t2 rc_t3 rc_d1 rc_d2 rc_d3 rc_d4 rc_ag rc_one rc_eq

attribute [local simp] rn_mk
end Go.Proofs.YtmpncpamndhmcaaGreat
end

/-! Regions of the program, walked: bands. Conditions: as each lemma states them. -/
section
namespace Go.Proofs.YtmpncpamndhmcaaGreat
open Go Go.Ab Go.RowKit

attribute [local simp] rc_len rc_t4 rc_t1 rc_t2 rc_t3 rc_d1 rc_d2 rc_d3 rc_d4 rc_ag rc_one rc_eq

attribute [local simp] rn_mk
theorem mfold_len (l : List Rn) : ∀ (o : List Rn), (l.foldl mstep o).length ≤ o.length + l.length := by
  induction l with
  | nil => intro o; simp
  | cons r l ih =>
    intro o
    have h1 := ih (mstep o r)
    have h2 : (mstep o r).length ≤ o.length + 1 := by
      rcases list_snoc o with rfl | ⟨o, z, rfl⟩
      · simp [mstep]
      · by_cases h : r.1 ≤ z.2
        · rw [mstep_in h]; simp
        · rw [mstep_out h]; simp
    rw [List.foldl_cons, List.length_cons]; omega
theorem sumF_len {l : List Rn} (h : ∀ r ∈ l, r.1 < r.2) : (sumF l).length ≤ l.length := by
  have hp := List.mergeSort_perm l (fun a b => decide (a.1 ≤ b.1))
  have hs := List.pairwise_mergeSort (le := fun a b : Rn => decide (a.1 ≤ b.1)) (fun a b c h1 h2 => by simp at *; omega) (fun a b => by simp; omega) l
  rw [← merge_eq h hp (hs.imp fun h => by simpa using h)]
  have := mfold_len (l.mergeSort fun a b => decide (a.1 ≤ b.1)) []
  simpa using this
theorem combF_len (kf : Bool → Bool → Bool) (a b : List Rn) : (combF kf a b).length ≤ 2 * (a.length + b.length) := by
  have h := kept_eq (keep := fun x => kf (cvF a x) (cvF b x)) (xsF_rising (a ++ b))
  have h2 := cfold_len (fun x => kf (cvF a x) (cvF b x)) (pairs (xsF (a ++ b))) (pairs (xsF (a ++ b))).length
  rw [List.take_of_length_le (Nat.le_refl _), h, pairs_len] at h2
  have h3 := xsF_len (a ++ b)
  rw [List.length_append] at h3
  unfold combF
  omega
theorem cl_ok (l : List R) : ∀ r ∈ cl l, rempty r = false := fun r hr => by have := (List.mem_filter.1 hr).2; simpa using this
abbrev Bd := Int × Int × List Rn
def bstep (f : Int → List Rn) (o : List Bd) (c : Rn) : List Bd := if f c.1 = [] then o else (match o.getLast? with
  | some l => if l.2.1 = c.1 ∧ l.2.2 = f c.1 then o.dropLast ++ [(l.1, c.2, l.2.2)] else o ++ [(c.1, c.2, f c.1)]
  | none => [(c.1, c.2, f c.1)])
theorem bstep_no {f : Int → List Rn} {o : List Bd} {c : Rn} (h : f c.1 = []) : bstep f o c = o := by simp [bstep, h]
theorem bstep_nil {f : Int → List Rn} {c : Rn} (h : f c.1 ≠ []) : bstep f [] c = [(c.1, c.2, f c.1)] := by simp [bstep, h]
theorem bstep_in {f : Int → List Rn} {o : List Bd} {l : Bd} {c : Rn} (h : f c.1 ≠ []) (h2 : l.2.1 = c.1) (h3 : l.2.2 = f c.1) : bstep f (o ++ [l]) c = o ++ [(l.1, c.2, l.2.2)] := by simp [bstep, h, h2, h3]
theorem bstep_out {f : Int → List Rn} {o : List Bd} {l : Bd} {c : Rn} (h : f c.1 ≠ []) (h2 : ¬ (l.2.1 = c.1 ∧ l.2.2 = f c.1)) : bstep f (o ++ [l]) c = o ++ [l] ++ [(c.1, c.2, f c.1)] := by
  unfold bstep
  rw [if_neg h]
  simp only [List.getLast?_append, List.getLast?_singleton, Option.some_or]
  rw [if_neg h2]
def rowF (kf : Bool → Bool → Bool) (la lb : List R) (y : Int) : List Rn := combF kf (sumF (rsF la y)) (sumF (rsF lb y))
def bandsF (kf : Bool → Bool → Bool) (la lb : List R) : List Bd := (pairs (ysF (cl la ++ cl lb))).foldl (bstep (rowF kf (cl la) (cl lb))) []
/-- A band as it stands in the view: its runs behind a slice. -/
structure Z where
  f : Int
  t : Int
  r : List Rn
  v : AV
theorem Row.grow {B H : AH} {o : AV} {cs : List AV} {n sz q : Nat} {X : AO} (h : Row B H o cs n sz) (hq : H q = none) : Row (upd B q X) (upd H q X) o cs n sz := by
  rcases h with ⟨h1, h2, h3, rfl⟩ | ⟨r, h1, hr, rfl⟩
  · exact .inl ⟨h1, h2, h3, rfl⟩
  · obtain ⟨n1, n2, hq2⟩ := upd_none'.1 hq
    refine .inr ⟨r, h1, ?_, ?_⟩
    · simp only [upd_apply]; rw [if_neg (Ne.symm n1)]; exact hr
    · funext j
      simp only [upd_apply]
      by_cases e1 : j = q
      · subst e1; rw [if_pos rfl, if_neg n1, if_pos rfl]
      · rw [if_neg e1]
        by_cases e2 : j = r
        · rw [if_pos e2, if_pos e2]
        · rw [if_neg e2, if_neg e2, if_neg e1]
end Go.Proofs.YtmpncpamndhmcaaGreat
end

/-! Regions of the program, walked: bands. Conditions: as each lemma states them. -/
section
namespace Go.Proofs.YtmpncpamndhmcaaGreat
open Go Go.Ab Go.RowKit

attribute [local simp] rc_len rc_t4 rc_t1 rc_t2 rc_t3 rc_d1 rc_d2 rc_d3 rc_d4 rc_ag rc_one rc_eq

attribute [local simp] rn_mk
end Go.Proofs.YtmpncpamndhmcaaGreat
end

/-! Regions of the program, walked: the rectangles of bands; New. Conditions: as each lemma states them. -/
section
namespace Go.Proofs.YtmpncpamndhmcaaGreat
open Go Go.Ab Go.RowKit

attribute [local simp] rc_len rc_t4 rc_t1 rc_t2 rc_t3 rc_d1 rc_d2 rc_d3 rc_d4 rc_ag rc_one rc_eq

attribute [local simp] rn_mk
def mkR (f t : Int) (r : Rn) : R := ⟨r.1, f, r.2, t⟩
def rectsF (bs : List Bd) : List R := bs.flatMap fun b => b.2.2.map (mkR b.1 b.2.1)
theorem rectsF_snoc (bs : List Bd) (b : Bd) : rectsF (bs ++ [b]) = rectsF bs ++ b.2.2.map (mkR b.1 b.2.1) := by simp [rectsF]
end Go.Proofs.YtmpncpamndhmcaaGreat
end

/-! Regions of the program, walked: New. Conditions: as each lemma states them. -/
section
namespace Go.Proofs.YtmpncpamndhmcaaGreat
open Go Go.Ab Go.RowKit

attribute [local simp] rc_len rc_t4 rc_t1 rc_t2 rc_t3 rc_d1 rc_d2 rc_d3 rc_d4 rc_ag rc_one rc_eq

abbrev orF : Bool → Bool → Bool := fun x y => x || y
def canonF (l : List R) : List R := rectsF (bandsF orF l [])
end Go.Proofs.YtmpncpamndhmcaaGreat
end
