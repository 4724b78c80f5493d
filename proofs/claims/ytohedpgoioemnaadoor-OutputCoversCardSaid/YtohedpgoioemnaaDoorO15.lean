/-
  Logical and physical rectangles of a valid output: plain facts. Conditions: as each lemma states them.
-/
import Derived.Test.YtohedpgoioemnaaDoorO14
namespace Go.Proofs.YtohedpgoioemnaaDoor
open Go Go.Ab Go.RowKit
set_option linter.unusedSimpArgs false
set_option linter.unusedVariables false
set_option linter.unnecessarySimpa false

attribute [local simp] condK_true condK_false condK_not wpc_skip wpc_ret wpc_exit wpc_seq wpc_reg wpc_regD testA_bool wpc_cond wpc_block thenA_normal thenA_ret thenA_exit blockA_normal blockA_ret blockA_exit blockA_other endA_normal endA_ret ev_tmp' ev_const ev_func ev_global cv_int cv_bool cv_string cv_pointer cv_slice cv_agg put_some put_none wH_s setE_apply setE_env less_eq env_cons env_nil upd_upd upd_apply del_apply startA_eq cells_ag cells_sl one_sl cells_vs one_vs cells_ep one_ep cells_fn one_fn cells_int one_int cells_bool one_bool cells_string one_string cells_pointer one_pointer cells_slice one_slice cells_map one_map cells_agg resK_one resK_nil resK_two rvK_t rvK_c rvsK_nil rvsK_cons iseq_nil iseq_cons gdA_true gdA_false gdA_undef istep_free istep_guard istepV_free istepV_guard dseq_nil dseq_pu dseq_rd dseq_ef chkAll_nil chkAll_cons andK_true pickK_true pickK_false pickK_tb pickK_fb bin2K_pl eqbK_eq eqbK_ne eqpK_eq eqpK_ne un1K_pl convK_int fillK_some fillA_cons fillA_nil cellsK_some needK_true needK_ok seeK_ep seeK_ptr oneK_agg oneK_one nilcK_ptr nilcK_ep fadrK_ptr fadrK_ep fldK_ag iadAK_ptr iadAK_ep iadSK_sl iadSK_vs extK_0 extK_1 extK_2 extK_3 lenK_pl lenK_sl lenK_vs lensK_pl boxK_some minmax1K_int storeK_ptr callvK_fn callvK_pl newsK_nil newsK_vs newsK_sl appK_nil appK_nil0 appK_sl appK_vs bnd1K_int bndK_none bndK_some slsK_vs slsK_nil slsK_sl0 slsK_sl slstrK_pl boolK_some eqsK_ag iop_eqs iop_sls iop_slstr seesK_some seesK_ro mapsK_some MAP_some findK_some findK_none plK_pl nmapK_none nmapK_some iop_mlook iop_mlen iop_mmk iop_mupd iop_mdel iop_mrng itK_none itK_some ptr0K_ptr iop_mnxt iop_ment it1K_some entK_some iop_mov iop_pick iop_bin iop_eqb iop_eqp iop_un iop_conv iop_build iop_load iop_nilc iop_fadr iop_fld iop_iadA iop_iadS iop_ext iop_mkf iop_len iop_lens iop_minmax iop_al iop_box iop_bsl iop_store iop_call iop_callv iop_app BIN_add BIN_sub BIN_mul BIN_and BIN_or BIN_xor BIN_andNot BIN_eql BIN_neq BIN_lss BIN_leq BIN_gtr BIN_geq BIN_quo BIN_rem BIN_shl BIN_shr BIN_sadd BIN_seql BIN_sneq BIN_slss BIN_sleq BIN_sgtr BIN_sgeq UN_neg UN_xor UN_not MM_nil MM_cons partsA argsA ptrA lessL eqL min2I slotN_int slotP_int slotI_int

theorem k4 (k : Int) (h : 1 ≤ k ∧ k ≤ 4) : k = 1 ∨ k = 2 ∨ k = 3 ∨ k = 4 := by omega
def dW (o : O) : Int := (swp o.tr o.w o.h).1
def dH (o : O) : Int := (swp o.tr o.w o.h).2
theorem dims (o : O) (hc : chk o = 0) : (1 ≤ dW o ∧ dW o ≤ 256) ∧ (1 ≤ dH o ∧ dH o ≤ 256) ∧ dW o % o.sc = 0 ∧ dH o % o.sc = 0 := by
  obtain ⟨ht, hk, hw, hh, hwk, hhk, hx, hy⟩ := chk_dims o hc
  unfold dW dH swp
  split <;> simp [hw, hh, hwk, hhk]
theorem lg_eq (o : O) (hc : chk o = 0) : lg o = ⟨o.x, o.y, o.x + dW o / o.sc, o.y + dH o / o.sc⟩ ∧ o.x + dW o / o.sc ≤ 16384 ∧ o.y + dH o / o.sc ≤ 16384 ∧ 1 ≤ dW o / o.sc ∧ 1 ≤ dH o / o.sc := by
  obtain ⟨ht, hk, hw, hh, hwk, hhk, hx, hy⟩ := chk_dims o hc
  obtain ⟨d1, d2, d3, d4⟩ := dims o hc
  have hv := (chk_parts o hc).2.2.2.2.2.2.2.2.2.2
  have e1 := div_small (dW o) o.sc (by omega) hk
  have e2 := div_small (dH o) o.sc (by omega) hk
  have e : lrect o = ⟨o.x, o.y, o.x + dW o / o.sc, o.y + dH o / o.sc⟩ := by
    unfold lrect sz
    show R.mk _ _ (W64 (o.x + W64 ((dW o).tdiv o.sc))) (W64 (o.y + W64 ((dH o).tdiv o.sc))) = _
    unfold W64
    rw [e1.1, e2.1, IntWalk.i64_in _ (by omega), IntWalk.i64_in _ (by omega)]
  rw [e] at hv
  simp [rvalid, okc] at hv
  refine ⟨by rw [lg, if_pos hc, e], by omega, by omega, ?_, ?_⟩
  · rcases k4 _ hk with h | h | h | h <;> rw [h] at d3 ⊢ <;> omega
  · rcases k4 _ hk with h | h | h | h <;> rw [h] at d4 ⊢ <;> omega
theorem lg_ne (o : O) (hc : chk o = 0) : rempty (lg o) = false := by
  obtain ⟨e, h1, h2, h3, h4⟩ := lg_eq o hc
  obtain ⟨ht, hk, hw, hh, hwk, hhk, hx, hy⟩ := chk_dims o hc
  rw [e]; exact rempty_of _ (by simp; omega)
theorem img_ne (o : O) (hc : chk o = 0) : rempty (imgO o) = false := by
  obtain ⟨ht, hk, hw, hh, hwk, hhk, hx, hy⟩ := chk_dims o hc
  exact rempty_of _ (by simp [imgO]; omega)
def inR (a b : R) : Prop := b.x0 ≤ a.x0 ∧ a.x1 ≤ b.x1 ∧ b.y0 ≤ a.y0 ∧ a.y1 ≤ b.y1
theorem cap_in (a b : R) (h : rempty (rcap a b) = false) : inR (rcap a b) b := by
  obtain ⟨e, _, _⟩ := rcap_ne a b h
  rw [e]; unfold inR; simp; omega
def img' (o : O) : R := ⟨0, 0, dW o, dH o⟩
theorem swp_back (o : O) : swp o.tr (dW o) (dH o) = (o.w, o.h) := swp_swp _ _ _
theorem big_in (o : O) (hc : chk o = 0) (q : R) (hq : rempty q = false) (hin : inR q (lg o)) :
    0 ≤ (big o q).x0 ∧ (big o q).x0 < (big o q).x1 ∧ (big o q).x1 ≤ dW o ∧ 0 ≤ (big o q).y0 ∧ (big o q).y0 < (big o q).y1 ∧ (big o q).y1 ≤ dH o := by
  obtain ⟨e, h1, h2, h3, h4⟩ := lg_eq o hc
  obtain ⟨ht, hk, hw, hh, hwk, hhk, hx, hy⟩ := chk_dims o hc
  obtain ⟨d1, d2, d3, d4⟩ := dims o hc
  have hq' := rempty_ok q hq
  rw [e] at hin
  unfold inR at hin
  simp only at hin
  unfold big
  simp only
  generalize dW o = A at *
  generalize dH o = B at *
  generalize o.sc = k at *
  rcases k4 _ hk with rfl | rfl | rfl | rfl <;> omega
theorem phys_eq (o : O) (hc : chk o = 0) (q : R) (hq : rempty q = false) (hin : inR q (lg o)) : phys o q = tr8 o.tr (dW o) (dH o) (big o q) := by
  have hb := big_in o hc q hq hin
  obtain ⟨ht, hk, hw, hh, hwk, hhk, hx, hy⟩ := chk_dims o hc
  obtain ⟨d1, d2, d3, d4⟩ := dims o hc
  show trect o.tr (dW o) (dH o) (big o q) = _
  exact trect_eq _ (dW o) (dH o) _ ht (by simp [inb]; omega) (rempty_of _ (by omega)) (by omega)
theorem phys_in (o : O) (hc : chk o = 0) (q : R) (hq : rempty q = false) (hin : inR q (lg o)) : rempty (phys o q) = false ∧ inR (phys o q) (imgO o) := by
  have hb := big_in o hc q hq hin
  obtain ⟨ht, hk, hw, hh, hwk, hhk, hx, hy⟩ := chk_dims o hc
  have h := tr8_in o.tr (dW o) (dH o) (big o q) ht (by omega)
  rw [swp_back] at h
  rw [phys_eq o hc q hq hin]
  simp only at h
  exact ⟨rempty_of _ (by omega), by unfold inR imgO; simp only; omega⟩
theorem small_big (o : O) (hk : 1 ≤ o.sc ∧ o.sc ≤ 4) (q : R) : small4 o (big o q) = q := by
  cases q with
  | mk a b c d =>
  simp only [small4, big, R.mk.injEq]
  generalize o.sc = k at *
  rcases k4 _ hk with rfl | rfl | rfl | rfl <;> omega
theorem logi_eq (o : O) (hc : chk o = 0) (p : R) (hp : rempty p = false) (hin : inR p (imgO o)) : logi o p = small4 o (tr8 (invT o.tr) o.w o.h p) := by
  obtain ⟨ht, hk, hw, hh, hwk, hhk, hx, hy⟩ := chk_dims o hc
  unfold inR imgO at hin
  simp only at hin
  have hp' := rempty_ok p hp
  rw [logi, trect_eq _ _ _ _ (invT_rng _ ht) (by simp [inb]; omega) hp (by omega)]
theorem back (o : O) (ht : 0 ≤ o.tr ∧ o.tr ≤ 7) (r : R) : tr8 (invT o.tr) o.w o.h (tr8 o.tr (dW o) (dH o) r) = r := by
  have := tr8_back o.tr (dW o) (dH o) r ht
  rwa [swp_back] at this
theorem forth (o : O) (ht : 0 ≤ o.tr ∧ o.tr ≤ 7) (r : R) : tr8 o.tr (dW o) (dH o) (tr8 (invT o.tr) o.w o.h r) = r := tr8_forth o.tr o.w o.h r ht
theorem toPhys_in (o : O) (hc : chk o = 0) (q : R) (hq : rempty q = false) (hin : inR q (lg o)) : toPhys o q = phys o q := by
  rw [toPhys, if_pos hc, rcap_in q _ hq (lg_ne o hc) hin, hq]; rfl
theorem toLog_in (o : O) (hc : chk o = 0) (p : R) (hp : rempty p = false) (hin : inR p (imgO o)) : toLog o p = logi o p := by
  rw [toLog, if_pos hc, rcap_in p _ hp (img_ne o hc) hin, hp]; rfl
theorem inR_refl (a : R) : inR a a := ⟨by omega, by omega, by omega, by omega⟩
theorem m_back (o : O) (hc : chk o = 0) (q : R) (hq : rempty q = false) (hin : inR q (lg o)) : toLog o (phys o q) = q := by
  obtain ⟨ht, hk, _⟩ := chk_dims o hc
  obtain ⟨h1, h2⟩ := phys_in o hc q hq hin
  rw [toLog_in o hc _ h1 h2, logi_eq o hc _ h1 h2, phys_eq o hc q hq hin, back o ht, small_big o hk]
theorem big_all (o : O) (hc : chk o = 0) : big o (lg o) = img' o := by
  obtain ⟨e, h1, h2, h3, h4⟩ := lg_eq o hc
  obtain ⟨ht, hk, hw, hh, hwk, hhk, hx, hy⟩ := chk_dims o hc
  obtain ⟨d1, d2, d3, d4⟩ := dims o hc
  rw [e]
  simp only [big, img', R.mk.injEq]
  generalize dW o = A at *
  generalize dH o = B at *
  generalize o.sc = k at *
  rcases k4 _ hk with rfl | rfl | rfl | rfl <;> omega
theorem tr8_all (t w h : Int) (ht : 0 ≤ t ∧ t ≤ 7) : tr8 t w h ⟨0, 0, w, h⟩ = ⟨0, 0, (swp t w h).1, (swp t w h).2⟩ := by
  unfold swp
  rw [odd_iff t ht]
  rcases t8 t ht with rfl | rfl | rfl | rfl | rfl | rfl | rfl | rfl <;> simp [tr8]
theorem m_all (o : O) (hc : chk o = 0) : toPhys o (lg o) = imgO o ∧ toLog o (imgO o) = lg o := by
  obtain ⟨ht, hk, _⟩ := chk_dims o hc
  have e1 : toPhys o (lg o) = imgO o := by
    rw [toPhys_in o hc _ (lg_ne o hc) (inR_refl _), phys_eq o hc _ (lg_ne o hc) (inR_refl _), big_all o hc, img', tr8_all _ _ _ ht, swp_back]; rfl
  refine ⟨e1, ?_⟩
  have := m_back o hc (lg o) (lg_ne o hc) (inR_refl _)
  rwa [← toPhys_in o hc _ (lg_ne o hc) (inR_refl _), e1] at this
theorem area_ne (r : R) (h : rempty r = false) : rarea r = (r.x1 - r.x0) * (r.y1 - r.y0) := by simp [rarea, rcan, h]
theorem m_area (o : O) (hc : chk o = 0) (q : R) (hq : rempty q = false) (hin : inR q (lg o)) : rarea (phys o q) = o.sc * o.sc * rarea q := by
  obtain ⟨ht, hk, _⟩ := chk_dims o hc
  rw [area_ne _ (phys_in o hc q hq hin).1, area_ne _ hq, phys_eq o hc q hq hin, tr8_area _ _ _ _ ht]
  simp only [big]
  rw [← Int.sub_mul, ← Int.sub_mul]
  have e1 : q.x1 - o.x - (q.x0 - o.x) = q.x1 - q.x0 := by omega
  have e2 : q.y1 - o.y - (q.y0 - o.y) = q.y1 - q.y0 := by omega
  rw [e1, e2]
  ac_rfl
theorem m_area_all (o : O) (hc : chk o = 0) : rarea (lg o) * o.sc * o.sc = o.w * o.h := by
  obtain ⟨ht, hk, _⟩ := chk_dims o hc
  have h1 := m_area o hc _ (lg_ne o hc) (inR_refl _)
  have h2 := (m_all o hc).1
  rw [toPhys_in o hc _ (lg_ne o hc) (inR_refl _)] at h2
  rw [h2, area_ne _ (img_ne o hc)] at h1
  simp only [imgO, Int.sub_zero] at h1
  rw [h1, Int.mul_assoc, Int.mul_comm]
theorem area_lg (o : O) (hc : chk o = 0) (q : R) (hq : rempty q = false) (hin : inR q (lg o)) : 0 ≤ rarea q ∧ rarea q ≤ 65536 := by
  obtain ⟨e, h1, h2, h3, h4⟩ := lg_eq o hc
  obtain ⟨d1, d2, d3, d4⟩ := dims o hc
  obtain ⟨ht, hk, hw, hh, hwk, hhk, hx, hy⟩ := chk_dims o hc
  have hq' := rempty_ok q hq
  have g1 : dW o / o.sc ≤ dW o := Int.ediv_le_self _ (by omega)
  have g2 : dH o / o.sc ≤ dH o := Int.ediv_le_self _ (by omega)
  rw [e] at hin
  unfold inR at hin
  simp only at hin
  rw [area_ne _ hq]
  have := Int.mul_le_mul (show q.x1 - q.x0 ≤ 256 by omega) (show q.y1 - q.y0 ≤ 256 by omega) (by omega) (by omega)
  exact ⟨Int.mul_nonneg (by omega) (by omega), by omega⟩
end Go.Proofs.YtohedpgoioemnaaDoor
