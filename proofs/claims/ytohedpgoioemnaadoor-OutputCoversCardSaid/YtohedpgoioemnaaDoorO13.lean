/-
  How the eight transforms move rectangles: plain facts. Conditions: as each lemma states them.
-/
import Derived.Test.YtohedpgoioemnaaDoorO12
namespace Go.Proofs.YtohedpgoioemnaaDoor
open Go Go.Ab Go.RowKit
set_option linter.unusedSimpArgs false
set_option linter.unusedVariables false
set_option linter.unnecessarySimpa false

attribute [local simp] condK_true condK_false condK_not wpc_skip wpc_ret wpc_exit wpc_seq wpc_reg wpc_regD testA_bool wpc_cond wpc_block thenA_normal thenA_ret thenA_exit blockA_normal blockA_ret blockA_exit blockA_other endA_normal endA_ret ev_tmp' ev_const ev_func ev_global cv_int cv_bool cv_string cv_pointer cv_slice cv_agg put_some put_none wH_s setE_apply setE_env less_eq env_cons env_nil upd_upd upd_apply del_apply startA_eq cells_ag cells_sl one_sl cells_vs one_vs cells_ep one_ep cells_fn one_fn cells_int one_int cells_bool one_bool cells_string one_string cells_pointer one_pointer cells_slice one_slice cells_map one_map cells_agg resK_one resK_nil resK_two rvK_t rvK_c rvsK_nil rvsK_cons iseq_nil iseq_cons gdA_true gdA_false gdA_undef istep_free istep_guard istepV_free istepV_guard dseq_nil dseq_pu dseq_rd dseq_ef chkAll_nil chkAll_cons andK_true pickK_true pickK_false pickK_tb pickK_fb bin2K_pl eqbK_eq eqbK_ne eqpK_eq eqpK_ne un1K_pl convK_int fillK_some fillA_cons fillA_nil cellsK_some needK_true needK_ok seeK_ep seeK_ptr oneK_agg oneK_one nilcK_ptr nilcK_ep fadrK_ptr fadrK_ep fldK_ag iadAK_ptr iadAK_ep iadSK_sl iadSK_vs extK_0 extK_1 extK_2 extK_3 lenK_pl lenK_sl lenK_vs lensK_pl boxK_some minmax1K_int storeK_ptr callvK_fn callvK_pl newsK_nil newsK_vs newsK_sl appK_nil appK_nil0 appK_sl appK_vs bnd1K_int bndK_none bndK_some slsK_vs slsK_nil slsK_sl0 slsK_sl slstrK_pl boolK_some eqsK_ag iop_eqs iop_sls iop_slstr seesK_some seesK_ro mapsK_some MAP_some findK_some findK_none plK_pl nmapK_none nmapK_some iop_mlook iop_mlen iop_mmk iop_mupd iop_mdel iop_mrng itK_none itK_some ptr0K_ptr iop_mnxt iop_ment it1K_some entK_some iop_mov iop_pick iop_bin iop_eqb iop_eqp iop_un iop_conv iop_build iop_load iop_nilc iop_fadr iop_fld iop_iadA iop_iadS iop_ext iop_mkf iop_len iop_lens iop_minmax iop_al iop_box iop_bsl iop_store iop_call iop_callv iop_app BIN_add BIN_sub BIN_mul BIN_and BIN_or BIN_xor BIN_andNot BIN_eql BIN_neq BIN_lss BIN_leq BIN_gtr BIN_geq BIN_quo BIN_rem BIN_shl BIN_shr BIN_sadd BIN_seql BIN_sneq BIN_slss BIN_sleq BIN_sgtr BIN_sgeq UN_neg UN_xor UN_not MM_nil MM_cons partsA argsA ptrA lessL eqL min2I slotN_int slotP_int slotI_int

theorem rcap_ne (a b : R) (h : rempty (rcap a b) = false) : rcap a b = ⟨max a.x0 b.x0, max a.y0 b.y0, min a.x1 b.x1, min a.y1 b.y1⟩ ∧ rempty a = false ∧ rempty b = false := by
  unfold rcap at h ⊢
  cases ha : rempty a with
  | true => simp [ha, rempty_zero] at h
  | false =>
    cases hb : rempty b with
    | true => simp [ha, hb, rempty_zero] at h
    | false =>
      simp [ha, hb] at h ⊢
      unfold rcan at h ⊢
      split
      · rename_i e; simp [e, rempty_zero] at h
      · rfl
theorem rcap_in (a b : R) (ha : rempty a = false) (hb : rempty b = false) (h : b.x0 ≤ a.x0 ∧ a.x1 ≤ b.x1 ∧ b.y0 ≤ a.y0 ∧ a.y1 ≤ b.y1) : rcap a b = a := by
  have e : (⟨max a.x0 b.x0, max a.y0 b.y0, min a.x1 b.x1, min a.y1 b.y1⟩ : R) = a := by
    cases a; simp at h ⊢; omega
  unfold rcap
  simp [ha, hb, e, rcan]
theorem rin_iff (a b : R) (ha : rempty a = false) : rin a b = true ↔ rempty b = false ∧ b.x0 ≤ a.x0 ∧ a.x1 ≤ b.x1 ∧ b.y0 ≤ a.y0 ∧ a.y1 ≤ b.y1 := by
  have e : rcan a = a := by simp [rcan, ha]
  unfold rin
  rw [req_iff, e]
  constructor
  · intro h
    have h2 := h ▸ ha
    obtain ⟨h3, _, h4⟩ := rcap_ne a b h2
    rw [h3] at h
    have h5 := congrArg R.x0 h
    have h6 := congrArg R.x1 h
    have h7 := congrArg R.y0 h
    have h8 := congrArg R.y1 h
    simp at h5 h6 h7 h8
    exact ⟨h4, by omega, by omega, by omega, by omega⟩
  · rintro ⟨h1, h2⟩
    exact (rcap_in a b ha h1 h2).symm
/-- Where a transform leaves a rectangle of an image of w by h. -/
def tr8 (t w h : Int) (r : R) : R :=
  if t = 0 then r else if t = 1 then ⟨r.y0, w - r.x1, r.y1, w - r.x0⟩ else if t = 2 then ⟨w - r.x1, h - r.y1, w - r.x0, h - r.y0⟩
  else if t = 3 then ⟨h - r.y1, r.x0, h - r.y0, r.x1⟩ else if t = 4 then ⟨w - r.x1, r.y0, w - r.x0, r.y1⟩ else if t = 5 then ⟨r.y0, r.x0, r.y1, r.x1⟩
  else if t = 6 then ⟨r.x0, h - r.y1, r.x1, h - r.y0⟩ else ⟨h - r.y1, w - r.x1, h - r.y0, w - r.x0⟩
theorem t8 (t : Int) (h : 0 ≤ t ∧ t ≤ 7) : t = 0 ∨ t = 1 ∨ t = 2 ∨ t = 3 ∨ t = 4 ∨ t = 5 ∨ t = 6 ∨ t = 7 := by omega
theorem tbox_eq (t w h : Int) (r : R) (ht : 0 ≤ t ∧ t ≤ 7) (hr : r.x0 < r.x1 ∧ r.y0 < r.y1) : tbox (tap t w h (ptx r)) (tap t w h (pty r)) = tr8 t w h r := by
  rcases t8 t ht with rfl | rfl | rfl | rfl | rfl | rfl | rfl | rfl <;> simp [tap, tapF, tbox, ptx, pty, tr8] <;> (first | (cases r; simp at hr ⊢; omega) | omega)
theorem odd_iff (t : Int) (h : 0 ≤ t ∧ t ≤ 7) : odd t = decide (t = 1 ∨ t = 3 ∨ t = 5 ∨ t = 7) := by
  have e : nrm t = t := by simp [nrm, okt]; omega
  unfold odd
  rw [e]
  rcases t8 t h with rfl | rfl | rfl | rfl | rfl | rfl | rfl | rfl <;> decide
theorem trect_eq (t w h : Int) (r : R) (ht : 0 ≤ t ∧ t ≤ 7) (hb : inb w h = true) (hr : rempty r = false) (hin : 0 ≤ r.x0 ∧ r.x1 ≤ w ∧ 0 ≤ r.y0 ∧ r.y1 ≤ h) : trect t w h r = tr8 t w h r := by
  have hr' := rempty_ok r hr
  have e : nrm t = t := by simp [nrm, okt]; omega
  have hb' : (1 ≤ w ∧ w ≤ 16384) ∧ 1 ≤ h ∧ h ≤ 16384 := by simp [inb] at hb; omega
  have e2 : rcap r ⟨0, 0, w, h⟩ = r := rcap_in _ _ hr (rempty_of _ (by simp; omega)) (by simp; omega)
  unfold trect
  simp only [hb, e2, hr, e, if_true, Bool.false_eq_true, if_false]
  exact tbox_eq t w h r ht ⟨by omega, by omega⟩
theorem tr8_in (t w h : Int) (r : R) (ht : 0 ≤ t ∧ t ≤ 7) (hr : 0 ≤ r.x0 ∧ r.x0 < r.x1 ∧ r.x1 ≤ w ∧ 0 ≤ r.y0 ∧ r.y0 < r.y1 ∧ r.y1 ≤ h) :
    0 ≤ (tr8 t w h r).x0 ∧ (tr8 t w h r).x0 < (tr8 t w h r).x1 ∧ (tr8 t w h r).x1 ≤ (swp t w h).1 ∧ 0 ≤ (tr8 t w h r).y0 ∧ (tr8 t w h r).y0 < (tr8 t w h r).y1 ∧ (tr8 t w h r).y1 ≤ (swp t w h).2 := by
  unfold swp
  rw [odd_iff t ht]
  rcases t8 t ht with rfl | rfl | rfl | rfl | rfl | rfl | rfl | rfl <;> simp [tr8] <;> omega
theorem invT_eq (t : Int) (ht : 0 ≤ t ∧ t ≤ 7) : invT t = (if t = 1 then 3 else if t = 3 then 1 else t) := by
  have e : nrm t = t := by simp [nrm, okt]; omega
  rw [invT, e]
theorem invT_rng (t : Int) (ht : 0 ≤ t ∧ t ≤ 7) : 0 ≤ invT t ∧ invT t ≤ 7 := by
  rw [invT_eq t ht]; repeat' split
  all_goals omega
theorem swp_swp (t w h : Int) : swp t (swp t w h).1 (swp t w h).2 = (w, h) := by
  unfold swp; split <;> simp_all
theorem swp_inv (t w h : Int) (ht : 0 ≤ t ∧ t ≤ 7) : swp (invT t) w h = swp t w h := by
  unfold swp
  rw [odd_iff t ht, odd_iff _ (invT_rng t ht), invT_eq t ht]
  rcases t8 t ht with rfl | rfl | rfl | rfl | rfl | rfl | rfl | rfl <;> simp
/-- Back, and forth. -/
theorem tr8_back (t w h : Int) (r : R) (ht : 0 ≤ t ∧ t ≤ 7) : tr8 (invT t) (swp t w h).1 (swp t w h).2 (tr8 t w h r) = r := by
  unfold swp
  rw [odd_iff t ht, invT_eq t ht]
  rcases t8 t ht with rfl | rfl | rfl | rfl | rfl | rfl | rfl | rfl <;> cases r <;> simp [tr8] <;> omega
theorem tr8_forth (t w h : Int) (r : R) (ht : 0 ≤ t ∧ t ≤ 7) : tr8 t (swp t w h).1 (swp t w h).2 (tr8 (invT t) w h r) = r := by
  unfold swp
  rw [odd_iff t ht, invT_eq t ht]
  rcases t8 t ht with rfl | rfl | rfl | rfl | rfl | rfl | rfl | rfl <;> cases r <;> simp [tr8] <;> omega
/-- Within stays within, both ways. -/
theorem tr8_mono (t w h : Int) (a b : R) (ht : 0 ≤ t ∧ t ≤ 7) :
    ((tr8 t w h b).x0 ≤ (tr8 t w h a).x0 ∧ (tr8 t w h a).x1 ≤ (tr8 t w h b).x1 ∧ (tr8 t w h b).y0 ≤ (tr8 t w h a).y0 ∧ (tr8 t w h a).y1 ≤ (tr8 t w h b).y1) ↔ (b.x0 ≤ a.x0 ∧ a.x1 ≤ b.x1 ∧ b.y0 ≤ a.y0 ∧ a.y1 ≤ b.y1) := by
  rcases t8 t ht with rfl | rfl | rfl | rfl | rfl | rfl | rfl | rfl <;> simp [tr8] <;> omega
theorem tr8_area (t w h : Int) (r : R) (ht : 0 ≤ t ∧ t ≤ 7) : ((tr8 t w h r).x1 - (tr8 t w h r).x0) * ((tr8 t w h r).y1 - (tr8 t w h r).y0) = (r.x1 - r.x0) * (r.y1 - r.y0) := by
  have c : (r.y1 - r.y0) * (r.x1 - r.x0) = (r.x1 - r.x0) * (r.y1 - r.y0) := Int.mul_comm _ _
  have e1 : w - r.x0 - (w - r.x1) = r.x1 - r.x0 := by omega
  have e2 : h - r.y0 - (h - r.y1) = r.y1 - r.y0 := by omega
  rcases t8 t ht with rfl | rfl | rfl | rfl | rfl | rfl | rfl | rfl <;> simp [tr8, e1, e2, c]
end Go.Proofs.YtohedpgoioemnaaDoor
