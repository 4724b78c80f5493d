/-
  OutputCovers: for every output and rectangle the law returns true. Conditions: as each lemma states them.
-/
import Derived.Test.YtohedpgoioemnaaDoorO15
import Derived.Test.YtohedpgoioemnaaDoorO9
namespace Go.Proofs.YtohedpgoioemnaaDoor
open Go Go.Ab Go.RowKit
set_option linter.unusedSimpArgs false
set_option linter.unusedVariables false
set_option linter.unnecessarySimpa false

attribute [local simp] condK_true condK_false condK_not wpc_skip wpc_ret wpc_exit wpc_seq wpc_reg wpc_regD testA_bool wpc_cond wpc_block thenA_normal thenA_ret thenA_exit blockA_normal blockA_ret blockA_exit blockA_other endA_normal endA_ret ev_tmp' ev_const ev_func ev_global cv_int cv_bool cv_string cv_pointer cv_slice cv_agg put_some put_none wH_s setE_apply setE_env less_eq env_cons env_nil upd_upd upd_apply del_apply startA_eq cells_ag cells_sl one_sl cells_vs one_vs cells_ep one_ep cells_fn one_fn cells_int one_int cells_bool one_bool cells_string one_string cells_pointer one_pointer cells_slice one_slice cells_map one_map cells_agg resK_one resK_nil resK_two rvK_t rvK_c rvsK_nil rvsK_cons iseq_nil iseq_cons gdA_true gdA_false gdA_undef istep_free istep_guard istepV_free istepV_guard dseq_nil dseq_pu dseq_rd dseq_ef chkAll_nil chkAll_cons andK_true pickK_true pickK_false pickK_tb pickK_fb bin2K_pl eqbK_eq eqbK_ne eqpK_eq eqpK_ne un1K_pl convK_int fillK_some fillA_cons fillA_nil cellsK_some needK_true needK_ok seeK_ep seeK_ptr oneK_agg oneK_one nilcK_ptr nilcK_ep fadrK_ptr fadrK_ep fldK_ag iadAK_ptr iadAK_ep iadSK_sl iadSK_vs extK_0 extK_1 extK_2 extK_3 lenK_pl lenK_sl lenK_vs lensK_pl boxK_some minmax1K_int storeK_ptr callvK_fn callvK_pl newsK_nil newsK_vs newsK_sl appK_nil appK_nil0 appK_sl appK_vs bnd1K_int bndK_none bndK_some slsK_vs slsK_nil slsK_sl0 slsK_sl slstrK_pl boolK_some eqsK_ag iop_eqs iop_sls iop_slstr seesK_some seesK_ro mapsK_some MAP_some findK_some findK_none plK_pl nmapK_none nmapK_some iop_mlook iop_mlen iop_mmk iop_mupd iop_mdel iop_mrng itK_none itK_some ptr0K_ptr iop_mnxt iop_ment it1K_some entK_some iop_mov iop_pick iop_bin iop_eqb iop_eqp iop_un iop_conv iop_build iop_load iop_nilc iop_fadr iop_fld iop_iadA iop_iadS iop_ext iop_mkf iop_len iop_lens iop_minmax iop_al iop_box iop_bsl iop_store iop_call iop_callv iop_app BIN_add BIN_sub BIN_mul BIN_and BIN_or BIN_xor BIN_andNot BIN_eql BIN_neq BIN_lss BIN_leq BIN_gtr BIN_geq BIN_quo BIN_rem BIN_shl BIN_shr BIN_sadd BIN_seql BIN_sneq BIN_slss BIN_sleq BIN_sgtr BIN_sgeq UN_neg UN_xor UN_not MM_nil MM_cons partsA argsA ptrA lessL eqL min2I slotN_int slotP_int slotI_int
attribute [local simp] rc_len rc_t4 rc_t1 rc_t2 rc_t3 rc_d1 rc_d2 rc_d3 rc_d4 rc_ag rc_one rc_eq pc_len pc_t1 pc_t2 pc_d1 pc_d2 pc_ag pc_one oc_len oc_tt oc_dd oc_one oc_ag oc_t1 oc_t2 oc_t3 oc_t4 oc_t5 oc_t6 oc_t7 oc_d1 oc_d2 oc_d3 oc_d4 oc_d5 oc_d6 oc_d7 min2_t min2_f

theorem img_mk' (o : O) : (⟨0, 0, o.w, o.h⟩ : R) = imgO o := rfl
/-- What covers, at each side. -/
theorem cov1 (k a b D : Int) (hk : 1 ≤ k ∧ k ≤ 4) (ha : 0 ≤ a ∧ a < b ∧ b ≤ D) (hD : D % k = 0) :
    0 ≤ a / k ∧ a / k < (b + k - 1) / k ∧ (b + k - 1) / k ≤ D / k ∧ a / k * k ≤ a ∧ b ≤ (b + k - 1) / k * k ∧ a < (a / k + 1) * k ∧ ((b + k - 1) / k - 1) * k < b := by
  rcases k4 k hk with rfl | rfl | rfl | rfl <;> omega
def lessR (l : R) (i : Nat) : R :=
  if i = 0 then ⟨l.x0 + 1, l.y0, l.x1, l.y1⟩ else if i = 1 then ⟨l.x0, l.y0 + 1, l.x1, l.y1⟩ else if i = 2 then ⟨l.x0, l.y0, l.x1 - 1, l.y1⟩ else ⟨l.x0, l.y0, l.x1, l.y1 - 1⟩
theorem covers (o : O) (hc : chk o = 0) (p : R) (hp : rempty p = false) (hin : inR p (imgO o)) :
    rempty (logi o p) = false ∧ inR (logi o p) (lg o) ∧ rin p (phys o (logi o p)) = true ∧ ∀ i, i < 4 → (!rempty (toPhys o (lessR (logi o p) i)) && rin p (toPhys o (lessR (logi o p) i))) = false := by
  obtain ⟨ht, hk, hw, hh, hwk, hhk, hx, hy⟩ := chk_dims o hc
  obtain ⟨d1, d2, d3, d4⟩ := dims o hc
  obtain ⟨e, h1, h2, h3, h4⟩ := lg_eq o hc
  have hp' := rempty_ok p hp
  have hin' := hin
  unfold inR imgO at hin'
  simp only at hin'
  have hq := tr8_in (invT o.tr) o.w o.h p (invT_rng _ ht) (by omega)
  rw [swp_inv _ _ _ ht] at hq
  have hf := forth o ht p
  rw [logi_eq o hc p hp hin]
  generalize tr8 (invT o.tr) o.w o.h p = q at hq hf
  have hq : 0 ≤ q.x0 ∧ q.x0 < q.x1 ∧ q.x1 ≤ dW o ∧ 0 ≤ q.y0 ∧ q.y0 < q.y1 ∧ q.y1 ≤ dH o := hq
  have cx := cov1 o.sc q.x0 q.x1 (dW o) hk (by omega) d3
  have cy := cov1 o.sc q.y0 q.y1 (dH o) hk (by omega) d4
  have hl : rempty (small4 o q) = false := rempty_of _ (by simp only [small4]; omega)
  have hlin : inR (small4 o q) (lg o) := by rw [e]; unfold inR small4; simp only; omega
  have mono := fun b : R => tr8_mono o.tr (dW o) (dH o) q b ht
  have inside : ∀ b : R, rempty b = false → inR b (lg o) → (rin p (phys o b) = true ↔ (big o b).x0 ≤ q.x0 ∧ q.x1 ≤ (big o b).x1 ∧ (big o b).y0 ≤ q.y0 ∧ q.y1 ≤ (big o b).y1) := by
    intro b hb hbin
    rw [rin_iff p _ hp, phys_eq o hc b hb hbin]
    have hne := (phys_in o hc b hb hbin).1
    rw [phys_eq o hc b hb hbin] at hne
    conv => lhs; rw [← hf]
    rw [mono]
    simp [hne]
  refine ⟨hl, hlin, (inside _ hl hlin).2 ?_, fun i hi => ?_⟩
  · simp only [big, small4, Int.add_sub_cancel]; omega
  · cases hr : rempty (rcap (lessR (small4 o q) i) (lg o)) with
    | true =>
      have : toPhys o (lessR (small4 o q) i) = ⟨0, 0, 0, 0⟩ := by simp [toPhys, hr]
      rw [this, rempty_zero]; rfl
    | false =>
      have hle : rempty (lessR (small4 o q) i) = false := (rcap_ne _ _ hr).2.1
      have hli : inR (lessR (small4 o q) i) (lg o) := by
        unfold inR at hlin ⊢
        unfold lessR
        repeat' split
        all_goals (simp only; omega)
      rw [toPhys_in o hc _ hle hli]
      have : ¬ rin p (phys o (lessR (small4 o q) i)) = true := by
        rw [inside _ hle hli]
        have : i = 0 ∨ i = 1 ∨ i = 2 ∨ i = 3 := by omega
        have a1 : q.x0 / o.sc + o.x + 1 - o.x = q.x0 / o.sc + 1 := by omega
        have a2 : q.y0 / o.sc + o.y + 1 - o.y = q.y0 / o.sc + 1 := by omega
        have a3 : (q.x1 + o.sc - 1) / o.sc + o.x - 1 - o.x = (q.x1 + o.sc - 1) / o.sc - 1 := by omega
        have a4 : (q.y1 + o.sc - 1) / o.sc + o.y - 1 - o.y = (q.y1 + o.sc - 1) / o.sc - 1 := by omega
        rcases this with rfl | rfl | rfl | rfl <;> simp [lessR, big, small4, a1, a2, a3, a4] <;> omega
      simp [this]
end Go.Proofs.YtohedpgoioemnaaDoor
