/-
  Check of the specification: it answers as the program's does. No conditions.
-/
import Derived.Test.YtidcajmbkbamcaaO4
namespace Go.Proofs.Ytidcajmbkbamcaa
open Go Go.Ab Go.RowKit
set_option linter.unusedSimpArgs false
set_option linter.unusedVariables false
set_option linter.unnecessarySimpa false

attribute [local simp] condK_true condK_false condK_not wpc_skip wpc_ret wpc_exit wpc_seq wpc_reg wpc_regD testA_bool wpc_cond wpc_block thenA_normal thenA_ret thenA_exit blockA_normal blockA_ret blockA_exit blockA_other endA_normal endA_ret ev_tmp' ev_const ev_func ev_global cv_int cv_bool cv_string cv_pointer cv_slice cv_agg put_some put_none wH_s setE_apply setE_env less_eq env_cons env_nil upd_upd upd_apply del_apply startA_eq cells_ag cells_sl one_sl cells_vs one_vs cells_ep one_ep cells_fn one_fn cells_int one_int cells_bool one_bool cells_string one_string cells_pointer one_pointer cells_slice one_slice cells_map one_map cells_agg resK_one resK_nil resK_two rvK_t rvK_c rvsK_nil rvsK_cons iseq_nil iseq_cons gdA_true gdA_false gdA_undef istep_free istep_guard istepV_free istepV_guard dseq_nil dseq_pu dseq_rd dseq_ef chkAll_nil chkAll_cons andK_true pickK_true pickK_false pickK_tb pickK_fb bin2K_pl eqbK_eq eqbK_ne eqpK_eq eqpK_ne un1K_pl convK_int fillK_some fillA_cons fillA_nil cellsK_some needK_true needK_ok seeK_ep seeK_ptr oneK_agg oneK_one nilcK_ptr nilcK_ep fadrK_ptr fadrK_ep fldK_ag iadAK_ptr iadAK_ep iadSK_sl iadSK_vs extK_0 extK_1 extK_2 extK_3 lenK_pl lenK_sl lenK_vs lensK_pl boxK_some minmax1K_int storeK_ptr callvK_fn callvK_pl newsK_nil newsK_vs newsK_sl appK_nil appK_nil0 appK_sl appK_vs bnd1K_int bndK_none bndK_some slsK_vs slsK_nil slsK_sl0 slsK_sl slstrK_pl boolK_some eqsK_ag iop_eqs iop_sls iop_slstr seesK_some seesK_ro mapsK_some MAP_some findK_some findK_none plK_pl nmapK_none nmapK_some iop_mlook iop_mlen iop_mmk iop_mupd iop_mdel iop_mrng itK_none itK_some ptr0K_ptr iop_mnxt iop_ment it1K_some entK_some iop_mov iop_pick iop_bin iop_eqb iop_eqp iop_un iop_conv iop_build iop_load iop_nilc iop_fadr iop_fld iop_iadA iop_iadS iop_ext iop_mkf iop_len iop_lens iop_minmax iop_al iop_box iop_bsl iop_store iop_call iop_callv iop_app BIN_add BIN_sub BIN_mul BIN_and BIN_or BIN_xor BIN_andNot BIN_eql BIN_neq BIN_lss BIN_leq BIN_gtr BIN_geq BIN_quo BIN_rem BIN_shl BIN_shr BIN_sadd BIN_seql BIN_sneq BIN_slss BIN_sleq BIN_sgtr BIN_sgeq UN_neg UN_xor UN_not MM_nil MM_cons partsA argsA ptrA lessL eqL min2I slotN_int slotP_int slotI_int

theorem empty_size (b : ByteArray) : b.toList.isEmpty = decide (b.size < 1) := by
  have h : b.toList.length = b.size := by
    rw [ByteArray.toList_eq]
    rfl
  cases e : b.toList with
  | nil =>
    have : b.size < 1 := by rw [e] at h; simp only [List.length_nil] at h; omega
    rw [decide_eq_true this]; rfl
  | cons x l =>
    have : ¬ b.size < 1 := by rw [e] at h; simp only [List.length_cons] at h; omega
    rw [decide_eq_false this]; rfl

theorem sz_le (o : O) (h1 : lenok o.w o.sc = true) (h2 : lenok o.h o.sc = true) (h3 : 1 ≤ o.sc) : 0 ≤ (sz o).1 ∧ (sz o).1 ≤ 256 ∧ 0 ≤ (sz o).2 ∧ (sz o).2 ≤ 256 := by
  simp [lenok] at h1 h2
  have key : ∀ n : Int, 1 ≤ n → n ≤ 256 → 0 ≤ W64 (n.tdiv o.sc) ∧ W64 (n.tdiv o.sc) ≤ 256 := by
    intro n a b
    have h0 : n.tdiv o.sc = n / o.sc := Int.tdiv_eq_ediv_of_nonneg (by omega)
    have g1 : 0 ≤ n / o.sc := Int.ediv_nonneg (by omega) (by omega)
    have g2 : n / o.sc ≤ n := Int.ediv_le_self _ (by omega)
    rw [h0, W64, IntWalk.i64_in _ (by omega)]
    omega
  unfold sz swp
  split
  · exact ⟨(key _ (by omega) (by omega)).1, (key _ (by omega) (by omega)).2, (key _ (by omega) (by omega)).1, (key _ (by omega) (by omega)).2⟩
  · exact ⟨(key _ (by omega) (by omega)).1, (key _ (by omega) (by omega)).2, (key _ (by omega) (by omega)).1, (key _ (by omega) (by omega)).2⟩

theorem okc_iff (x : Int) : okc x = true ↔ -16384 ≤ x ∧ x ≤ 16384 := by simp [okc]
theorem okc_sum (x w : Int) (h1 : 0 ≤ w) (h2 : w ≤ 256) : (okc x = true ∧ okc (W64 (x + w)) = true) ↔ ¬ (x < -16384 ∨ 16384 - w < x) := by
  rw [okc_iff, okc_iff]
  constructor
  · rintro ⟨a, b⟩
    rw [W64, IntWalk.i64_in _ (by omega)] at b
    omega
  · intro a
    rw [W64, IntWalk.i64_in _ (by omega)]
    omega

theorem c49 (o : O) : PC Try.prog 49 [.ag (oc o)] (vi (chk o)) := by
  intro H K hk
  refine call_c follows cf49_ok (by simp) ?_
  simp [oc]
  refine newK_of fun p hp => ?_
  have g0 : ∀ o, Ext H (upd H p o) := fun _ => (Ext.refl H).upd hp
  simp
  have fin : ∀ H' v, Ext H H' → chk o = v → K (vi v) H' := fun H' v h1 h2 => h2 ▸ hk H' h1
  by_cases e1 : (o.nm.size : Int) < 1
  · have e1' : o.nm.size = 0 := by omega
    simp [e1']
    exact fin _ _ (g0 _) (by simp [chk, nmbad, empty_size, e1'])
  have e1' : ¬ o.nm.size = 0 := by omega
  have e1'' : ¬ o.nm.size < 1 := by omega
  simp [e1, e1', e1'']
  by_cases e2 : (32 : Int) < o.nm.size
  · simp [e2]
    exact fin _ _ (g0 _) (by simp [chk, nmbad, e2])
  simp [e2]
  have nb : nmbad o = false := by simp [nmbad, empty_size, e1', e1'']; omega
  refine c64 _ _ _ fun H1 h1 => ?_
  have k1 := (g0 _).trans h1
  have q1 := h1.at (b := p) (by simp; rfl)
  cases e3 : okt o.tr with
  | false =>
    simp
    exact fin _ _ k1 (by simp [chk, nb, e3])
  | true =>
  simp [q1]
  by_cases e4 : o.sc < 1
  · simp [e4]
    exact fin _ _ k1 (by simp [chk, nb, e3, e4])
  simp [e4, q1]
  by_cases e5 : 4 < o.sc
  · simp [e5]
    exact fin _ _ k1 (by simp [chk, nb, e3, e4, e5])
  have hs : o.sc ≠ 0 := by omega
  simp [e5, q1]
  refine c65 _ _ hs _ _ fun H2 h2 => ?_
  have k2 := k1.trans h2
  have q2 := h2.at q1
  cases e6 : lenok o.w o.sc with
  | false =>
    simp
    exact fin _ _ k2 (by simp [chk, nb, e3, e4, e5, e6])
  | true =>
  simp [q2]
  refine c65 _ _ hs _ _ fun H3 h3 => ?_
  have k3 := k2.trans h3
  have q3 := h3.at q2
  cases e7 : lenok o.h o.sc with
  | false =>
    simp
    exact fin _ _ k3 (by simp [chk, nb, e3, e4, e5, e6, e7])
  | true =>
  simp [q3]
  by_cases e8 : o.rf < 1000
  · simp [e8]
    exact fin _ _ k3 (by simp [chk, nb, e3, e4, e5, e6, e7, e8])
  simp [e8, q3]
  by_cases e9 : 240000 < o.rf
  · simp [e9]
    exact fin _ _ k3 (by simp [chk, nb, e3, e4, e5, e6, e7, e8, e9])
  simp [e9, q3]
  refine c50 o hs _ _ fun H4 h4 => ?_
  have k4 := k3.trans h4
  have q4 := h4.at q3
  obtain ⟨b1, b2, b3, b4⟩ := sz_le o e6 e7 (by omega)
  have rest : chk o = if o.x < -16384 ∨ 16384 - (sz o).1 < o.x ∨ o.y < -16384 ∨ 16384 - (sz o).2 < o.y then 6 else 0 := by
    have r0 : chk o = if okc o.x = false then 6 else if okc o.y = false then 6 else if rvalid (lrect o) = false then 6 else 0 := by simp [chk, nb, e3, e4, e5, e6, e7, e8, e9]
    rw [r0]
    have s1 := okc_sum o.x (sz o).1 b1 b2
    have s2 := okc_sum o.y (sz o).2 b3 b4
    have r1 : rvalid (lrect o) = (okc o.x && okc o.y && okc (W64 (o.x + (sz o).1)) && okc (W64 (o.y + (sz o).2))) := rfl
    rw [r1]
    by_cases a1 : o.x < -16384 ∨ 16384 - (sz o).1 < o.x
    · have a3 : ¬ (okc o.x = true ∧ okc (W64 (o.x + (sz o).1)) = true) := fun h => s1.1 h a1
      have hc : o.x < -16384 ∨ 16384 - (sz o).1 < o.x ∨ o.y < -16384 ∨ 16384 - (sz o).2 < o.y := by omega
      rw [if_pos hc]
      clear r0 s1 s2 r1 hk fin
      cases w1 : okc o.x <;> cases w2 : okc o.y <;> cases w3 : okc (W64 (o.x + (sz o).1)) <;> simp_all
    · obtain ⟨w1, w3⟩ := s1.2 a1
      by_cases a2 : o.y < -16384 ∨ 16384 - (sz o).2 < o.y
      · have a3 : ¬ (okc o.y = true ∧ okc (W64 (o.y + (sz o).2)) = true) := fun h => s2.1 h a2
        have hc : o.x < -16384 ∨ 16384 - (sz o).1 < o.x ∨ o.y < -16384 ∨ 16384 - (sz o).2 < o.y := by omega
        rw [if_pos hc]
        clear r0 s1 s2 r1 hk fin
        cases w2 : okc o.y <;> cases w4 : okc (W64 (o.y + (sz o).2)) <;> simp_all
      · obtain ⟨w2, w4⟩ := s2.2 a2
        have hc : ¬ (o.x < -16384 ∨ 16384 - (sz o).1 < o.x ∨ o.y < -16384 ∨ 16384 - (sz o).2 < o.y) := by omega
        rw [if_neg hc]
        simp [w1, w2, w3, w4]
  simp (disch := omega) [q4, IntWalk.i64_in]
  by_cases z1 : o.x < -16384
  · simp [z1]
    exact fin _ _ k4 (by rw [rest, if_pos (by omega)])
  simp (disch := omega) [z1, q4, IntWalk.i64_in]
  by_cases z2 : 16384 - (sz o).1 < o.x
  · simp [z2]
    exact fin _ _ k4 (by rw [rest, if_pos (by omega)])
  simp (disch := omega) [z2, q4, IntWalk.i64_in]
  by_cases z3 : o.y < -16384
  · simp [z3]
    exact fin _ _ k4 (by rw [rest, if_pos (by omega)])
  simp (disch := omega) [z3, q4, IntWalk.i64_in]
  by_cases z4 : 16384 - (sz o).2 < o.y
  · simp [z4]
    exact fin _ _ k4 (by rw [rest, if_pos (by omega)])
  simp [z4]
  exact fin _ _ k4 (by rw [rest, if_neg (by omega)])
end Go.Proofs.Ytidcajmbkbamcaa
