/-
  Several texts in one: O1; O2; O3; O4; O5; O6; R1; R2; O7; O8; O9; O12; O13; O14; O15. Conditions: as each lemma states them.
-/
import Derived.Test.YtohedpgoioemnaaGreatDoorAbL
import Derived.Test.YtohedpgoioemnaaGreatDoorCf
import Derived.Test.YtohedpgoioemnaaGreatDoorXRow
/-! The small functions on rectangles and transforms. Conditions: as each lemma states them. -/
section
namespace Go.Proofs.YtohedpgoioemnaaGreatDoor
open Go Go.Ab Go.RowKit
set_option linter.unusedSimpArgs false
set_option linter.unusedVariables false
set_option linter.unnecessarySimpa false

attribute [local simp] condK_true condK_false condK_not wpc_skip wpc_ret wpc_exit wpc_seq wpc_reg wpc_regD testA_bool wpc_cond wpc_block thenA_normal thenA_ret thenA_exit blockA_normal blockA_ret blockA_exit blockA_other endA_normal endA_ret ev_tmp' ev_const ev_func ev_global cv_int cv_bool cv_string cv_pointer cv_slice cv_agg cv_map put_some put_none wH_s setE_apply setE_env less_eq env_cons env_nil upd_upd upd_apply del_apply startA_eq cells_ag cells_sl one_sl cells_vs one_vs cells_ep one_ep cells_fn one_fn cells_int one_int cells_bool one_bool cells_string one_string cells_pointer one_pointer cells_slice one_slice cells_map one_map cells_agg resK_one resK_nil resK_two rvK_t rvK_c rvsK_nil rvsK_cons iseq_nil iseq_cons gdA_true gdA_false gdA_undef istep_free istep_guard istepV_free istepV_guard dseq_nil dseq_pu dseq_rd dseq_ef wpc_regT dtree_nil dtree_pu dtree_rd dtree_ef dtree_br chkAll_nil chkAll_cons andK_true pickK_true pickK_false pickK_tb pickK_fb bin2K_pl eqbK_eq eqbK_ne eqpK_eq eqpK_ne eqmK_eq eqmK_ne eqzK_eq eqzK_ne eqzK_sl eqzK_vs un1K_pl convK_int fillK_some fillA_cons fillA_nil cellsK_some needK_true needK_ok seeK_ep seeK_ptr oneK_agg oneK_one nilcK_ptr nilcK_ep fadrK_ptr fadrK_ep fldK_ag iadAK_ptr iadAK_ep iadSK_sl iadSK_vs extK_0 extK_1 extK_2 extK_3 lenK_pl lenK_sl lenK_vs lensK_pl boxK_some minmax1K_int storeK_ptr callvK_fn callvK_pl newsK_nil newsK_vs newsK_sl appK_nil appK_nil0 appK_sl appK_vs bnd1K_int bndK_none bndK_some slsK_vs slsK_nil slsK_sl0 slsK_sl slstrK_pl boolK_some eqsK_ag iop_eqs iop_sls iop_slstr seesK_some seesK_ro mapsK_some MAP_some findK_some findK_none plK_pl nmapK_none nmapK_some iop_mlook iop_mlen iop_mmk iop_mupd iop_mdel iop_mrng itK_none itK_some ptr0K_ptr iop_mnxt iop_ment it1K_some entK_some iop_mov iop_pick iop_bin iop_eqb iop_eqp iop_eqm iop_eqz iop_un capK_pl capK_sl capK_vs iop_cap apzK_nil iop_apz mksK_int iop_mks clrK_sl clrK_vs clrK_nil iop_clr iop_conv iop_build iop_load iop_nilc iop_fadr iop_fld iop_iadA iop_iadS iop_ext iop_mkf iop_len iop_lens iop_minmax iop_al iop_box iop_bsl iop_store iop_call iop_callv iop_app BIN_add BIN_sub BIN_mul BIN_and BIN_or BIN_xor BIN_andNot BIN_eql BIN_neq BIN_lss BIN_leq BIN_gtr BIN_geq BIN_quo BIN_rem BIN_shl BIN_shr BIN_sadd BIN_seql BIN_sneq BIN_slss BIN_sleq BIN_sgtr BIN_sgeq UN_neg UN_xor UN_not MM_nil MM_cons partsA argsA ptrA lessL eqL min2I slotN_int slotP_int slotI_int

theorem follows : Tryz.prog.follows .mixedOrders = true := by kernel_rfl

def okc (n : Int) : Bool := decide (-16384 ≤ n) && decide (n ≤ 16384)
theorem c50 (n : Int) : PC Tryz.prog 50 [vi n] (vb (okc n)) := by
  intro H K hk
  refine call_c follows cf50_ok (by simp) ?_
  simp
  by_cases h : -16384 ≤ n
  · simp [h]
    have := hk H (.refl _)
    simpa [okc, h] using this
  · simp [h]
    have := hk H (.refl _)
    simpa [okc, h] using this
theorem c27 (n : Int) : PC Tryz.prog 27 [vi n] (vb (okc n)) := by
  intro H K hk
  refine call_c follows cf27_ok (by simp) ?_
  simp
  by_cases h : -16384 ≤ n
  · simp [h]
    have := hk H (.refl _)
    simpa [okc, h] using this
  · simp [h]
    have := hk H (.refl _)
    simpa [okc, h] using this
def okt (n : Int) : Bool := decide (0 ≤ n) && decide (n < 8)
theorem c28 (n : Int) : PC Tryz.prog 28 [vi n] (vb (okt n)) := by
  intro H K hk
  refine call_c follows cf28_ok (by simp) ?_
  simp
  by_cases h : 0 ≤ n
  · simp [h]
    have := hk H (.refl _)
    simpa [okt, h] using this
  · simp [h]
    have := hk H (.refl _)
    simpa [okt, h] using this
theorem c33 (n : Int) : PC Tryz.prog 33 [vi n] (vb (okt n)) := by
  intro H K hk
  refine call_c follows cf33_ok (by simp) ?_
  simp
  by_cases h : 0 ≤ n
  · simp [h]
    have := hk H (.refl _)
    simpa [okt, h, show n ≤ 7 ↔ n < 8 by omega] using this
  · simp [h]
    have := hk H (.refl _)
    simpa [okt, h] using this

def nrm (n : Int) : Int := if okt n then n else 0
theorem c59 (n : Int) : PC Tryz.prog 59 [vi n] (vi (nrm n)) := by
  intro H K hk
  refine call_c follows cf59_ok (by simp) ?_
  simp
  refine c28 n _ _ fun H' hE => ?_
  by_cases h : okt n = true
  · simp [h]
    have := hk H' hE
    simpa [nrm, h] using this
  · simp [h]
    have := hk H' hE
    simpa [nrm, h] using this
theorem c47 (n : Int) : PC Tryz.prog 47 [vi n] (vi (nrm n)) := by
  intro H K hk
  refine call_c follows cf47_ok (by simp) ?_
  simp
  refine c33 n _ _ fun H' hE => ?_
  by_cases h : okt n = true
  · simp [h]
    have := hk H' hE
    simpa [nrm, h] using this
  · simp [h]
    have := hk H' hE
    simpa [nrm, h] using this
end Go.Proofs.YtohedpgoioemnaaGreatDoor
end

/-! The size of a transformed image; valid, empty, canonical rectangles; the checks of lengths. Conditions: as each lemma states them. -/
section
namespace Go.Proofs.YtohedpgoioemnaaGreatDoor
open Go Go.Ab Go.RowKit
set_option linter.unusedSimpArgs false
set_option linter.unusedVariables false
set_option linter.unnecessarySimpa false

attribute [local simp] condK_true condK_false condK_not wpc_skip wpc_ret wpc_exit wpc_seq wpc_reg wpc_regD testA_bool wpc_cond wpc_block thenA_normal thenA_ret thenA_exit blockA_normal blockA_ret blockA_exit blockA_other endA_normal endA_ret ev_tmp' ev_const ev_func ev_global cv_int cv_bool cv_string cv_pointer cv_slice cv_agg cv_map put_some put_none wH_s setE_apply setE_env less_eq env_cons env_nil upd_upd upd_apply del_apply startA_eq cells_ag cells_sl one_sl cells_vs one_vs cells_ep one_ep cells_fn one_fn cells_int one_int cells_bool one_bool cells_string one_string cells_pointer one_pointer cells_slice one_slice cells_map one_map cells_agg resK_one resK_nil resK_two rvK_t rvK_c rvsK_nil rvsK_cons iseq_nil iseq_cons gdA_true gdA_false gdA_undef istep_free istep_guard istepV_free istepV_guard dseq_nil dseq_pu dseq_rd dseq_ef wpc_regT dtree_nil dtree_pu dtree_rd dtree_ef dtree_br chkAll_nil chkAll_cons andK_true pickK_true pickK_false pickK_tb pickK_fb bin2K_pl eqbK_eq eqbK_ne eqpK_eq eqpK_ne eqmK_eq eqmK_ne eqzK_eq eqzK_ne eqzK_sl eqzK_vs un1K_pl convK_int fillK_some fillA_cons fillA_nil cellsK_some needK_true needK_ok seeK_ep seeK_ptr oneK_agg oneK_one nilcK_ptr nilcK_ep fadrK_ptr fadrK_ep fldK_ag iadAK_ptr iadAK_ep iadSK_sl iadSK_vs extK_0 extK_1 extK_2 extK_3 lenK_pl lenK_sl lenK_vs lensK_pl boxK_some minmax1K_int storeK_ptr callvK_fn callvK_pl newsK_nil newsK_vs newsK_sl appK_nil appK_nil0 appK_sl appK_vs bnd1K_int bndK_none bndK_some slsK_vs slsK_nil slsK_sl0 slsK_sl slstrK_pl boolK_some eqsK_ag iop_eqs iop_sls iop_slstr seesK_some seesK_ro mapsK_some MAP_some findK_some findK_none plK_pl nmapK_none nmapK_some iop_mlook iop_mlen iop_mmk iop_mupd iop_mdel iop_mrng itK_none itK_some ptr0K_ptr iop_mnxt iop_ment it1K_some entK_some iop_mov iop_pick iop_bin iop_eqb iop_eqp iop_eqm iop_eqz iop_un capK_pl capK_sl capK_vs iop_cap apzK_nil iop_apz mksK_int iop_mks clrK_sl clrK_vs clrK_nil iop_clr iop_conv iop_build iop_load iop_nilc iop_fadr iop_fld iop_iadA iop_iadS iop_ext iop_mkf iop_len iop_lens iop_minmax iop_al iop_box iop_bsl iop_store iop_call iop_callv iop_app BIN_add BIN_sub BIN_mul BIN_and BIN_or BIN_xor BIN_andNot BIN_eql BIN_neq BIN_lss BIN_leq BIN_gtr BIN_geq BIN_quo BIN_rem BIN_shl BIN_shr BIN_sadd BIN_seql BIN_sneq BIN_slss BIN_sleq BIN_sgtr BIN_sgeq UN_neg UN_xor UN_not MM_nil MM_cons partsA argsA ptrA lessL eqL min2I slotN_int slotP_int slotI_int

def odd (t : Int) : Bool := decide ((nrm t).tmod 2 = 1)
def swp (t w h : Int) : Int × Int := if odd t then (h, w) else (w, h)
theorem c39 (t w h : Int) : PC Tryz.prog 39 [vi t, vi w, vi h] (.tp [vi (swp t w h).1, vi (swp t w h).2]) := by
  intro H K hk
  refine call_c follows cf39_ok (by simp) ?_
  simp
  refine c59 t _ _ fun H' hE => ?_
  by_cases e : (nrm t).tmod 2 = 1
  · have := hk H' hE
    simp [e]
    simpa [swp, odd, e] using this
  · have := hk H' hE
    simp [e]
    simpa [swp, odd, e] using this
theorem c42 (t w h : Int) : PC Tryz.prog 42 [vi t, vi w, vi h] (.tp [vi (swp t w h).1, vi (swp t w h).2]) := by
  intro H K hk
  refine call_c follows cf42_ok (by simp) ?_
  simp
  refine c47 t _ _ fun H' hE => ?_
  by_cases e : (nrm t).tmod 2 = 1
  · have := hk H' hE
    simp [e]
    simpa [swp, odd, e] using this
  · have := hk H' hE
    simp [e]
    simpa [swp, odd, e] using this

structure R where
  x0 : Int
  y0 : Int
  x1 : Int
  y1 : Int
def rc (r : R) : List AV := [vi r.x0, vi r.y0, vi r.x1, vi r.y1]
def rvalid (r : R) : Bool := okc r.x0 && okc r.y0 && okc r.x1 && okc r.y1
theorem c29 (r : R) : PC Tryz.prog 29 [.ag (rc r)] (vb (rvalid r)) := by
  intro H K hk
  refine call_c follows cf29_ok (by simp) ?_
  simp [rc]
  refine newK_of fun p hp => ?_
  simp
  refine c50 _ _ _ fun H1 h1 => ?_
  have g0 : Ext H H1 := ((Ext.refl H).upd hp).trans h1
  have g1 := h1.at (b := p) (by simp; rfl)
  unfold rvalid at hk
  cases e0 : okc r.x0 with
  | false => 
    simp [e0] at hk ⊢
    exact hk _ g0
  | true =>
    simp [e0, g1] at hk ⊢
    refine c50 _ _ _ fun H2 h2 => ?_
    cases e1 : okc r.y0 with
    | false =>
      simp [e1] at hk ⊢
      exact hk _ (g0.trans h2)
    | true =>
      simp [e1, h2.at g1] at hk ⊢
      refine c50 _ _ _ fun H3 h3 => ?_
      cases e2 : okc r.x1 with
      | false =>
        simp [e2] at hk ⊢
        exact hk _ ((g0.trans h2).trans h3)
      | true =>
        simp [e2, h3.at (h2.at g1)] at hk ⊢
        refine c50 _ _ _ fun H4 h4 => ?_
        simp
        exact hk _ (((g0.trans h2).trans h3).trans h4)

def lenok (n k : Int) : Bool := decide (1 ≤ n) && decide (n ≤ 256) && decide (n.tmod k = 0)
theorem c34 (n k : Int) (hk0 : k ≠ 0) : PC Tryz.prog 34 [vi n, vi k] (vb (lenok n k)) := by
  intro H K hk
  refine call_c follows cf34_ok (by simp) ?_
  simp
  unfold lenok at hk
  have := hk H (.refl _)
  by_cases e1 : 1 ≤ n
  · by_cases e2 : n ≤ 256
    · simpa [e1, e2, hk0] using this
    · simpa [e1, e2, hk0] using this
  · simpa [e1, hk0] using this

theorem c26 {H : AH} {p : Nat} {cs : List AV} (n k : Int) (hk0 : k ≠ 0) (hp : H p = some (.cells cs)) (hc : (cs.drop 4).take 1 = [vi k]) (hl : 5 ≤ cs.length) {K : AV → AH → Prop} (hk : K (vb (lenok n k)) H) :
    ACall Tryz.prog 26 [vi n, ptrA p] H K := by
  refine call_c follows cf26_ok (by simp) ?_
  simp
  unfold lenok at hk
  by_cases e1 : 1 ≤ n
  · by_cases e2 : n ≤ 256
    · simpa (disch := omega) [e1, e2, hk0, hp, hc, hl] using hk
    · simpa [e1, e2, hk0] using hk
  · simpa [e1, hk0] using hk
end Go.Proofs.YtohedpgoioemnaaGreatDoor
end

/-! The logical rectangle and size of an output. Conditions: as each lemma states them. -/
section
namespace Go.Proofs.YtohedpgoioemnaaGreatDoor
open Go Go.Ab Go.RowKit
set_option linter.unusedSimpArgs false
set_option linter.unusedVariables false
set_option linter.unnecessarySimpa false

attribute [local simp] condK_true condK_false condK_not wpc_skip wpc_ret wpc_exit wpc_seq wpc_reg wpc_regD testA_bool wpc_cond wpc_block thenA_normal thenA_ret thenA_exit blockA_normal blockA_ret blockA_exit blockA_other endA_normal endA_ret ev_tmp' ev_const ev_func ev_global cv_int cv_bool cv_string cv_pointer cv_slice cv_agg cv_map put_some put_none wH_s setE_apply setE_env less_eq env_cons env_nil upd_upd upd_apply del_apply startA_eq cells_ag cells_sl one_sl cells_vs one_vs cells_ep one_ep cells_fn one_fn cells_int one_int cells_bool one_bool cells_string one_string cells_pointer one_pointer cells_slice one_slice cells_map one_map cells_agg resK_one resK_nil resK_two rvK_t rvK_c rvsK_nil rvsK_cons iseq_nil iseq_cons gdA_true gdA_false gdA_undef istep_free istep_guard istepV_free istepV_guard dseq_nil dseq_pu dseq_rd dseq_ef wpc_regT dtree_nil dtree_pu dtree_rd dtree_ef dtree_br chkAll_nil chkAll_cons andK_true pickK_true pickK_false pickK_tb pickK_fb bin2K_pl eqbK_eq eqbK_ne eqpK_eq eqpK_ne eqmK_eq eqmK_ne eqzK_eq eqzK_ne eqzK_sl eqzK_vs un1K_pl convK_int fillK_some fillA_cons fillA_nil cellsK_some needK_true needK_ok seeK_ep seeK_ptr oneK_agg oneK_one nilcK_ptr nilcK_ep fadrK_ptr fadrK_ep fldK_ag iadAK_ptr iadAK_ep iadSK_sl iadSK_vs extK_0 extK_1 extK_2 extK_3 lenK_pl lenK_sl lenK_vs lensK_pl boxK_some minmax1K_int storeK_ptr callvK_fn callvK_pl newsK_nil newsK_vs newsK_sl appK_nil appK_nil0 appK_sl appK_vs bnd1K_int bndK_none bndK_some slsK_vs slsK_nil slsK_sl0 slsK_sl slstrK_pl boolK_some eqsK_ag iop_eqs iop_sls iop_slstr seesK_some seesK_ro mapsK_some MAP_some findK_some findK_none plK_pl nmapK_none nmapK_some iop_mlook iop_mlen iop_mmk iop_mupd iop_mdel iop_mrng itK_none itK_some ptr0K_ptr iop_mnxt iop_ment it1K_some entK_some iop_mov iop_pick iop_bin iop_eqb iop_eqp iop_eqm iop_eqz iop_un capK_pl capK_sl capK_vs iop_cap apzK_nil iop_apz mksK_int iop_mks clrK_sl clrK_vs clrK_nil iop_clr iop_conv iop_build iop_load iop_nilc iop_fadr iop_fld iop_iadA iop_iadS iop_ext iop_mkf iop_len iop_lens iop_minmax iop_al iop_box iop_bsl iop_store iop_call iop_callv iop_app BIN_add BIN_sub BIN_mul BIN_and BIN_or BIN_xor BIN_andNot BIN_eql BIN_neq BIN_lss BIN_leq BIN_gtr BIN_geq BIN_quo BIN_rem BIN_shl BIN_shr BIN_sadd BIN_seql BIN_sneq BIN_slss BIN_sleq BIN_sgtr BIN_sgeq UN_neg UN_xor UN_not MM_nil MM_cons partsA argsA ptrA lessL eqL min2I slotN_int slotP_int slotI_int

structure O where
  nm : ByteArray
  w : Int
  h : Int
  rf : Int
  sc : Int
  tr : Int
  x : Int
  y : Int
def oc (o : O) : List AV := [vs8 o.nm, vi o.w, vi o.h, vi o.rf, vi o.sc, vi o.tr, vi o.x, vi o.y]
def W64 (n : Int) : Int := IntKind.i64.wrap n
def sz (o : O) : Int × Int := (W64 ((swp o.tr o.w o.h).1.tdiv o.sc), W64 ((swp o.tr o.w o.h).2.tdiv o.sc))
theorem c22 (o : O) (hs : o.sc ≠ 0) : PC Tryz.prog 22 [.ag (oc o)] (.tp [vi (sz o).1, vi (sz o).2]) := by
  intro H K hk
  refine call_c follows cf22_ok (by simp) ?_
  simp [oc]
  refine newK_of fun p hp => ?_
  simp
  refine c42 _ _ _ _ _ fun H1 h1 => ?_
  have g0 : Ext H H1 := ((Ext.refl H).upd hp).trans h1
  have g1 := h1.at (b := p) (by simp; rfl)
  simp [g1, hs]
  exact hk _ g0

def lrect (o : O) : R := ⟨o.x, o.y, W64 (o.x + (sz o).1), W64 (o.y + (sz o).2)⟩
theorem c30 (o : O) (hs : o.sc ≠ 0) : PC Tryz.prog 30 [.ag (oc o)] (.ag (rc (lrect o))) := by
  intro H K hk
  refine call_c follows cf30_ok (by simp) ?_
  simp [oc]
  refine newK_of fun p hp => ?_
  simp
  refine newK_of fun q hq => ?_
  obtain ⟨n1, hq⟩ := upd_none.1 hq
  simp [n1, Ne.symm n1]
  refine c39 _ _ _ _ _ fun H1 h1 => ?_
  have g0 : Ext H H1 := (((Ext.refl H).upd hp).upd hq).trans h1
  have g1 := h1.at (b := p) (by simp [Ne.symm n1]; rfl)
  have g2 := h1.at (b := q) (by simp; rfl)
  simp [g1, g2, hs, n1, Ne.symm n1]
  exact hk _ (g0.upd hq)
end Go.Proofs.YtohedpgoioemnaaGreatDoor
end

/-! Check of the program. No conditions. -/
section
namespace Go.Proofs.YtohedpgoioemnaaGreatDoor
open Go Go.Ab Go.RowKit
set_option linter.unusedSimpArgs false
set_option linter.unusedVariables false
set_option linter.unnecessarySimpa false

attribute [local simp] condK_true condK_false condK_not wpc_skip wpc_ret wpc_exit wpc_seq wpc_reg wpc_regD testA_bool wpc_cond wpc_block thenA_normal thenA_ret thenA_exit blockA_normal blockA_ret blockA_exit blockA_other endA_normal endA_ret ev_tmp' ev_const ev_func ev_global cv_int cv_bool cv_string cv_pointer cv_slice cv_agg cv_map put_some put_none wH_s setE_apply setE_env less_eq env_cons env_nil upd_upd upd_apply del_apply startA_eq cells_ag cells_sl one_sl cells_vs one_vs cells_ep one_ep cells_fn one_fn cells_int one_int cells_bool one_bool cells_string one_string cells_pointer one_pointer cells_slice one_slice cells_map one_map cells_agg resK_one resK_nil resK_two rvK_t rvK_c rvsK_nil rvsK_cons iseq_nil iseq_cons gdA_true gdA_false gdA_undef istep_free istep_guard istepV_free istepV_guard dseq_nil dseq_pu dseq_rd dseq_ef wpc_regT dtree_nil dtree_pu dtree_rd dtree_ef dtree_br chkAll_nil chkAll_cons andK_true pickK_true pickK_false pickK_tb pickK_fb bin2K_pl eqbK_eq eqbK_ne eqpK_eq eqpK_ne eqmK_eq eqmK_ne eqzK_eq eqzK_ne eqzK_sl eqzK_vs un1K_pl convK_int fillK_some fillA_cons fillA_nil cellsK_some needK_true needK_ok seeK_ep seeK_ptr oneK_agg oneK_one nilcK_ptr nilcK_ep fadrK_ptr fadrK_ep fldK_ag iadAK_ptr iadAK_ep iadSK_sl iadSK_vs extK_0 extK_1 extK_2 extK_3 lenK_pl lenK_sl lenK_vs lensK_pl boxK_some minmax1K_int storeK_ptr callvK_fn callvK_pl newsK_nil newsK_vs newsK_sl appK_nil appK_nil0 appK_sl appK_vs bnd1K_int bndK_none bndK_some slsK_vs slsK_nil slsK_sl0 slsK_sl slstrK_pl boolK_some eqsK_ag iop_eqs iop_sls iop_slstr seesK_some seesK_ro mapsK_some MAP_some findK_some findK_none plK_pl nmapK_none nmapK_some iop_mlook iop_mlen iop_mmk iop_mupd iop_mdel iop_mrng itK_none itK_some ptr0K_ptr iop_mnxt iop_ment it1K_some entK_some iop_mov iop_pick iop_bin iop_eqb iop_eqp iop_eqm iop_eqz iop_un capK_pl capK_sl capK_vs iop_cap apzK_nil iop_apz mksK_int iop_mks clrK_sl clrK_vs clrK_nil iop_clr iop_conv iop_build iop_load iop_nilc iop_fadr iop_fld iop_iadA iop_iadS iop_ext iop_mkf iop_len iop_lens iop_minmax iop_al iop_box iop_bsl iop_store iop_call iop_callv iop_app BIN_add BIN_sub BIN_mul BIN_and BIN_or BIN_xor BIN_andNot BIN_eql BIN_neq BIN_lss BIN_leq BIN_gtr BIN_geq BIN_quo BIN_rem BIN_shl BIN_shr BIN_sadd BIN_seql BIN_sneq BIN_slss BIN_sleq BIN_sgtr BIN_sgeq UN_neg UN_xor UN_not MM_nil MM_cons partsA argsA ptrA lessL eqL min2I slotN_int slotP_int slotI_int

def nmbad (o : O) : Bool := o.nm.toList.isEmpty || decide (32 < (o.nm.size : Int))
def chk (o : O) : Int :=
  if nmbad o = true then 2 else if okt o.tr = false then 2 else if o.sc < 1 then 2 else if 4 < o.sc then 2 else
  if lenok o.w o.sc = false then 6 else if lenok o.h o.sc = false then 6 else if o.rf < 1000 then 6 else if 240000 < o.rf then 6 else
  if okc o.x = false then 6 else if okc o.y = false then 6 else if rvalid (lrect o) = false then 6 else 0

theorem good15 : goodCallee Tryz.prog 26 = true := by kernel_rfl
theorem good16 : goodCallee Tryz.prog 27 = true := by kernel_rfl

theorem c12 (o : O) : PC Tryz.prog 12 [.ag (oc o)] (vi (chk o)) := by
  intro H K hk
  refine call_c follows cf12_ok (by simp) ?_
  simp [oc]
  refine newK_of fun p hp => ?_
  have g0 : ∀ o, Ext H (upd H p o) := fun _ => (Ext.refl H).upd hp
  simp
  have fin : ∀ H' v, Ext H H' → chk o = v → K (vi v) H' := fun H' v h1 h2 => h2 ▸ hk H' h1
  cases e1 : o.nm.toList.isEmpty with
  | true =>
    simp
    exact fin _ _ (g0 _) (by simp [chk, nmbad, e1])
  | false =>
  simp
  by_cases e2 : (32 : Int) < o.nm.size
  · simp [e2]
    exact fin _ _ (g0 _) (by simp [chk, nmbad, e2])
  simp [e2]
  have nb : nmbad o = false := by simp [nmbad, e1]; omega
  refine c28 _ _ _ fun H1 h1 => ?_
  have k1 := (g0 _).trans h1
  have q1 := h1.at (b := p) (by simp; rfl)
  cases e3 : okt o.tr with
  | false =>
    simp
    exact fin _ _ k1 (by simp [chk, nb, e3])
  | true =>
  simp [q1]
  by_cases e4 : o.sc < 1
  · simp [e4]
    exact fin _ _ k1 (by simp [chk, nb, e3, e4])
  simp [e4, q1]
  by_cases e5 : 4 < o.sc
  · simp [e5]
    exact fin _ _ k1 (by simp [chk, nb, e3, e4, e5])
  simp [e5, q1]
  have hs : o.sc ≠ 0 := by omega
  simp [good15, q1]
  refine c26 _ o.sc hs q1 (by simp) (by simp) ?_
  cases e6 : lenok o.w o.sc with
  | false =>
    simp
    exact fin _ _ k1 (by simp [chk, nb, e3, e4, e5, e6])
  | true =>
  simp [good15, q1]
  refine c26 _ o.sc hs q1 (by simp) (by simp) ?_
  cases e7 : lenok o.h o.sc with
  | false =>
    simp
    exact fin _ _ k1 (by simp [chk, nb, e3, e4, e5, e6, e7])
  | true =>
  simp [q1]
  by_cases e8 : o.rf < 1000
  · simp [e8]
    exact fin _ _ k1 (by simp [chk, nb, e3, e4, e5, e6, e7, e8])
  simp [e8, q1]
  by_cases e9 : 240000 < o.rf
  · simp [e9]
    exact fin _ _ k1 (by simp [chk, nb, e3, e4, e5, e6, e7, e8, e9])
  simp [e9, q1, good16]
  refine c27 _ _ _ fun H2 h2 => ?_
  have k2 := k1.trans h2
  have q2 := h2.at q1
  cases e10 : okc o.x with
  | false =>
    simp
    exact fin _ _ k2 (by simp [chk, nb, e3, e4, e5, e6, e7, e8, e9, e10])
  | true =>
  simp [q2, good16]
  refine c27 _ _ _ fun H3 h3 => ?_
  have k3 := k2.trans h3
  have q3 := h3.at q2
  cases e11 : okc o.y with
  | false =>
    simp
    exact fin _ _ k3 (by simp [chk, nb, e3, e4, e5, e6, e7, e8, e9, e10, e11])
  | true =>
  simp [q3]
  refine c30 o hs _ _ fun H4 h4 => ?_
  simp
  refine c29 _ _ _ fun H5 h5 => ?_
  have k5 := (k3.trans h4).trans h5
  cases e12 : rvalid (lrect o) with
  | false =>
    simp
    exact fin _ _ k5 (by simp [chk, nb, e3, e4, e5, e6, e7, e8, e9, e10, e11, e12])
  | true =>
  simp
  exact fin _ _ k5 (by simp [chk, nb, e3, e4, e5, e6, e7, e8, e9, e10, e11, e12])
end Go.Proofs.YtohedpgoioemnaaGreatDoor
end

/-! Check of the specification: it answers as the program's does. No conditions. -/
section
namespace Go.Proofs.YtohedpgoioemnaaGreatDoor
open Go Go.Ab Go.RowKit
set_option linter.unusedSimpArgs false
set_option linter.unusedVariables false
set_option linter.unnecessarySimpa false

attribute [local simp] condK_true condK_false condK_not wpc_skip wpc_ret wpc_exit wpc_seq wpc_reg wpc_regD testA_bool wpc_cond wpc_block thenA_normal thenA_ret thenA_exit blockA_normal blockA_ret blockA_exit blockA_other endA_normal endA_ret ev_tmp' ev_const ev_func ev_global cv_int cv_bool cv_string cv_pointer cv_slice cv_agg cv_map put_some put_none wH_s setE_apply setE_env less_eq env_cons env_nil upd_upd upd_apply del_apply startA_eq cells_ag cells_sl one_sl cells_vs one_vs cells_ep one_ep cells_fn one_fn cells_int one_int cells_bool one_bool cells_string one_string cells_pointer one_pointer cells_slice one_slice cells_map one_map cells_agg resK_one resK_nil resK_two rvK_t rvK_c rvsK_nil rvsK_cons iseq_nil iseq_cons gdA_true gdA_false gdA_undef istep_free istep_guard istepV_free istepV_guard dseq_nil dseq_pu dseq_rd dseq_ef wpc_regT dtree_nil dtree_pu dtree_rd dtree_ef dtree_br chkAll_nil chkAll_cons andK_true pickK_true pickK_false pickK_tb pickK_fb bin2K_pl eqbK_eq eqbK_ne eqpK_eq eqpK_ne eqmK_eq eqmK_ne eqzK_eq eqzK_ne eqzK_sl eqzK_vs un1K_pl convK_int fillK_some fillA_cons fillA_nil cellsK_some needK_true needK_ok seeK_ep seeK_ptr oneK_agg oneK_one nilcK_ptr nilcK_ep fadrK_ptr fadrK_ep fldK_ag iadAK_ptr iadAK_ep iadSK_sl iadSK_vs extK_0 extK_1 extK_2 extK_3 lenK_pl lenK_sl lenK_vs lensK_pl boxK_some minmax1K_int storeK_ptr callvK_fn callvK_pl newsK_nil newsK_vs newsK_sl appK_nil appK_nil0 appK_sl appK_vs bnd1K_int bndK_none bndK_some slsK_vs slsK_nil slsK_sl0 slsK_sl slstrK_pl boolK_some eqsK_ag iop_eqs iop_sls iop_slstr seesK_some seesK_ro mapsK_some MAP_some findK_some findK_none plK_pl nmapK_none nmapK_some iop_mlook iop_mlen iop_mmk iop_mupd iop_mdel iop_mrng itK_none itK_some ptr0K_ptr iop_mnxt iop_ment it1K_some entK_some iop_mov iop_pick iop_bin iop_eqb iop_eqp iop_eqm iop_eqz iop_un capK_pl capK_sl capK_vs iop_cap apzK_nil iop_apz mksK_int iop_mks clrK_sl clrK_vs clrK_nil iop_clr iop_conv iop_build iop_load iop_nilc iop_fadr iop_fld iop_iadA iop_iadS iop_ext iop_mkf iop_len iop_lens iop_minmax iop_al iop_box iop_bsl iop_store iop_call iop_callv iop_app BIN_add BIN_sub BIN_mul BIN_and BIN_or BIN_xor BIN_andNot BIN_eql BIN_neq BIN_lss BIN_leq BIN_gtr BIN_geq BIN_quo BIN_rem BIN_shl BIN_shr BIN_sadd BIN_seql BIN_sneq BIN_slss BIN_sleq BIN_sgtr BIN_sgeq UN_neg UN_xor UN_not MM_nil MM_cons partsA argsA ptrA lessL eqL min2I slotN_int slotP_int slotI_int

theorem empty_size (b : ByteArray) : b.toList.isEmpty = decide (b.size < 1) := by
  have h : b.toList.length = b.size := by
    rw [ByteArray.toList_eq]
    rfl
  cases e : b.toList with
  | nil =>
    have : b.size < 1 := by rw [e] at h; simp only [List.length_nil] at h; omega
    rw [decide_eq_true this]; rfl
  | cons x l =>
    have : ¬ b.size < 1 := by rw [e] at h; simp only [List.length_cons] at h; omega
    rw [decide_eq_false this]; rfl

theorem sz_le (o : O) (h1 : lenok o.w o.sc = true) (h2 : lenok o.h o.sc = true) (h3 : 1 ≤ o.sc) : 0 ≤ (sz o).1 ∧ (sz o).1 ≤ 256 ∧ 0 ≤ (sz o).2 ∧ (sz o).2 ≤ 256 := by
  simp [lenok] at h1 h2
  have key : ∀ n : Int, 1 ≤ n → n ≤ 256 → 0 ≤ W64 (n.tdiv o.sc) ∧ W64 (n.tdiv o.sc) ≤ 256 := by
    intro n a b
    have h0 : n.tdiv o.sc = n / o.sc := Int.tdiv_eq_ediv_of_nonneg (by omega)
    have g1 : 0 ≤ n / o.sc := Int.ediv_nonneg (by omega) (by omega)
    have g2 : n / o.sc ≤ n := Int.ediv_le_self _ (by omega)
    rw [h0, W64, IntWalk.i64_in _ (by omega)]
    omega
  unfold sz swp
  split
  · exact ⟨(key _ (by omega) (by omega)).1, (key _ (by omega) (by omega)).2, (key _ (by omega) (by omega)).1, (key _ (by omega) (by omega)).2⟩
  · exact ⟨(key _ (by omega) (by omega)).1, (key _ (by omega) (by omega)).2, (key _ (by omega) (by omega)).1, (key _ (by omega) (by omega)).2⟩

theorem okc_iff (x : Int) : okc x = true ↔ -16384 ≤ x ∧ x ≤ 16384 := by simp [okc]
theorem okc_sum (x w : Int) (h1 : 0 ≤ w) (h2 : w ≤ 256) : (okc x = true ∧ okc (W64 (x + w)) = true) ↔ ¬ (x < -16384 ∨ 16384 - w < x) := by
  rw [okc_iff, okc_iff]
  constructor
  · rintro ⟨a, b⟩
    rw [W64, IntWalk.i64_in _ (by omega)] at b
    omega
  · intro a
    rw [W64, IntWalk.i64_in _ (by omega)]
    omega

theorem c16 (o : O) : PC Tryz.prog 16 [.ag (oc o)] (vi (chk o)) := by
  intro H K hk
  refine call_c follows cf16_ok (by simp) ?_
  simp [oc]
  refine newK_of fun p hp => ?_
  have g0 : ∀ o, Ext H (upd H p o) := fun _ => (Ext.refl H).upd hp
  simp
  have fin : ∀ H' v, Ext H H' → chk o = v → K (vi v) H' := fun H' v h1 h2 => h2 ▸ hk H' h1
  by_cases e1 : (o.nm.size : Int) < 1
  · have e1' : o.nm.size = 0 := by omega
    simp [e1']
    exact fin _ _ (g0 _) (by simp [chk, nmbad, empty_size, e1'])
  have e1' : ¬ o.nm.size = 0 := by omega
  have e1'' : ¬ o.nm.size < 1 := by omega
  simp [e1, e1', e1'']
  by_cases e2 : (32 : Int) < o.nm.size
  · simp [e2]
    exact fin _ _ (g0 _) (by simp [chk, nmbad, e2])
  simp [e2]
  have nb : nmbad o = false := by simp [nmbad, empty_size, e1', e1'']; omega
  refine c33 _ _ _ fun H1 h1 => ?_
  have k1 := (g0 _).trans h1
  have q1 := h1.at (b := p) (by simp; rfl)
  cases e3 : okt o.tr with
  | false =>
    simp
    exact fin _ _ k1 (by simp [chk, nb, e3])
  | true =>
  simp [q1]
  by_cases e4 : o.sc < 1
  · simp [e4]
    exact fin _ _ k1 (by simp [chk, nb, e3, e4])
  simp [e4, q1]
  by_cases e5 : 4 < o.sc
  · simp [e5]
    exact fin _ _ k1 (by simp [chk, nb, e3, e4, e5])
  have hs : o.sc ≠ 0 := by omega
  simp [e5, q1]
  refine c34 _ _ hs _ _ fun H2 h2 => ?_
  have k2 := k1.trans h2
  have q2 := h2.at q1
  cases e6 : lenok o.w o.sc with
  | false =>
    simp
    exact fin _ _ k2 (by simp [chk, nb, e3, e4, e5, e6])
  | true =>
  simp [q2]
  refine c34 _ _ hs _ _ fun H3 h3 => ?_
  have k3 := k2.trans h3
  have q3 := h3.at q2
  cases e7 : lenok o.h o.sc with
  | false =>
    simp
    exact fin _ _ k3 (by simp [chk, nb, e3, e4, e5, e6, e7])
  | true =>
  simp [q3]
  by_cases e8 : o.rf < 1000
  · simp [e8]
    exact fin _ _ k3 (by simp [chk, nb, e3, e4, e5, e6, e7, e8])
  simp [e8, q3]
  by_cases e9 : 240000 < o.rf
  · simp [e9]
    exact fin _ _ k3 (by simp [chk, nb, e3, e4, e5, e6, e7, e8, e9])
  simp [e9, q3]
  refine c22 o hs _ _ fun H4 h4 => ?_
  have k4 := k3.trans h4
  have q4 := h4.at q3
  obtain ⟨b1, b2, b3, b4⟩ := sz_le o e6 e7 (by omega)
  have rest : chk o = if o.x < -16384 ∨ 16384 - (sz o).1 < o.x ∨ o.y < -16384 ∨ 16384 - (sz o).2 < o.y then 6 else 0 := by
    have r0 : chk o = if okc o.x = false then 6 else if okc o.y = false then 6 else if rvalid (lrect o) = false then 6 else 0 := by simp [chk, nb, e3, e4, e5, e6, e7, e8, e9]
    rw [r0]
    have s1 := okc_sum o.x (sz o).1 b1 b2
    have s2 := okc_sum o.y (sz o).2 b3 b4
    have r1 : rvalid (lrect o) = (okc o.x && okc o.y && okc (W64 (o.x + (sz o).1)) && okc (W64 (o.y + (sz o).2))) := rfl
    rw [r1]
    by_cases a1 : o.x < -16384 ∨ 16384 - (sz o).1 < o.x
    · have a3 : ¬ (okc o.x = true ∧ okc (W64 (o.x + (sz o).1)) = true) := fun h => s1.1 h a1
      have hc : o.x < -16384 ∨ 16384 - (sz o).1 < o.x ∨ o.y < -16384 ∨ 16384 - (sz o).2 < o.y := by omega
      rw [if_pos hc]
      clear r0 s1 s2 r1 hk fin
      cases w1 : okc o.x <;> cases w2 : okc o.y <;> cases w3 : okc (W64 (o.x + (sz o).1)) <;> simp_all
    · obtain ⟨w1, w3⟩ := s1.2 a1
      by_cases a2 : o.y < -16384 ∨ 16384 - (sz o).2 < o.y
      · have a3 : ¬ (okc o.y = true ∧ okc (W64 (o.y + (sz o).2)) = true) := fun h => s2.1 h a2
        have hc : o.x < -16384 ∨ 16384 - (sz o).1 < o.x ∨ o.y < -16384 ∨ 16384 - (sz o).2 < o.y := by omega
        rw [if_pos hc]
        clear r0 s1 s2 r1 hk fin
        cases w2 : okc o.y <;> cases w4 : okc (W64 (o.y + (sz o).2)) <;> simp_all
      · obtain ⟨w2, w4⟩ := s2.2 a2
        have hc : ¬ (o.x < -16384 ∨ 16384 - (sz o).1 < o.x ∨ o.y < -16384 ∨ 16384 - (sz o).2 < o.y) := by omega
        rw [if_neg hc]
        simp [w1, w2, w3, w4]
  simp (disch := omega) [q4, IntWalk.i64_in]
  by_cases z1 : o.x < -16384
  · simp [z1]
    exact fin _ _ k4 (by rw [rest, if_pos (by omega)])
  simp (disch := omega) [z1, q4, IntWalk.i64_in]
  by_cases z2 : 16384 - (sz o).1 < o.x
  · simp [z2]
    exact fin _ _ k4 (by rw [rest, if_pos (by omega)])
  simp (disch := omega) [z2, q4, IntWalk.i64_in]
  by_cases z3 : o.y < -16384
  · simp [z3]
    exact fin _ _ k4 (by rw [rest, if_pos (by omega)])
  simp (disch := omega) [z3, q4, IntWalk.i64_in]
  by_cases z4 : 16384 - (sz o).2 < o.y
  · simp [z4]
    exact fin _ _ k4 (by rw [rest, if_pos (by omega)])
  simp [z4]
  exact fin _ _ k4 (by rw [rest, if_neg (by omega)])
end Go.Proofs.YtohedpgoioemnaaGreatDoor
end

/-! Equal, Logical, Interval, of the program and of the specification. No conditions. -/
section
namespace Go.Proofs.YtohedpgoioemnaaGreatDoor
open Go Go.Ab Go.RowKit
set_option linter.unusedSimpArgs false
set_option linter.unusedVariables false
set_option linter.unnecessarySimpa false

attribute [local simp] condK_true condK_false condK_not wpc_skip wpc_ret wpc_exit wpc_seq wpc_reg wpc_regD testA_bool wpc_cond wpc_block thenA_normal thenA_ret thenA_exit blockA_normal blockA_ret blockA_exit blockA_other endA_normal endA_ret ev_tmp' ev_const ev_func ev_global cv_int cv_bool cv_string cv_pointer cv_slice cv_agg cv_map put_some put_none wH_s setE_apply setE_env less_eq env_cons env_nil upd_upd upd_apply del_apply startA_eq cells_ag cells_sl one_sl cells_vs one_vs cells_ep one_ep cells_fn one_fn cells_int one_int cells_bool one_bool cells_string one_string cells_pointer one_pointer cells_slice one_slice cells_map one_map cells_agg resK_one resK_nil resK_two rvK_t rvK_c rvsK_nil rvsK_cons iseq_nil iseq_cons gdA_true gdA_false gdA_undef istep_free istep_guard istepV_free istepV_guard dseq_nil dseq_pu dseq_rd dseq_ef wpc_regT dtree_nil dtree_pu dtree_rd dtree_ef dtree_br chkAll_nil chkAll_cons andK_true pickK_true pickK_false pickK_tb pickK_fb bin2K_pl eqbK_eq eqbK_ne eqpK_eq eqpK_ne eqmK_eq eqmK_ne eqzK_eq eqzK_ne eqzK_sl eqzK_vs un1K_pl convK_int fillK_some fillA_cons fillA_nil cellsK_some needK_true needK_ok seeK_ep seeK_ptr oneK_agg oneK_one nilcK_ptr nilcK_ep fadrK_ptr fadrK_ep fldK_ag iadAK_ptr iadAK_ep iadSK_sl iadSK_vs extK_0 extK_1 extK_2 extK_3 lenK_pl lenK_sl lenK_vs lensK_pl boxK_some minmax1K_int storeK_ptr callvK_fn callvK_pl newsK_nil newsK_vs newsK_sl appK_nil appK_nil0 appK_sl appK_vs bnd1K_int bndK_none bndK_some slsK_vs slsK_nil slsK_sl0 slsK_sl slstrK_pl boolK_some eqsK_ag iop_eqs iop_sls iop_slstr seesK_some seesK_ro mapsK_some MAP_some findK_some findK_none plK_pl nmapK_none nmapK_some iop_mlook iop_mlen iop_mmk iop_mupd iop_mdel iop_mrng itK_none itK_some ptr0K_ptr iop_mnxt iop_ment it1K_some entK_some iop_mov iop_pick iop_bin iop_eqb iop_eqp iop_eqm iop_eqz iop_un capK_pl capK_sl capK_vs iop_cap apzK_nil iop_apz mksK_int iop_mks clrK_sl clrK_vs clrK_nil iop_clr iop_conv iop_build iop_load iop_nilc iop_fadr iop_fld iop_iadA iop_iadS iop_ext iop_mkf iop_len iop_lens iop_minmax iop_al iop_box iop_bsl iop_store iop_call iop_callv iop_app BIN_add BIN_sub BIN_mul BIN_and BIN_or BIN_xor BIN_andNot BIN_eql BIN_neq BIN_lss BIN_leq BIN_gtr BIN_geq BIN_quo BIN_rem BIN_shl BIN_shr BIN_sadd BIN_seql BIN_sneq BIN_slss BIN_sleq BIN_sgtr BIN_sgeq UN_neg UN_xor UN_not MM_nil MM_cons partsA argsA ptrA lessL eqL min2I slotN_int slotP_int slotI_int

def eqO (a b : O) : Bool := (a.nm.toList == b.nm.toList) && ((a.w == b.w) && ((a.h == b.h) && ((a.rf == b.rf) && ((a.sc == b.sc) && ((a.tr == b.tr) && ((a.x == b.x) && (a.y == b.y)))))))
def lg (o : O) : R := if chk o = 0 then lrect o else ⟨0, 0, 0, 0⟩
theorem chk_sc (o : O) (h : chk o = 0) : 1 ≤ o.sc ∧ o.sc ≤ 4 ∧ 1000 ≤ o.rf ∧ o.rf ≤ 240000 ∧ nmbad o = false := by
  unfold chk at h
  split at h
  · simp at h
  split at h
  · simp at h
  split at h
  · simp at h
  split at h
  · simp at h
  split at h
  · simp at h
  split at h
  · simp at h
  split at h
  · simp at h
  split at h
  · simp at h
  rename_i g _ _ _ _ _ _ _
  exact ⟨by omega, by omega, by omega, by omega, by simpa using g⟩
theorem c13 (o : O) : PC Tryz.prog 13 [.ag (oc o)] (.ag (rc (lg o))) := by
  intro H K hk
  refine call_c follows cf13_ok (by simp) ?_
  simp [oc]
  refine newK_of fun p hp => ?_
  simp
  refine newK_of fun q hq => ?_
  obtain ⟨n1, hq⟩ := upd_none.1 hq
  simp [n1, Ne.symm n1]
  refine c12 o _ _ fun H1 h1 => ?_
  have g0 : Ext H H1 := (((Ext.refl H).upd hp).upd hq).trans h1
  have g1 := h1.at (b := p) (by simp [Ne.symm n1]; rfl)
  have g2 := h1.at (b := q) (by simp; rfl)
  unfold lg at hk
  by_cases e : chk o = 0
  · rw [if_pos e] at hk
    simp [e, g1, g2]
    refine c30 o (by have := chk_sc o e; omega) _ _ fun H2 h2 => ?_
    simp [rc, h2.at g2]
    exact hk _ ((g0.trans h2).upd hq)
  · rw [if_neg e] at hk
    simp [e, g1, g2]
    exact hk _ (g0.upd hq)
theorem c21 (o : O) : PC Tryz.prog 21 [.ag (oc o)] (.ag (rc (lg o))) := by
  intro H K hk
  refine call_c follows cf21_ok (by simp) ?_
  simp [oc]
  refine newK_of fun p hp => ?_
  simp
  refine newK_of fun q hq => ?_
  obtain ⟨n1, hq⟩ := upd_none.1 hq
  simp [n1, Ne.symm n1]
  refine c16 o _ _ fun H1 h1 => ?_
  have g0 : Ext H H1 := (((Ext.refl H).upd hp).upd hq).trans h1
  have g1 := h1.at (b := p) (by simp [Ne.symm n1]; rfl)
  have g2 := h1.at (b := q) (by simp; rfl)
  unfold lg at hk
  by_cases e : chk o = 0
  · rw [if_pos e] at hk
    simp [e, g1, g2]
    refine c22 o (by have := chk_sc o e; omega) _ _ fun H2 h2 => ?_
    simp [h2.at g1, h2.at g2, n1, Ne.symm n1]
    exact hk _ ((g0.trans h2).upd hq)
  · rw [if_neg e] at hk
    simp [e, g1, g2]
    exact hk _ (g0.upd hq)

def itv (o : O) : Int := if chk o = 0 then (2000000000000 + o.rf) / (2 * o.rf) else 0
theorem itv_eq (o : O) (e : chk o = 0) : IntKind.i64.wrap ((IntKind.i64.wrap (2000000000000 + o.rf)).tdiv (IntKind.i64.wrap (2 * o.rf))) = itv o := by
  have := chk_sc o e
  rw [itv, if_pos e, IntWalk.i64_in (2000000000000 + o.rf) (by omega), IntWalk.i64_in (2 * o.rf) (by omega), IntWalk.i64_quo _ _ (by omega)]
theorem c14 (o : O) : PC Tryz.prog 14 [.ag (oc o)] (vi (itv o)) := by
  intro H K hk
  refine call_c follows cf14_ok (by simp) ?_
  simp [oc]
  refine newK_of fun p hp => ?_
  simp
  refine c12 o _ _ fun H1 h1 => ?_
  have g0 : Ext H H1 := ((Ext.refl H).upd hp).trans h1
  have g1 := h1.at (b := p) (by simp; rfl)
  by_cases e : chk o = 0
  · have q := itv_eq o e
    have r := chk_sc o e
    have r2 : ¬ IntKind.i64.wrap (2 * o.rf) = 0 := by rw [IntWalk.i64_in _ (by omega)]; omega
    simp [e, g1, r2, q]
    exact hk _ g0
  · have q : itv o = 0 := by rw [itv, if_neg e]
    rw [q] at hk
    simp [e, g1]
    exact hk _ g0
end Go.Proofs.YtohedpgoioemnaaGreatDoor
end

/-! Rectangles: empty, canonical, the common part, the area; one within another. Conditions: as each lemma states them. -/
section
namespace Go.Proofs.YtohedpgoioemnaaGreatDoor
open Go Go.Ab Go.RowKit
set_option linter.unusedSimpArgs false
set_option linter.unusedVariables false
set_option linter.unnecessarySimpa false

attribute [local simp] condK_true condK_false condK_not wpc_skip wpc_ret wpc_exit wpc_seq wpc_reg wpc_regD testA_bool wpc_cond wpc_block thenA_normal thenA_ret thenA_exit blockA_normal blockA_ret blockA_exit blockA_other endA_normal endA_ret ev_tmp' ev_const ev_func ev_global cv_int cv_bool cv_string cv_pointer cv_slice cv_agg cv_map put_some put_none wH_s setE_apply setE_env less_eq env_cons env_nil upd_upd upd_apply del_apply startA_eq cells_ag cells_sl one_sl cells_vs one_vs cells_ep one_ep cells_fn one_fn cells_int one_int cells_bool one_bool cells_string one_string cells_pointer one_pointer cells_slice one_slice cells_map one_map cells_agg resK_one resK_nil resK_two rvK_t rvK_c rvsK_nil rvsK_cons iseq_nil iseq_cons gdA_true gdA_false gdA_undef istep_free istep_guard istepV_free istepV_guard dseq_nil dseq_pu dseq_rd dseq_ef wpc_regT dtree_nil dtree_pu dtree_rd dtree_ef dtree_br chkAll_nil chkAll_cons andK_true pickK_true pickK_false pickK_tb pickK_fb bin2K_pl eqbK_eq eqbK_ne eqpK_eq eqpK_ne eqmK_eq eqmK_ne eqzK_eq eqzK_ne eqzK_sl eqzK_vs un1K_pl convK_int fillK_some fillA_cons fillA_nil cellsK_some needK_true needK_ok seeK_ep seeK_ptr oneK_agg oneK_one nilcK_ptr nilcK_ep fadrK_ptr fadrK_ep fldK_ag iadAK_ptr iadAK_ep iadSK_sl iadSK_vs extK_0 extK_1 extK_2 extK_3 lenK_pl lenK_sl lenK_vs lensK_pl boxK_some minmax1K_int storeK_ptr callvK_fn callvK_pl newsK_nil newsK_vs newsK_sl appK_nil appK_nil0 appK_sl appK_vs bnd1K_int bndK_none bndK_some slsK_vs slsK_nil slsK_sl0 slsK_sl slstrK_pl boolK_some eqsK_ag iop_eqs iop_sls iop_slstr seesK_some seesK_ro mapsK_some MAP_some findK_some findK_none plK_pl nmapK_none nmapK_some iop_mlook iop_mlen iop_mmk iop_mupd iop_mdel iop_mrng itK_none itK_some ptr0K_ptr iop_mnxt iop_ment it1K_some entK_some iop_mov iop_pick iop_bin iop_eqb iop_eqp iop_eqm iop_eqz iop_un capK_pl capK_sl capK_vs iop_cap apzK_nil iop_apz mksK_int iop_mks clrK_sl clrK_vs clrK_nil iop_clr iop_conv iop_build iop_load iop_nilc iop_fadr iop_fld iop_iadA iop_iadS iop_ext iop_mkf iop_len iop_lens iop_minmax iop_al iop_box iop_bsl iop_store iop_call iop_callv iop_app BIN_add BIN_sub BIN_mul BIN_and BIN_or BIN_xor BIN_andNot BIN_eql BIN_neq BIN_lss BIN_leq BIN_gtr BIN_geq BIN_quo BIN_rem BIN_shl BIN_shr BIN_sadd BIN_seql BIN_sneq BIN_slss BIN_sleq BIN_sgtr BIN_sgeq UN_neg UN_xor UN_not MM_nil MM_cons partsA argsA ptrA lessL eqL min2I slotN_int slotP_int slotI_int

theorem rc_len (r : R) : (rc r).length = 4 := rfl
theorem rc_t4 (r : R) : (rc r).take 4 = rc r := rfl
theorem rc_t1 (r : R) : (rc r).take 1 = [vi r.x0] := rfl
theorem rc_t2 (r : R) : (rc r).take 2 = [vi r.x0, vi r.y0] := rfl
theorem rc_t3 (r : R) : (rc r).take 3 = [vi r.x0, vi r.y0, vi r.x1] := rfl
theorem rc_d1 (r : R) : (rc r).tail = [vi r.y0, vi r.x1, vi r.y1] := rfl
theorem rc_d2 (r : R) : (rc r).drop 2 = [vi r.x1, vi r.y1] := rfl
theorem rc_d3 (r : R) : (rc r).drop 3 = [vi r.y1] := rfl
theorem rc_d4 (r : R) : (rc r).drop 4 = [] := rfl
theorem rc_ag (a b c d : Int) : AV.ag [vi a, vi b, vi c, vi d] = .ag (rc ⟨a, b, c, d⟩) := rfl
theorem rc_one (r : R) : (rc r).all AV.one = true := rfl
theorem rc_inj (a b : R) : rc a = rc b ↔ a = b := by cases a; cases b; simp [rc]
def req (a b : R) : Bool := a.x0 == b.x0 && (a.y0 == b.y0 && (a.x1 == b.x1 && a.y1 == b.y1))
theorem rc_eq (a b : R) : eqL [1, 1, 1, 1] (rc a) (rc b) = some (req a b) := by simp [rc, eqL, req]
theorem req_iff (a b : R) : req a b = true ↔ a = b := by cases a; cases b; simp [req]
attribute [local simp] rc_len rc_t4 rc_t1 rc_t2 rc_t3 rc_d1 rc_d2 rc_d3 rc_d4 rc_ag rc_one rc_eq
theorem min2_t (a b : Int) : (if a < b then b else a) = max a b := by omega
theorem min2_f (a b : Int) : (if b < a then b else a) = min a b := by omega
attribute [local simp] min2_t min2_f

def rempty (r : R) : Bool := !rvalid r || decide (r.x1 ≤ r.x0) || decide (r.y1 ≤ r.y0)
theorem c38 (r : R) : PC Tryz.prog 38 [.ag (rc r)] (vb (rempty r)) := by
  refine .tell fun H => ?_
  refine call_c follows cf38_ok (by simp) ?_
  repeat' (first | simp [*] | (with_reducible (refine newK_of fun _ h_ => ?_); have hn_ := free_ne h_; (try simp only [upd_none', ne_eq] at h_)) | (with_reducible (refine condK_of (fun h_ => ?_) (fun h_ => ?_))) | with_reducible (refine (c29 ..).ac ?_))
  all_goals ((try with_reducible refine And.intro ?_ ?_) <;> (try (repeat' (first | with_reducible exact Sub.refl _ | with_reducible refine Sub.of_upd (by simp [*]) ?_))))
  all_goals (simp_all [rempty] <;> omega)
def rcan (r : R) : R := if rempty r then ⟨0, 0, 0, 0⟩ else r
theorem c58 (r : R) : PC Tryz.prog 58 [.ag (rc r)] (.ag (rc (rcan r))) := by
  refine .tell fun H => ?_
  refine call_c follows cf58_ok (by simp) ?_
  repeat' (first | simp [*] | (with_reducible (refine newK_of fun _ h_ => ?_); have hn_ := free_ne h_; (try simp only [upd_none', ne_eq] at h_)) | (with_reducible (refine condK_of (fun h_ => ?_) (fun h_ => ?_))) | with_reducible (refine (c38 ..).ac ?_))
  all_goals ((try with_reducible refine And.intro ?_ ?_) <;> (try (repeat' (first | with_reducible exact Sub.refl _ | with_reducible refine Sub.of_upd (by simp [*]) ?_))))
  all_goals (simp_all [rcan] <;> omega)
def rcap (a b : R) : R := if rempty a || rempty b then ⟨0, 0, 0, 0⟩ else rcan ⟨max a.x0 b.x0, max a.y0 b.y0, min a.x1 b.x1, min a.y1 b.y1⟩
theorem c37 (a b : R) : PC Tryz.prog 37 [.ag (rc a), .ag (rc b)] (.ag (rc (rcap a b))) := by
  refine .tell fun H => ?_
  refine call_c follows cf37_ok (by simp) ?_
  repeat' (first | simp [*] | (with_reducible (refine newK_of fun _ h_ => ?_); have hn_ := free_ne h_; (try simp only [upd_none', ne_eq] at h_)) | (with_reducible (refine condK_of (fun h_ => ?_) (fun h_ => ?_))) | with_reducible (refine (c38 ..).ac ?_) | with_reducible (refine (c58 ..).ac ?_))
  all_goals ((try with_reducible refine And.intro ?_ ?_) <;> (try (repeat' (first | with_reducible exact Sub.refl _ | with_reducible refine Sub.of_upd (by simp [*]) ?_))))
  all_goals (simp_all [rcap] <;> omega)

theorem rempty_ok (r : R) (h : rempty r = false) : -16384 ≤ r.x0 ∧ r.x0 < r.x1 ∧ r.x1 ≤ 16384 ∧ -16384 ≤ r.y0 ∧ r.y0 < r.y1 ∧ r.y1 ≤ 16384 := by
  simp [rempty, rvalid, okc] at h; omega
theorem rempty_of (r : R) (h : -16384 ≤ r.x0 ∧ r.x0 < r.x1 ∧ r.x1 ≤ 16384 ∧ -16384 ≤ r.y0 ∧ r.y0 < r.y1 ∧ r.y1 ≤ 16384) : rempty r = false := by
  simp [rempty, rvalid, okc]; omega
theorem rempty_iff (r : R) : rempty r = false ↔ -16384 ≤ r.x0 ∧ r.x0 < r.x1 ∧ r.x1 ≤ 16384 ∧ -16384 ≤ r.y0 ∧ r.y0 < r.y1 ∧ r.y1 ≤ 16384 := ⟨rempty_ok r, rempty_of r⟩
theorem rempty_zero : rempty ⟨0, 0, 0, 0⟩ = true := by decide
theorem rcan_rng (r : R) : -16384 ≤ (rcan r).x0 ∧ (rcan r).x0 ≤ 16384 ∧ -16384 ≤ (rcan r).x1 ∧ (rcan r).x1 ≤ 16384 ∧ -16384 ≤ (rcan r).y0 ∧ (rcan r).y0 ≤ 16384 ∧ -16384 ≤ (rcan r).y1 ∧ (rcan r).y1 ≤ 16384 := by
  unfold rcan
  cases h : rempty r with
  | true => simp
  | false => have := rempty_ok r h; simp; omega
end Go.Proofs.YtohedpgoioemnaaGreatDoor
end

/-! Rectangles: the area, one within another. Conditions: as each lemma states them. -/
section
namespace Go.Proofs.YtohedpgoioemnaaGreatDoor
open Go Go.Ab Go.RowKit
set_option linter.unusedSimpArgs false
set_option linter.unusedVariables false
set_option linter.unnecessarySimpa false

attribute [local simp] condK_true condK_false condK_not wpc_skip wpc_ret wpc_exit wpc_seq wpc_reg wpc_regD testA_bool wpc_cond wpc_block thenA_normal thenA_ret thenA_exit blockA_normal blockA_ret blockA_exit blockA_other endA_normal endA_ret ev_tmp' ev_const ev_func ev_global cv_int cv_bool cv_string cv_pointer cv_slice cv_agg cv_map put_some put_none wH_s setE_apply setE_env less_eq env_cons env_nil upd_upd upd_apply del_apply startA_eq cells_ag cells_sl one_sl cells_vs one_vs cells_ep one_ep cells_fn one_fn cells_int one_int cells_bool one_bool cells_string one_string cells_pointer one_pointer cells_slice one_slice cells_map one_map cells_agg resK_one resK_nil resK_two rvK_t rvK_c rvsK_nil rvsK_cons iseq_nil iseq_cons gdA_true gdA_false gdA_undef istep_free istep_guard istepV_free istepV_guard dseq_nil dseq_pu dseq_rd dseq_ef wpc_regT dtree_nil dtree_pu dtree_rd dtree_ef dtree_br chkAll_nil chkAll_cons andK_true pickK_true pickK_false pickK_tb pickK_fb bin2K_pl eqbK_eq eqbK_ne eqpK_eq eqpK_ne eqmK_eq eqmK_ne eqzK_eq eqzK_ne eqzK_sl eqzK_vs un1K_pl convK_int fillK_some fillA_cons fillA_nil cellsK_some needK_true needK_ok seeK_ep seeK_ptr oneK_agg oneK_one nilcK_ptr nilcK_ep fadrK_ptr fadrK_ep fldK_ag iadAK_ptr iadAK_ep iadSK_sl iadSK_vs extK_0 extK_1 extK_2 extK_3 lenK_pl lenK_sl lenK_vs lensK_pl boxK_some minmax1K_int storeK_ptr callvK_fn callvK_pl newsK_nil newsK_vs newsK_sl appK_nil appK_nil0 appK_sl appK_vs bnd1K_int bndK_none bndK_some slsK_vs slsK_nil slsK_sl0 slsK_sl slstrK_pl boolK_some eqsK_ag iop_eqs iop_sls iop_slstr seesK_some seesK_ro mapsK_some MAP_some findK_some findK_none plK_pl nmapK_none nmapK_some iop_mlook iop_mlen iop_mmk iop_mupd iop_mdel iop_mrng itK_none itK_some ptr0K_ptr iop_mnxt iop_ment it1K_some entK_some iop_mov iop_pick iop_bin iop_eqb iop_eqp iop_eqm iop_eqz iop_un capK_pl capK_sl capK_vs iop_cap apzK_nil iop_apz mksK_int iop_mks clrK_sl clrK_vs clrK_nil iop_clr iop_conv iop_build iop_load iop_nilc iop_fadr iop_fld iop_iadA iop_iadS iop_ext iop_mkf iop_len iop_lens iop_minmax iop_al iop_box iop_bsl iop_store iop_call iop_callv iop_app BIN_add BIN_sub BIN_mul BIN_and BIN_or BIN_xor BIN_andNot BIN_eql BIN_neq BIN_lss BIN_leq BIN_gtr BIN_geq BIN_quo BIN_rem BIN_shl BIN_shr BIN_sadd BIN_seql BIN_sneq BIN_slss BIN_sleq BIN_sgtr BIN_sgeq UN_neg UN_xor UN_not MM_nil MM_cons partsA argsA ptrA lessL eqL min2I slotN_int slotP_int slotI_int
attribute [local simp] rc_len rc_t4 rc_t1 rc_t2 rc_t3 rc_d1 rc_d2 rc_d3 rc_d4 rc_ag rc_one rc_eq min2_t min2_f

def rarea (r : R) : Int := ((rcan r).x1 - (rcan r).x0) * ((rcan r).y1 - (rcan r).y0)
theorem rarea_rng (r : R) : 0 ≤ rarea r ∧ rarea r ≤ 32768 * 32768 := by
  unfold rarea rcan
  cases h : rempty r with
  | true => simp
  | false =>
    have := rempty_ok r h
    simp
    constructor
    · exact Int.mul_nonneg (by omega) (by omega)
    · exact Int.mul_le_mul (show r.x1 - r.x0 ≤ 32768 by omega) (show r.y1 - r.y0 ≤ 32768 by omega) (by omega) (by omega)
def rin (a b : R) : Bool := req (rcan a) (rcap (rcan a) b)
end Go.Proofs.YtohedpgoioemnaaGreatDoor
end

/-! Transforms of points and rectangles. Conditions: as each lemma states them. -/
section
namespace Go.Proofs.YtohedpgoioemnaaGreatDoor
open Go Go.Ab Go.RowKit
set_option linter.unusedSimpArgs false
set_option linter.unusedVariables false
set_option linter.unnecessarySimpa false

attribute [local simp] condK_true condK_false condK_not wpc_skip wpc_ret wpc_exit wpc_seq wpc_reg wpc_regD testA_bool wpc_cond wpc_block thenA_normal thenA_ret thenA_exit blockA_normal blockA_ret blockA_exit blockA_other endA_normal endA_ret ev_tmp' ev_const ev_func ev_global cv_int cv_bool cv_string cv_pointer cv_slice cv_agg cv_map put_some put_none wH_s setE_apply setE_env less_eq env_cons env_nil upd_upd upd_apply del_apply startA_eq cells_ag cells_sl one_sl cells_vs one_vs cells_ep one_ep cells_fn one_fn cells_int one_int cells_bool one_bool cells_string one_string cells_pointer one_pointer cells_slice one_slice cells_map one_map cells_agg resK_one resK_nil resK_two rvK_t rvK_c rvsK_nil rvsK_cons iseq_nil iseq_cons gdA_true gdA_false gdA_undef istep_free istep_guard istepV_free istepV_guard dseq_nil dseq_pu dseq_rd dseq_ef wpc_regT dtree_nil dtree_pu dtree_rd dtree_ef dtree_br chkAll_nil chkAll_cons andK_true pickK_true pickK_false pickK_tb pickK_fb bin2K_pl eqbK_eq eqbK_ne eqpK_eq eqpK_ne eqmK_eq eqmK_ne eqzK_eq eqzK_ne eqzK_sl eqzK_vs un1K_pl convK_int fillK_some fillA_cons fillA_nil cellsK_some needK_true needK_ok seeK_ep seeK_ptr oneK_agg oneK_one nilcK_ptr nilcK_ep fadrK_ptr fadrK_ep fldK_ag iadAK_ptr iadAK_ep iadSK_sl iadSK_vs extK_0 extK_1 extK_2 extK_3 lenK_pl lenK_sl lenK_vs lensK_pl boxK_some minmax1K_int storeK_ptr callvK_fn callvK_pl newsK_nil newsK_vs newsK_sl appK_nil appK_nil0 appK_sl appK_vs bnd1K_int bndK_none bndK_some slsK_vs slsK_nil slsK_sl0 slsK_sl slstrK_pl boolK_some eqsK_ag iop_eqs iop_sls iop_slstr seesK_some seesK_ro mapsK_some MAP_some findK_some findK_none plK_pl nmapK_none nmapK_some iop_mlook iop_mlen iop_mmk iop_mupd iop_mdel iop_mrng itK_none itK_some ptr0K_ptr iop_mnxt iop_ment it1K_some entK_some iop_mov iop_pick iop_bin iop_eqb iop_eqp iop_eqm iop_eqz iop_un capK_pl capK_sl capK_vs iop_cap apzK_nil iop_apz mksK_int iop_mks clrK_sl clrK_vs clrK_nil iop_clr iop_conv iop_build iop_load iop_nilc iop_fadr iop_fld iop_iadA iop_iadS iop_ext iop_mkf iop_len iop_lens iop_minmax iop_al iop_box iop_bsl iop_store iop_call iop_callv iop_app BIN_add BIN_sub BIN_mul BIN_and BIN_or BIN_xor BIN_andNot BIN_eql BIN_neq BIN_lss BIN_leq BIN_gtr BIN_geq BIN_quo BIN_rem BIN_shl BIN_shr BIN_sadd BIN_seql BIN_sneq BIN_slss BIN_sleq BIN_sgtr BIN_sgeq UN_neg UN_xor UN_not MM_nil MM_cons partsA argsA ptrA lessL eqL min2I slotN_int slotP_int slotI_int
attribute [local simp] rc_len rc_t4 rc_t1 rc_t2 rc_t3 rc_d1 rc_d2 rc_d3 rc_d4 rc_ag rc_one rc_eq min2_t min2_f

structure Pt where
  x : Int
  y : Int
def pc (p : Pt) : List AV := [vi p.x, vi p.y]
theorem pc_len (r : Pt) : (pc r).length = 2 := rfl
theorem pc_t2 (r : Pt) : (pc r).take 2 = pc r := rfl
theorem pc_t1 (r : Pt) : (pc r).take 1 = [vi r.x] := rfl
theorem pc_d1 (r : Pt) : (pc r).tail = [vi r.y] := rfl
theorem pc_d2 (r : Pt) : (pc r).drop 2 = [] := rfl
theorem pc_ag (a b : Int) : AV.ag [vi a, vi b] = .ag (pc ⟨a, b⟩) := rfl
theorem pc_one (r : Pt) : (pc r).all AV.one = true := rfl
theorem pc_inj (a b : Pt) : pc a = pc b ↔ a = b := by cases a; cases b; simp [pc]
attribute [local simp] pc_len pc_t1 pc_t2 pc_d1 pc_d2 pc_ag pc_one

def inb (w h : Int) : Bool := decide (1 ≤ w) && decide (w ≤ 16384) && decide (1 ≤ h) && decide (h ≤ 16384)
theorem c60 (w h : Int) : PC Tryz.prog 60 [vi w, vi h] (vb (inb w h)) := by
  refine .tell fun H => ?_
  refine call_c follows cf60_ok (by simp) ?_
  repeat' (first | simp [*] | (with_reducible (refine newK_of fun _ h_ => ?_); have hn_ := free_ne h_; (try simp only [upd_none', ne_eq] at h_)) | (with_reducible (refine condK_of (fun h_ => ?_) (fun h_ => ?_))))
  all_goals ((try with_reducible refine And.intro ?_ ?_) <;> (try (repeat' (first | with_reducible exact Sub.refl _ | with_reducible refine Sub.of_upd (by simp [*]) ?_))))
  all_goals (simp_all [inb] <;> omega)

def tapF (t w : Int) (p : Pt) : Pt := if 4 ≤ t then ⟨w - 1 - p.x, p.y⟩ else p
def tap (t w h : Int) (p : Pt) : Pt :=
  if t % 4 = 1 then ⟨(tapF t w p).y, w - 1 - (tapF t w p).x⟩ else if t % 4 = 2 then ⟨w - 1 - (tapF t w p).x, h - 1 - (tapF t w p).y⟩
  else if t % 4 = 3 then ⟨h - 1 - (tapF t w p).y, (tapF t w p).x⟩ else tapF t w p
def small (n : Int) : Prop := -40000 ≤ n ∧ n ≤ 40000
theorem c61 (t w h : Int) (p : Pt) (ht : 0 ≤ t ∧ t ≤ 7) (hw : small w) (hh : small h) (hx : small p.x) (hy : small p.y) :
    PC Tryz.prog 61 [vi t, vi w, vi h, .ag (pc p)] (.ag (pc (tap t w h p))) := by
  unfold small at *
  have hm : t.tmod 4 = t % 4 := Int.tmod_eq_emod_of_nonneg (by omega)
  refine .tell fun H => ?_
  refine call_c follows cf61_ok (by simp) ?_
  by_cases h4 : 4 ≤ t
  · have hf : tapF t w p = ⟨w - 1 - p.x, p.y⟩ := if_pos h4
    repeat' (first | simp [hm, h4, *] | simp (disch := omega) [hm, h4, IntWalk.i64_in, *] | (with_reducible (refine newK_of fun _ h_ => ?_); have hn_ := free_ne h_; (try simp only [upd_none', ne_eq] at h_)) | (with_reducible (refine condK_of (fun h_ => ?_) (fun h_ => ?_))))
    all_goals ((try with_reducible refine And.intro ?_ ?_) <;> (try (repeat' (first | with_reducible exact Sub.refl _ | with_reducible refine Sub.of_upd (by simp [*]) ?_))))
    all_goals (simp only [hm] at *; simp_all [tap, pc] <;> omega)
  · have hf : tapF t w p = p := if_neg h4
    repeat' (first | simp [hm, h4, *] | simp (disch := omega) [hm, h4, IntWalk.i64_in, *] | (with_reducible (refine newK_of fun _ h_ => ?_); have hn_ := free_ne h_; (try simp only [upd_none', ne_eq] at h_)) | (with_reducible (refine condK_of (fun h_ => ?_) (fun h_ => ?_))))
    all_goals ((try with_reducible refine And.intro ?_ ?_) <;> (try (repeat' (first | with_reducible exact Sub.refl _ | with_reducible refine Sub.of_upd (by simp [*]) ?_))))
    all_goals (simp only [hm] at *; simp_all [tap, pc] <;> omega)

def ptx (r : R) : Pt := ⟨r.x0, r.y0⟩
def pty (r : R) : Pt := ⟨r.x1 - 1, r.y1 - 1⟩
def tbox (a b : Pt) : R := ⟨min a.x b.x, min a.y b.y, max a.x b.x + 1, max a.y b.y + 1⟩
def trect (t w h : Int) (r : R) : R :=
  if inb w h then (if rempty (rcap r ⟨0, 0, w, h⟩) then ⟨0, 0, 0, 0⟩ else tbox (tap (nrm t) w h (ptx (rcap r ⟨0, 0, w, h⟩))) (tap (nrm t) w h (pty (rcap r ⟨0, 0, w, h⟩)))) else ⟨0, 0, 0, 0⟩
theorem nrm_rng (t : Int) : 0 ≤ nrm t ∧ nrm t ≤ 7 := by
  unfold nrm
  cases h : okt t with
  | true => simp [okt] at h; simp; omega
  | false => simp
theorem tap_rng (t w h : Int) (p : Pt) (hw : 0 ≤ w ∧ w ≤ 16384) (hh : 0 ≤ h ∧ h ≤ 16384) (hx : -16384 ≤ p.x ∧ p.x ≤ 16384) (hy : -16384 ≤ p.y ∧ p.y ≤ 16384) : small (tap t w h p).x ∧ small (tap t w h p).y := by
  unfold tap tapF small
  repeat' split
  all_goals (first | (simp; omega) | omega)
theorem c40 (t w h : Int) (r : R) : PC Tryz.prog 40 [vi t, vi w, vi h, .ag (rc r)] (.ag (rc (trect t w h r))) := by
  refine .tell fun H => ?_
  refine call_c follows cf40_ok (by simp) ?_
  cases hb : inb w h with
  | false =>
    repeat' (first | simp [*] | (with_reducible (refine newK_of fun _ h_ => ?_); have hn_ := free_ne h_; (try simp only [upd_none', ne_eq] at h_)) | (with_reducible (refine condK_of (fun h_ => ?_) (fun h_ => ?_))) | with_reducible (refine (c60 ..).ac ?_))
    all_goals ((try with_reducible refine And.intro ?_ ?_) <;> (try (repeat' (first | with_reducible exact Sub.refl _ | with_reducible refine Sub.of_upd (by simp [*]) ?_))))
    all_goals simp_all [trect]
  | true =>
    cases he : rempty (rcap r ⟨0, 0, w, h⟩) with
    | true =>
      repeat' (first | simp [*] | (with_reducible (refine newK_of fun _ h_ => ?_); have hn_ := free_ne h_; (try simp only [upd_none', ne_eq] at h_)) | (with_reducible (refine condK_of (fun h_ => ?_) (fun h_ => ?_))) | with_reducible (refine (c60 ..).ac ?_) | with_reducible (refine (c37 ..).ac ?_) | with_reducible (refine (c38 ..).ac ?_))
      all_goals ((try with_reducible refine And.intro ?_ ?_) <;> (try (repeat' (first | with_reducible exact Sub.refl _ | with_reducible refine Sub.of_upd (by simp [*]) ?_))))
      all_goals simp_all [trect]
    | false =>
      have hr := rempty_ok _ he
      have hn := nrm_rng t
      have hb' : (1 ≤ w ∧ w ≤ 16384) ∧ 1 ≤ h ∧ h ≤ 16384 := by simp [inb] at hb; omega
      generalize hq : rcap r ⟨0, 0, w, h⟩ = q at he hr
      have ra := tap_rng (nrm t) w h ⟨q.x0, q.y0⟩ (by omega) (by omega) (by simp; omega) (by simp; omega)
      have rb := tap_rng (nrm t) w h ⟨q.x1 - 1, q.y1 - 1⟩ (by omega) (by omega) (by simp; omega) (by simp; omega)
      unfold small at ra rb
      repeat' (first | simp [*] | simp (disch := omega) [*, IntWalk.i64_in] | (with_reducible (refine newK_of fun _ h_ => ?_); have hn_ := free_ne h_; (try simp only [upd_none', ne_eq] at h_)) | (with_reducible (refine condK_of (fun h_ => ?_) (fun h_ => ?_))) | with_reducible (refine (c60 ..).ac ?_) | with_reducible (refine (c37 ..).ac ?_) | with_reducible (refine (c38 ..).ac ?_) | with_reducible (refine (c59 ..).ac ?_) | with_reducible (refine (c61 (nrm t) w h _ (by omega) (by unfold small; omega) (by unfold small; omega) (by unfold small; simp; omega) (by unfold small; simp; omega)).ac ?_))
      all_goals ((try with_reducible refine And.intro ?_ ?_) <;> (try (repeat' (first | with_reducible exact Sub.refl _ | with_reducible refine Sub.of_upd (by simp [*]) ?_))))
      all_goals simp_all [trect, tbox, ptx, pty]
end Go.Proofs.YtohedpgoioemnaaGreatDoor
end

/-! From logical to physical rectangles. No conditions. -/
section
namespace Go.Proofs.YtohedpgoioemnaaGreatDoor
open Go Go.Ab Go.RowKit
set_option linter.unusedSimpArgs false
set_option linter.unusedVariables false
set_option linter.unnecessarySimpa false

attribute [local simp] condK_true condK_false condK_not wpc_skip wpc_ret wpc_exit wpc_seq wpc_reg wpc_regD testA_bool wpc_cond wpc_block thenA_normal thenA_ret thenA_exit blockA_normal blockA_ret blockA_exit blockA_other endA_normal endA_ret ev_tmp' ev_const ev_func ev_global cv_int cv_bool cv_string cv_pointer cv_slice cv_agg cv_map put_some put_none wH_s setE_apply setE_env less_eq env_cons env_nil upd_upd upd_apply del_apply startA_eq cells_ag cells_sl one_sl cells_vs one_vs cells_ep one_ep cells_fn one_fn cells_int one_int cells_bool one_bool cells_string one_string cells_pointer one_pointer cells_slice one_slice cells_map one_map cells_agg resK_one resK_nil resK_two rvK_t rvK_c rvsK_nil rvsK_cons iseq_nil iseq_cons gdA_true gdA_false gdA_undef istep_free istep_guard istepV_free istepV_guard dseq_nil dseq_pu dseq_rd dseq_ef wpc_regT dtree_nil dtree_pu dtree_rd dtree_ef dtree_br chkAll_nil chkAll_cons andK_true pickK_true pickK_false pickK_tb pickK_fb bin2K_pl eqbK_eq eqbK_ne eqpK_eq eqpK_ne eqmK_eq eqmK_ne eqzK_eq eqzK_ne eqzK_sl eqzK_vs un1K_pl convK_int fillK_some fillA_cons fillA_nil cellsK_some needK_true needK_ok seeK_ep seeK_ptr oneK_agg oneK_one nilcK_ptr nilcK_ep fadrK_ptr fadrK_ep fldK_ag iadAK_ptr iadAK_ep iadSK_sl iadSK_vs extK_0 extK_1 extK_2 extK_3 lenK_pl lenK_sl lenK_vs lensK_pl boxK_some minmax1K_int storeK_ptr callvK_fn callvK_pl newsK_nil newsK_vs newsK_sl appK_nil appK_nil0 appK_sl appK_vs bnd1K_int bndK_none bndK_some slsK_vs slsK_nil slsK_sl0 slsK_sl slstrK_pl boolK_some eqsK_ag iop_eqs iop_sls iop_slstr seesK_some seesK_ro mapsK_some MAP_some findK_some findK_none plK_pl nmapK_none nmapK_some iop_mlook iop_mlen iop_mmk iop_mupd iop_mdel iop_mrng itK_none itK_some ptr0K_ptr iop_mnxt iop_ment it1K_some entK_some iop_mov iop_pick iop_bin iop_eqb iop_eqp iop_eqm iop_eqz iop_un capK_pl capK_sl capK_vs iop_cap apzK_nil iop_apz mksK_int iop_mks clrK_sl clrK_vs clrK_nil iop_clr iop_conv iop_build iop_load iop_nilc iop_fadr iop_fld iop_iadA iop_iadS iop_ext iop_mkf iop_len iop_lens iop_minmax iop_al iop_box iop_bsl iop_store iop_call iop_callv iop_app BIN_add BIN_sub BIN_mul BIN_and BIN_or BIN_xor BIN_andNot BIN_eql BIN_neq BIN_lss BIN_leq BIN_gtr BIN_geq BIN_quo BIN_rem BIN_shl BIN_shr BIN_sadd BIN_seql BIN_sneq BIN_slss BIN_sleq BIN_sgtr BIN_sgeq UN_neg UN_xor UN_not MM_nil MM_cons partsA argsA ptrA lessL eqL min2I slotN_int slotP_int slotI_int
attribute [local simp] rc_len rc_t4 rc_t1 rc_t2 rc_t3 rc_d1 rc_d2 rc_d3 rc_d4 rc_ag rc_one rc_eq pc_len pc_t1 pc_t2 pc_d1 pc_d2 pc_ag pc_one min2_t min2_f

theorem oc_len (r : O) : (oc r).length = 8 := rfl
theorem oc_tt (r : O) : (oc r).take 8 = oc r := rfl
theorem oc_dd (r : O) : (oc r).drop 8 = [] := rfl
theorem oc_one (r : O) : (oc r).all AV.one = true := rfl
theorem oc_t1 (r : O) : (oc r).take 1 = [vs8 r.nm] := rfl
theorem oc_d1 (r : O) : (oc r).tail = [vi r.w, vi r.h, vi r.rf, vi r.sc, vi r.tr, vi r.x, vi r.y] := rfl
theorem oc_t2 (r : O) : (oc r).take 2 = [vs8 r.nm, vi r.w] := rfl
theorem oc_d2 (r : O) : (oc r).drop 2 = [vi r.h, vi r.rf, vi r.sc, vi r.tr, vi r.x, vi r.y] := rfl
theorem oc_t3 (r : O) : (oc r).take 3 = [vs8 r.nm, vi r.w, vi r.h] := rfl
theorem oc_d3 (r : O) : (oc r).drop 3 = [vi r.rf, vi r.sc, vi r.tr, vi r.x, vi r.y] := rfl
theorem oc_t4 (r : O) : (oc r).take 4 = [vs8 r.nm, vi r.w, vi r.h, vi r.rf] := rfl
theorem oc_d4 (r : O) : (oc r).drop 4 = [vi r.sc, vi r.tr, vi r.x, vi r.y] := rfl
theorem oc_t5 (r : O) : (oc r).take 5 = [vs8 r.nm, vi r.w, vi r.h, vi r.rf, vi r.sc] := rfl
theorem oc_d5 (r : O) : (oc r).drop 5 = [vi r.tr, vi r.x, vi r.y] := rfl
theorem oc_t6 (r : O) : (oc r).take 6 = [vs8 r.nm, vi r.w, vi r.h, vi r.rf, vi r.sc, vi r.tr] := rfl
theorem oc_d6 (r : O) : (oc r).drop 6 = [vi r.x, vi r.y] := rfl
theorem oc_t7 (r : O) : (oc r).take 7 = [vs8 r.nm, vi r.w, vi r.h, vi r.rf, vi r.sc, vi r.tr, vi r.x] := rfl
theorem oc_d7 (r : O) : (oc r).drop 7 = [vi r.y] := rfl
theorem oc_ag (c0 : ByteArray) (c1 : Int) (c2 : Int) (c3 : Int) (c4 : Int) (c5 : Int) (c6 : Int) (c7 : Int) : AV.ag [vs8 c0, vi c1, vi c2, vi c3, vi c4, vi c5, vi c6, vi c7] = .ag (oc ⟨c0, c1, c2, c3, c4, c5, c6, c7⟩) := rfl
attribute [local simp] oc_len oc_tt oc_dd oc_one oc_ag oc_t1 oc_t2 oc_t3 oc_t4 oc_t5 oc_t6 oc_t7 oc_d1 oc_d2 oc_d3 oc_d4 oc_d5 oc_d6 oc_d7
def big (o : O) (r : R) : R := ⟨(r.x0 - o.x) * o.sc, (r.y0 - o.y) * o.sc, (r.x1 - o.x) * o.sc, (r.y1 - o.y) * o.sc⟩
def phys (o : O) (r : R) : R := trect o.tr (swp o.tr o.w o.h).1 (swp o.tr o.w o.h).2 (big o r)
theorem mul4 (a k : Int) (ha : -40000 ≤ a ∧ a ≤ 40000) (hk : 1 ≤ k ∧ k ≤ 4) : -160000 ≤ a * k ∧ a * k ≤ 160000 := by
  have : k = 1 ∨ k = 2 ∨ k = 3 ∨ k = 4 := by omega
  rcases this with rfl | rfl | rfl | rfl <;> omega
def rsmall (r : R) : Prop := (-16384 ≤ r.x0 ∧ r.x0 ≤ 16384) ∧ (-16384 ≤ r.y0 ∧ r.y0 ≤ 16384) ∧ (-16384 ≤ r.x1 ∧ r.x1 ≤ 16384) ∧ (-16384 ≤ r.y1 ∧ r.y1 ≤ 16384)
theorem rempty_small (r : R) (h : rempty r = false) : rsmall r := by have := rempty_ok r h; unfold rsmall; omega
theorem chk_parts (o : O) (h : chk o = 0) : nmbad o = false ∧ okt o.tr = true ∧ 1 ≤ o.sc ∧ o.sc ≤ 4 ∧ lenok o.w o.sc = true ∧ lenok o.h o.sc = true ∧ 1000 ≤ o.rf ∧ o.rf ≤ 240000 ∧ okc o.x = true ∧ okc o.y = true ∧ rvalid (lrect o) = true := by
  unfold chk at h
  repeat' (split at h <;> first | (exact absurd h (by decide)) | skip)
  simp_all
theorem c19 (o : O) (r : R) (hc : chk o = 0) (hr : rsmall r) : PC Tryz.prog 19 [.ag (oc o), .ag (rc r)] (.ag (rc (phys o r))) := by
  have hp := chk_parts o hc
  have hx : -16384 ≤ o.x ∧ o.x ≤ 16384 := by have := hp.2.2.2.2.2.2.2.2.1; simpa [okc] using this
  have hy : -16384 ≤ o.y ∧ o.y ≤ 16384 := by have := hp.2.2.2.2.2.2.2.2.2.1; simpa [okc] using this
  have hk : 1 ≤ o.sc ∧ o.sc ≤ 4 := ⟨hp.2.2.1, hp.2.2.2.1⟩
  unfold rsmall at hr
  have m0 := mul4 (r.x0 - o.x) o.sc (by omega) hk
  have m1 := mul4 (r.y0 - o.y) o.sc (by omega) hk
  have m2 := mul4 (r.x1 - o.x) o.sc (by omega) hk
  have m3 := mul4 (r.y1 - o.y) o.sc (by omega) hk
  clear hp
  refine .tell fun H => ?_
  refine call_c follows cf19_ok (by simp) ?_
  repeat' (first | simp [*] | (with_reducible (refine newK_of fun _ h_ => ?_); have hn_ := free_ne h_; (try simp only [upd_none', ne_eq] at h_)) | (with_reducible (refine condK_of (fun h_ => ?_) (fun h_ => ?_))) | with_reducible (refine (c39 ..).ac ?_) | with_reducible (refine (c40 ..).ac ?_) | simp (disch := omega) [*, IntWalk.i64_in])
  all_goals ((try with_reducible refine And.intro ?_ ?_) <;> (try (repeat' (first | with_reducible exact Sub.refl _ | with_reducible refine Sub.of_upd (by simp [*]) ?_))))
  all_goals simp_all [phys, big]
theorem good24 : goodCallee Tryz.prog 19 = true := by kernel_rfl
def toPhys (o : O) (r : R) : R := if chk o = 0 then (if rempty (rcap r (lg o)) then ⟨0, 0, 0, 0⟩ else phys o (rcap r (lg o))) else ⟨0, 0, 0, 0⟩
theorem c18p (o : O) (r im : R) :
    PC Tryz.prog 18 [.ag (oc o), .ag (rc r), .ag (rc im), .pl (.func (.func 19) #[] #[])]
      (.ag (rc (if chk o = 0 then (if rempty (rcap r im) then ⟨0, 0, 0, 0⟩ else phys o (rcap r im)) else ⟨0, 0, 0, 0⟩))) := by
  refine .tell fun H => ?_
  refine call_c follows cf18_ok (by simp) ?_
  by_cases hc : chk o = 0
  · cases he : rempty (rcap r im) with
    | true =>
      repeat' (first | simp [*] | (with_reducible (refine newK_of fun _ h_ => ?_); have hn_ := free_ne h_; (try simp only [upd_none', ne_eq] at h_)) | (with_reducible (refine condK_of (fun h_ => ?_) (fun h_ => ?_))) | with_reducible (refine (c37 ..).ac ?_) | with_reducible (refine (c12 ..).ac ?_) | with_reducible (refine (c38 ..).ac ?_))
      all_goals ((try with_reducible refine And.intro ?_ ?_) <;> (try (repeat' (first | with_reducible exact Sub.refl _ | with_reducible refine Sub.of_upd (by simp [*]) ?_))))
    | false =>
      have hs := rempty_small _ he
      repeat' (first | simp [*, good24] | (with_reducible (refine newK_of fun _ h_ => ?_); have hn_ := free_ne h_; (try simp only [upd_none', ne_eq] at h_)) | (with_reducible (refine condK_of (fun h_ => ?_) (fun h_ => ?_))) | with_reducible (refine (c37 ..).ac ?_) | with_reducible (refine (c12 ..).ac ?_) | with_reducible (refine (c38 ..).ac ?_) | with_reducible (refine (c19 _ _ hc hs).ac ?_))
      all_goals ((try with_reducible refine And.intro ?_ ?_) <;> (try (repeat' (first | with_reducible exact Sub.refl _ | with_reducible refine Sub.of_upd (by simp [*]) ?_))))
  · repeat' (first | simp [*] | (with_reducible (refine newK_of fun _ h_ => ?_); have hn_ := free_ne h_; (try simp only [upd_none', ne_eq] at h_)) | (with_reducible (refine condK_of (fun h_ => ?_) (fun h_ => ?_))) | with_reducible (refine (c37 ..).ac ?_) | with_reducible (refine (c12 ..).ac ?_) | with_reducible (refine (c38 ..).ac ?_))
    all_goals ((try with_reducible refine And.intro ?_ ?_) <;> (try (repeat' (first | with_reducible exact Sub.refl _ | with_reducible refine Sub.of_upd (by simp [*]) ?_))))
theorem c7 (o : O) (r : R) : PC Tryz.prog 7 [.ag (oc o), .ag (rc r)] (.ag (rc (toPhys o r))) := by
  refine .tell fun H => ?_
  refine call_c follows cf7_ok (by simp) ?_
  repeat' (first | simp [*] | (with_reducible (refine newK_of fun _ h_ => ?_); have hn_ := free_ne h_; (try simp only [upd_none', ne_eq] at h_)) | (with_reducible (refine condK_of (fun h_ => ?_) (fun h_ => ?_))) | with_reducible (refine (c13 ..).ac ?_) | with_reducible (refine (c18p ..).ac ?_))
  all_goals ((try with_reducible refine And.intro ?_ ?_) <;> (try (repeat' (first | with_reducible exact Sub.refl _ | with_reducible refine Sub.of_upd (by simp [*]) ?_))))
  all_goals (simp_all [toPhys] <;> omega)
end Go.Proofs.YtohedpgoioemnaaGreatDoor
end

/-! The chapter's example; what is handed in. No conditions. -/
section
namespace Go.Proofs.YtohedpgoioemnaaGreatDoor
open Go Go.Ab Go.RowKit
set_option linter.unusedSimpArgs false
set_option linter.unusedVariables false
set_option linter.unnecessarySimpa false

attribute [local simp] condK_true condK_false condK_not wpc_skip wpc_ret wpc_exit wpc_seq wpc_reg wpc_regD testA_bool wpc_cond wpc_block thenA_normal thenA_ret thenA_exit blockA_normal blockA_ret blockA_exit blockA_other endA_normal endA_ret ev_tmp' ev_const ev_func ev_global cv_int cv_bool cv_string cv_pointer cv_slice cv_agg cv_map put_some put_none wH_s setE_apply setE_env less_eq env_cons env_nil upd_upd upd_apply del_apply startA_eq cells_ag cells_sl one_sl cells_vs one_vs cells_ep one_ep cells_fn one_fn cells_int one_int cells_bool one_bool cells_string one_string cells_pointer one_pointer cells_slice one_slice cells_map one_map cells_agg resK_one resK_nil resK_two rvK_t rvK_c rvsK_nil rvsK_cons iseq_nil iseq_cons gdA_true gdA_false gdA_undef istep_free istep_guard istepV_free istepV_guard dseq_nil dseq_pu dseq_rd dseq_ef wpc_regT dtree_nil dtree_pu dtree_rd dtree_ef dtree_br chkAll_nil chkAll_cons andK_true pickK_true pickK_false pickK_tb pickK_fb bin2K_pl eqbK_eq eqbK_ne eqpK_eq eqpK_ne eqmK_eq eqmK_ne eqzK_eq eqzK_ne eqzK_sl eqzK_vs un1K_pl convK_int fillK_some fillA_cons fillA_nil cellsK_some needK_true needK_ok seeK_ep seeK_ptr oneK_agg oneK_one nilcK_ptr nilcK_ep fadrK_ptr fadrK_ep fldK_ag iadAK_ptr iadAK_ep iadSK_sl iadSK_vs extK_0 extK_1 extK_2 extK_3 lenK_pl lenK_sl lenK_vs lensK_pl boxK_some minmax1K_int storeK_ptr callvK_fn callvK_pl newsK_nil newsK_vs newsK_sl appK_nil appK_nil0 appK_sl appK_vs bnd1K_int bndK_none bndK_some slsK_vs slsK_nil slsK_sl0 slsK_sl slstrK_pl boolK_some eqsK_ag iop_eqs iop_sls iop_slstr seesK_some seesK_ro mapsK_some MAP_some findK_some findK_none plK_pl nmapK_none nmapK_some iop_mlook iop_mlen iop_mmk iop_mupd iop_mdel iop_mrng itK_none itK_some ptr0K_ptr iop_mnxt iop_ment it1K_some entK_some iop_mov iop_pick iop_bin iop_eqb iop_eqp iop_eqm iop_eqz iop_un capK_pl capK_sl capK_vs iop_cap apzK_nil iop_apz mksK_int iop_mks clrK_sl clrK_vs clrK_nil iop_clr iop_conv iop_build iop_load iop_nilc iop_fadr iop_fld iop_iadA iop_iadS iop_ext iop_mkf iop_len iop_lens iop_minmax iop_al iop_box iop_bsl iop_store iop_call iop_callv iop_app BIN_add BIN_sub BIN_mul BIN_and BIN_or BIN_xor BIN_andNot BIN_eql BIN_neq BIN_lss BIN_leq BIN_gtr BIN_geq BIN_quo BIN_rem BIN_shl BIN_shr BIN_sadd BIN_seql BIN_sneq BIN_slss BIN_sleq BIN_sgtr BIN_sgeq UN_neg UN_xor UN_not MM_nil MM_cons partsA argsA ptrA lessL eqL min2I slotN_int slotP_int slotI_int
attribute [local simp] rc_len rc_t4 rc_t1 rc_t2 rc_t3 rc_d1 rc_d2 rc_d3 rc_d4 rc_ag rc_one rc_eq pc_len pc_t1 pc_t2 pc_d1 pc_d2 pc_ag pc_one oc_len oc_tt oc_dd oc_one oc_ag oc_t1 oc_t2 oc_t3 oc_t4 oc_t5 oc_t6 oc_t7 oc_d1 oc_d2 oc_d3 oc_d4 oc_d5 oc_d6 oc_d7 min2_t min2_f

def exO : O := ⟨⟨#[97]⟩, 8, 4, 60000, 2, 1, 10, 0⟩
theorem exO_chk : chk exO = 0 := by kernel_rfl
theorem exO_lg : lg exO = ⟨10, 0, 12, 4⟩ := by kernel_rfl
theorem exO_tp : toPhys exO ⟨10, 0, 11, 1⟩ = ⟨0, 2, 2, 4⟩ := by kernel_rfl
theorem exO_itv : itv exO = 16666667 := by kernel_rfl
theorem exO_eq : (⟨⟨#[97]⟩, 8, 4, 60000, 2, 1, 10, 0⟩ : O) = exO := rfl
theorem req_refl (r : R) : req r r = true := by simp [req]
theorem c4 : PC Tryz.prog 4 [] (vb true) := by
  refine .tell fun H => ?_
  refine call_c follows cf4_ok (by simp) ?_
  repeat' (first | simp [*, exO_eq, exO_chk, exO_lg, exO_tp, exO_itv, req_refl] | (with_reducible (refine newK_of fun _ h_ => ?_); have hn_ := free_ne h_; (try simp only [upd_none', ne_eq] at h_)) | (with_reducible (refine condK_of (fun h_ => ?_) (fun h_ => ?_))) | with_reducible (refine (c12 ..).ac ?_) | with_reducible (refine (c13 ..).ac ?_) | with_reducible (refine (c7 ..).ac ?_) | with_reducible (refine (c14 ..).ac ?_))
  all_goals ((try with_reducible refine And.intro ?_ ?_) <;> (try (repeat' (first | with_reducible exact Sub.refl _ | with_reducible refine Sub.of_upd (by simp [*]) ?_))))
abbrev oL : List Lf := [.s, .i .i64, .i .i64, .i .i64, .i .i64, .i .i64, .i .i64, .i .i64]
def i64r (n : Int) : Prop := -9223372036854775808 ≤ n ∧ n ≤ 9223372036854775807
def okO (o : O) : Prop := i64r o.w ∧ i64r o.h ∧ i64r o.rf ∧ i64r o.sc ∧ i64r o.tr ∧ i64r o.x ∧ i64r o.y
theorem i64r_of {n : Int} (h : (Lit.int .i64 n).wf = true) : i64r n := by
  simp [Lit.wf, IntKind.min, IntKind.max, IntKind.bits, IntKind.signed] at h
  unfold i64r; omega
theorem fitO {a : AV} (h : FitT true oL a) : ∃ o : O, a = .ag (oc o) ∧ okO o := by
  obtain ⟨cs, rfl, h⟩ := h
  obtain ⟨_, _, rfl, h0, h⟩ := h.cons_inv
  obtain ⟨_, _, rfl, h1, h⟩ := h.cons_inv
  obtain ⟨_, _, rfl, h2, h⟩ := h.cons_inv
  obtain ⟨_, _, rfl, h3, h⟩ := h.cons_inv
  obtain ⟨_, _, rfl, h4, h⟩ := h.cons_inv
  obtain ⟨_, _, rfl, h5, h⟩ := h.cons_inv
  obtain ⟨_, _, rfl, h6, h⟩ := h.cons_inv
  obtain ⟨_, _, rfl, h7, h⟩ := h.cons_inv
  obtain rfl := h.nil_inv
  obtain ⟨_, rfl, _⟩ := h0.s_inv
  obtain ⟨_, rfl, g1⟩ := h1.i_inv
  obtain ⟨_, rfl, g2⟩ := h2.i_inv
  obtain ⟨_, rfl, g3⟩ := h3.i_inv
  obtain ⟨_, rfl, g4⟩ := h4.i_inv
  obtain ⟨_, rfl, g5⟩ := h5.i_inv
  obtain ⟨_, rfl, g6⟩ := h6.i_inv
  obtain ⟨_, rfl, g7⟩ := h7.i_inv
  exact ⟨⟨_, _, _, _, _, _, _, _⟩, rfl, i64r_of g1, i64r_of g2, i64r_of g3, i64r_of g4, i64r_of g5, i64r_of g6, i64r_of g7⟩
abbrev rL : List Lf := [.i .i64, .i .i64, .i .i64, .i .i64]
theorem fitR {a : AV} (h : FitT true rL a) : ∃ r : R, a = .ag (rc r) := by
  obtain ⟨cs, rfl, h⟩ := h
  obtain ⟨_, _, rfl, h0, h⟩ := h.cons_inv
  obtain ⟨_, _, rfl, h1, h⟩ := h.cons_inv
  obtain ⟨_, _, rfl, h2, h⟩ := h.cons_inv
  obtain ⟨_, _, rfl, h3, h⟩ := h.cons_inv
  obtain rfl := h.nil_inv
  obtain ⟨_, rfl, _⟩ := h0.i_inv
  obtain ⟨_, rfl, _⟩ := h1.i_inv
  obtain ⟨_, rfl, _⟩ := h2.i_inv
  obtain ⟨_, rfl, _⟩ := h3.i_inv
  exact ⟨⟨_, _, _, _⟩, rfl⟩
end Go.Proofs.YtohedpgoioemnaaGreatDoor
end

/-! From physical to logical rectangles; the transform that undoes another one, off the table of products. Conditions: as each lemma states them. -/
section
namespace Go.Proofs.YtohedpgoioemnaaGreatDoor
open Go Go.Ab Go.RowKit
set_option linter.unusedSimpArgs false
set_option linter.unusedVariables false
set_option linter.unnecessarySimpa false

attribute [local simp] condK_true condK_false condK_not wpc_skip wpc_ret wpc_exit wpc_seq wpc_reg wpc_regD testA_bool wpc_cond wpc_block thenA_normal thenA_ret thenA_exit blockA_normal blockA_ret blockA_exit blockA_other endA_normal endA_ret ev_tmp' ev_const ev_func ev_global cv_int cv_bool cv_string cv_pointer cv_slice cv_agg cv_map put_some put_none wH_s setE_apply setE_env less_eq env_cons env_nil upd_upd upd_apply del_apply startA_eq cells_ag cells_sl one_sl cells_vs one_vs cells_ep one_ep cells_fn one_fn cells_int one_int cells_bool one_bool cells_string one_string cells_pointer one_pointer cells_slice one_slice cells_map one_map cells_agg resK_one resK_nil resK_two rvK_t rvK_c rvsK_nil rvsK_cons iseq_nil iseq_cons gdA_true gdA_false gdA_undef istep_free istep_guard istepV_free istepV_guard dseq_nil dseq_pu dseq_rd dseq_ef wpc_regT dtree_nil dtree_pu dtree_rd dtree_ef dtree_br chkAll_nil chkAll_cons andK_true pickK_true pickK_false pickK_tb pickK_fb bin2K_pl eqbK_eq eqbK_ne eqpK_eq eqpK_ne eqmK_eq eqmK_ne eqzK_eq eqzK_ne eqzK_sl eqzK_vs un1K_pl convK_int fillK_some fillA_cons fillA_nil cellsK_some needK_true needK_ok seeK_ep seeK_ptr oneK_agg oneK_one nilcK_ptr nilcK_ep fadrK_ptr fadrK_ep fldK_ag iadAK_ptr iadAK_ep iadSK_sl iadSK_vs extK_0 extK_1 extK_2 extK_3 lenK_pl lenK_sl lenK_vs lensK_pl boxK_some minmax1K_int storeK_ptr callvK_fn callvK_pl newsK_nil newsK_vs newsK_sl appK_nil appK_nil0 appK_sl appK_vs bnd1K_int bndK_none bndK_some slsK_vs slsK_nil slsK_sl0 slsK_sl slstrK_pl boolK_some eqsK_ag iop_eqs iop_sls iop_slstr seesK_some seesK_ro mapsK_some MAP_some findK_some findK_none plK_pl nmapK_none nmapK_some iop_mlook iop_mlen iop_mmk iop_mupd iop_mdel iop_mrng itK_none itK_some ptr0K_ptr iop_mnxt iop_ment it1K_some entK_some iop_mov iop_pick iop_bin iop_eqb iop_eqp iop_eqm iop_eqz iop_un capK_pl capK_sl capK_vs iop_cap apzK_nil iop_apz mksK_int iop_mks clrK_sl clrK_vs clrK_nil iop_clr iop_conv iop_build iop_load iop_nilc iop_fadr iop_fld iop_iadA iop_iadS iop_ext iop_mkf iop_len iop_lens iop_minmax iop_al iop_box iop_bsl iop_store iop_call iop_callv iop_app BIN_add BIN_sub BIN_mul BIN_and BIN_or BIN_xor BIN_andNot BIN_eql BIN_neq BIN_lss BIN_leq BIN_gtr BIN_geq BIN_quo BIN_rem BIN_shl BIN_shr BIN_sadd BIN_seql BIN_sneq BIN_slss BIN_sleq BIN_sgtr BIN_sgeq UN_neg UN_xor UN_not MM_nil MM_cons partsA argsA ptrA lessL eqL min2I slotN_int slotP_int slotI_int
attribute [local simp] rc_len rc_t4 rc_t1 rc_t2 rc_t3 rc_d1 rc_d2 rc_d3 rc_d4 rc_ag rc_one rc_eq pc_len pc_t1 pc_t2 pc_d1 pc_d2 pc_ag pc_one oc_len oc_tt oc_dd oc_one oc_ag oc_t1 oc_t2 oc_t3 oc_t4 oc_t5 oc_t6 oc_t7 oc_d1 oc_d2 oc_d3 oc_d4 oc_d5 oc_d6 oc_d7 min2_t min2_f

def invT (t : Int) : Int := if nrm t = 1 then 3 else if nrm t = 3 then 1 else nrm t
def prodT : List Int := [0, 1, 2, 3, 4, 5, 6, 7, 1, 2, 3, 0, 7, 4, 5, 6, 2, 3, 0, 1, 6, 7, 4, 5, 3, 0, 1, 2, 5, 6, 7, 4, 4, 5, 6, 7, 0, 1, 2, 3, 5, 6, 7, 4, 3, 0, 1, 2, 6, 7, 4, 5, 2, 3, 0, 1, 7, 4, 5, 6, 1, 2, 3, 0]
def prodC : List AV := prodT.map vi
/-- The table of products in its place. -/
def Tab (H : AH) : Prop := H 0 = some (.ro prodC)
theorem prodC_len : prodC.length = 64 := by rfl
theorem prod_at (j : Nat) (h : j < 64) : (prodC.drop j).take 1 = [vi (prodT.getD j 0)] := by
  have : ∀ j : Fin 64, (prodT.drop j.1).take 1 = [prodT.getD j.1 0] := by decide +kernel
  unfold prodC
  rw [← List.map_drop, ← List.map_take, this ⟨j, h⟩]
  rfl
abbrev Tb := Ro 0 prodC
abbrev PT := PR 0 prodC
theorem prod_inv (n u : Int) (hn : 0 ≤ n ∧ n ≤ 7) (hu : 0 ≤ u ∧ u ≤ 7) : (prodT.getD (8 * n + u).toNat 0 = 0) ↔ u = (if n = 1 then 3 else if n = 3 then 1 else n) := by
  have : ∀ a b : Fin 8, (prodT.getD (8 * (a.1 : Int) + (b.1 : Int)).toNat 0 = 0) ↔ (b.1 : Int) = (if (a.1 : Int) = 1 then 3 else if (a.1 : Int) = 3 then 1 else (a.1 : Int)) := by decide +kernel
  have := this ⟨n.toNat, by omega⟩ ⟨u.toNat, by omega⟩
  simp only at this
  rwa [Int.toNat_of_nonneg hn.1, Int.toNat_of_nonneg hu.1] at this
theorem c48 (t : Int) : PT Tryz.prog 48 [vi t] (vi (invT t)) := by
  have hn := nrm_rng t
  refine .tell fun H hT => ?_
  refine call_c follows cf48_ok (by simp) ?_
  repeat' (first | simp [*] | (with_reducible (refine newK_of fun _ h_ => ?_); have hn_ := free_ne h_; (try simp only [upd_none', ne_eq] at h_)) | (with_reducible (refine condK_of (fun h_ => ?_) (fun h_ => ?_))) | with_reducible (refine (c59 ..).ac ?_))
  refine wpc_loop (fun s => s.n = 18 ∧ s.H = H ∧ s.t 0 = vi (nrm t) ∧ ∃ u : Int, s.t 6 = vi u ∧ 0 ≤ u ∧ u ≤ invT t) (fun s => (8 - slotI (s.t 6)).toNat) ?_ ?_
  · refine FgK.same ?_
    simp [invT]; repeat' split
    all_goals omega
  rintro s ⟨hsn, hsH, h0, u, h6, hu1, hu2⟩
  have hi : invT t ≤ 7 := by unfold invT; repeat' split
                             all_goals omega
  have hu3 : u < 8 := by omega
  have hq := prod_inv (nrm t) u hn ⟨hu1, by omega⟩
  have e1 : IntKind.i64.wrap (8 * nrm t) = 8 * nrm t := IntWalk.i64_in _ (by omega)
  have e2 : IntKind.i64.wrap (8 * nrm t + u) = 8 * nrm t + u := IntWalk.i64_in _ (by omega)
  have e3 : IntKind.i64.wrap (u + 1) = u + 1 := IntWalk.i64_in _ (by omega)
  have e4 : 0 ≤ 8 * nrm t + u ∧ 8 * nrm t + u < 64 := by omega
  have e5 : (8 * nrm t + u).toNat + 1 ≤ 64 := by omega
  have e6 := prod_at (8 * nrm t + u).toNat (by omega)
  have e7 : H 0 = some (.ro prodC) := hT
  have hq' : prodT.getD (8 * nrm t + u).toNat 0 = 0 ↔ u = invT t := hq
  clear hq
  simp only [List.getD_eq_getElem?_getD] at e6 hq'
  by_cases hx : u = invT t
  · simp only [hx, iff_true] at hq'
    subst hx
    simp [*, prodC_len]
    exact Sub.refl _
  · simp only [hx, iff_false] at hq'
    simp [*, prodC_len]
    exact FgK.same ⟨⟨by simp [*], by simp [*], by simp [*], u + 1, by simp [*], by omega, by omega⟩, by simp [*]; omega⟩
end Go.Proofs.YtohedpgoioemnaaGreatDoor
end

/-! How the eight transforms move rectangles: plain facts. Conditions: as each lemma states them. -/
section
namespace Go.Proofs.YtohedpgoioemnaaGreatDoor
open Go Go.Ab Go.RowKit
set_option linter.unusedSimpArgs false
set_option linter.unusedVariables false
set_option linter.unnecessarySimpa false

attribute [local simp] condK_true condK_false condK_not wpc_skip wpc_ret wpc_exit wpc_seq wpc_reg wpc_regD testA_bool wpc_cond wpc_block thenA_normal thenA_ret thenA_exit blockA_normal blockA_ret blockA_exit blockA_other endA_normal endA_ret ev_tmp' ev_const ev_func ev_global cv_int cv_bool cv_string cv_pointer cv_slice cv_agg cv_map put_some put_none wH_s setE_apply setE_env less_eq env_cons env_nil upd_upd upd_apply del_apply startA_eq cells_ag cells_sl one_sl cells_vs one_vs cells_ep one_ep cells_fn one_fn cells_int one_int cells_bool one_bool cells_string one_string cells_pointer one_pointer cells_slice one_slice cells_map one_map cells_agg resK_one resK_nil resK_two rvK_t rvK_c rvsK_nil rvsK_cons iseq_nil iseq_cons gdA_true gdA_false gdA_undef istep_free istep_guard istepV_free istepV_guard dseq_nil dseq_pu dseq_rd dseq_ef wpc_regT dtree_nil dtree_pu dtree_rd dtree_ef dtree_br chkAll_nil chkAll_cons andK_true pickK_true pickK_false pickK_tb pickK_fb bin2K_pl eqbK_eq eqbK_ne eqpK_eq eqpK_ne eqmK_eq eqmK_ne eqzK_eq eqzK_ne eqzK_sl eqzK_vs un1K_pl convK_int fillK_some fillA_cons fillA_nil cellsK_some needK_true needK_ok seeK_ep seeK_ptr oneK_agg oneK_one nilcK_ptr nilcK_ep fadrK_ptr fadrK_ep fldK_ag iadAK_ptr iadAK_ep iadSK_sl iadSK_vs extK_0 extK_1 extK_2 extK_3 lenK_pl lenK_sl lenK_vs lensK_pl boxK_some minmax1K_int storeK_ptr callvK_fn callvK_pl newsK_nil newsK_vs newsK_sl appK_nil appK_nil0 appK_sl appK_vs bnd1K_int bndK_none bndK_some slsK_vs slsK_nil slsK_sl0 slsK_sl slstrK_pl boolK_some eqsK_ag iop_eqs iop_sls iop_slstr seesK_some seesK_ro mapsK_some MAP_some findK_some findK_none plK_pl nmapK_none nmapK_some iop_mlook iop_mlen iop_mmk iop_mupd iop_mdel iop_mrng itK_none itK_some ptr0K_ptr iop_mnxt iop_ment it1K_some entK_some iop_mov iop_pick iop_bin iop_eqb iop_eqp iop_eqm iop_eqz iop_un capK_pl capK_sl capK_vs iop_cap apzK_nil iop_apz mksK_int iop_mks clrK_sl clrK_vs clrK_nil iop_clr iop_conv iop_build iop_load iop_nilc iop_fadr iop_fld iop_iadA iop_iadS iop_ext iop_mkf iop_len iop_lens iop_minmax iop_al iop_box iop_bsl iop_store iop_call iop_callv iop_app BIN_add BIN_sub BIN_mul BIN_and BIN_or BIN_xor BIN_andNot BIN_eql BIN_neq BIN_lss BIN_leq BIN_gtr BIN_geq BIN_quo BIN_rem BIN_shl BIN_shr BIN_sadd BIN_seql BIN_sneq BIN_slss BIN_sleq BIN_sgtr BIN_sgeq UN_neg UN_xor UN_not MM_nil MM_cons partsA argsA ptrA lessL eqL min2I slotN_int slotP_int slotI_int

theorem rcap_ne (a b : R) (h : rempty (rcap a b) = false) : rcap a b = ⟨max a.x0 b.x0, max a.y0 b.y0, min a.x1 b.x1, min a.y1 b.y1⟩ ∧ rempty a = false ∧ rempty b = false := by
  unfold rcap at h ⊢
  cases ha : rempty a with
  | true => simp [ha, rempty_zero] at h
  | false =>
    cases hb : rempty b with
    | true => simp [ha, hb, rempty_zero] at h
    | false =>
      simp [ha, hb] at h ⊢
      unfold rcan at h ⊢
      split
      · rename_i e; simp [e, rempty_zero] at h
      · rfl
theorem rcap_in (a b : R) (ha : rempty a = false) (hb : rempty b = false) (h : b.x0 ≤ a.x0 ∧ a.x1 ≤ b.x1 ∧ b.y0 ≤ a.y0 ∧ a.y1 ≤ b.y1) : rcap a b = a := by
  have e : (⟨max a.x0 b.x0, max a.y0 b.y0, min a.x1 b.x1, min a.y1 b.y1⟩ : R) = a := by
    cases a; simp at h ⊢; omega
  unfold rcap
  simp [ha, hb, e, rcan]
theorem rin_iff (a b : R) (ha : rempty a = false) : rin a b = true ↔ rempty b = false ∧ b.x0 ≤ a.x0 ∧ a.x1 ≤ b.x1 ∧ b.y0 ≤ a.y0 ∧ a.y1 ≤ b.y1 := by
  have e : rcan a = a := by simp [rcan, ha]
  unfold rin
  rw [req_iff, e]
  constructor
  · intro h
    have h2 := h ▸ ha
    obtain ⟨h3, _, h4⟩ := rcap_ne a b h2
    rw [h3] at h
    have h5 := congrArg R.x0 h
    have h6 := congrArg R.x1 h
    have h7 := congrArg R.y0 h
    have h8 := congrArg R.y1 h
    simp at h5 h6 h7 h8
    exact ⟨h4, by omega, by omega, by omega, by omega⟩
  · rintro ⟨h1, h2⟩
    exact (rcap_in a b ha h1 h2).symm
/-- Where a transform leaves a rectangle of an image of w by h. -/
def tr8 (t w h : Int) (r : R) : R :=
  if t = 0 then r else if t = 1 then ⟨r.y0, w - r.x1, r.y1, w - r.x0⟩ else if t = 2 then ⟨w - r.x1, h - r.y1, w - r.x0, h - r.y0⟩
  else if t = 3 then ⟨h - r.y1, r.x0, h - r.y0, r.x1⟩ else if t = 4 then ⟨w - r.x1, r.y0, w - r.x0, r.y1⟩ else if t = 5 then ⟨r.y0, r.x0, r.y1, r.x1⟩
  else if t = 6 then ⟨r.x0, h - r.y1, r.x1, h - r.y0⟩ else ⟨h - r.y1, w - r.x1, h - r.y0, w - r.x0⟩
theorem t8 (t : Int) (h : 0 ≤ t ∧ t ≤ 7) : t = 0 ∨ t = 1 ∨ t = 2 ∨ t = 3 ∨ t = 4 ∨ t = 5 ∨ t = 6 ∨ t = 7 := by omega
theorem tbox_eq (t w h : Int) (r : R) (ht : 0 ≤ t ∧ t ≤ 7) (hr : r.x0 < r.x1 ∧ r.y0 < r.y1) : tbox (tap t w h (ptx r)) (tap t w h (pty r)) = tr8 t w h r := by
  rcases t8 t ht with rfl | rfl | rfl | rfl | rfl | rfl | rfl | rfl <;> simp [tap, tapF, tbox, ptx, pty, tr8] <;> (first | (cases r; simp at hr ⊢; omega) | omega)
theorem odd_iff (t : Int) (h : 0 ≤ t ∧ t ≤ 7) : odd t = decide (t = 1 ∨ t = 3 ∨ t = 5 ∨ t = 7) := by
  have e : nrm t = t := by simp [nrm, okt]; omega
  unfold odd
  rw [e]
  rcases t8 t h with rfl | rfl | rfl | rfl | rfl | rfl | rfl | rfl <;> decide
theorem trect_eq (t w h : Int) (r : R) (ht : 0 ≤ t ∧ t ≤ 7) (hb : inb w h = true) (hr : rempty r = false) (hin : 0 ≤ r.x0 ∧ r.x1 ≤ w ∧ 0 ≤ r.y0 ∧ r.y1 ≤ h) : trect t w h r = tr8 t w h r := by
  have hr' := rempty_ok r hr
  have e : nrm t = t := by simp [nrm, okt]; omega
  have hb' : (1 ≤ w ∧ w ≤ 16384) ∧ 1 ≤ h ∧ h ≤ 16384 := by simp [inb] at hb; omega
  have e2 : rcap r ⟨0, 0, w, h⟩ = r := rcap_in _ _ hr (rempty_of _ (by simp; omega)) (by simp; omega)
  unfold trect
  simp only [hb, e2, hr, e, if_true, Bool.false_eq_true, if_false]
  exact tbox_eq t w h r ht ⟨by omega, by omega⟩
theorem tr8_in (t w h : Int) (r : R) (ht : 0 ≤ t ∧ t ≤ 7) (hr : 0 ≤ r.x0 ∧ r.x0 < r.x1 ∧ r.x1 ≤ w ∧ 0 ≤ r.y0 ∧ r.y0 < r.y1 ∧ r.y1 ≤ h) :
    0 ≤ (tr8 t w h r).x0 ∧ (tr8 t w h r).x0 < (tr8 t w h r).x1 ∧ (tr8 t w h r).x1 ≤ (swp t w h).1 ∧ 0 ≤ (tr8 t w h r).y0 ∧ (tr8 t w h r).y0 < (tr8 t w h r).y1 ∧ (tr8 t w h r).y1 ≤ (swp t w h).2 := by
  unfold swp
  rw [odd_iff t ht]
  rcases t8 t ht with rfl | rfl | rfl | rfl | rfl | rfl | rfl | rfl <;> simp [tr8] <;> omega
theorem invT_eq (t : Int) (ht : 0 ≤ t ∧ t ≤ 7) : invT t = (if t = 1 then 3 else if t = 3 then 1 else t) := by
  have e : nrm t = t := by simp [nrm, okt]; omega
  rw [invT, e]
theorem invT_rng (t : Int) (ht : 0 ≤ t ∧ t ≤ 7) : 0 ≤ invT t ∧ invT t ≤ 7 := by
  rw [invT_eq t ht]; repeat' split
  all_goals omega
theorem swp_swp (t w h : Int) : swp t (swp t w h).1 (swp t w h).2 = (w, h) := by
  unfold swp; split <;> simp_all
theorem swp_inv (t w h : Int) (ht : 0 ≤ t ∧ t ≤ 7) : swp (invT t) w h = swp t w h := by
  unfold swp
  rw [odd_iff t ht, odd_iff _ (invT_rng t ht), invT_eq t ht]
  rcases t8 t ht with rfl | rfl | rfl | rfl | rfl | rfl | rfl | rfl <;> simp
/-- Back, and forth. -/
theorem tr8_back (t w h : Int) (r : R) (ht : 0 ≤ t ∧ t ≤ 7) : tr8 (invT t) (swp t w h).1 (swp t w h).2 (tr8 t w h r) = r := by
  unfold swp
  rw [odd_iff t ht, invT_eq t ht]
  rcases t8 t ht with rfl | rfl | rfl | rfl | rfl | rfl | rfl | rfl <;> cases r <;> simp [tr8] <;> omega
theorem tr8_forth (t w h : Int) (r : R) (ht : 0 ≤ t ∧ t ≤ 7) : tr8 t (swp t w h).1 (swp t w h).2 (tr8 (invT t) w h r) = r := by
  unfold swp
  rw [odd_iff t ht, invT_eq t ht]
  rcases t8 t ht with rfl | rfl | rfl | rfl | rfl | rfl | rfl | rfl <;> cases r <;> simp [tr8] <;> omega
/-- Within stays within, both ways. -/
theorem tr8_mono (t w h : Int) (a b : R) (ht : 0 ≤ t ∧ t ≤ 7) :
    ((tr8 t w h b).x0 ≤ (tr8 t w h a).x0 ∧ (tr8 t w h a).x1 ≤ (tr8 t w h b).x1 ∧ (tr8 t w h b).y0 ≤ (tr8 t w h a).y0 ∧ (tr8 t w h a).y1 ≤ (tr8 t w h b).y1) ↔ (b.x0 ≤ a.x0 ∧ a.x1 ≤ b.x1 ∧ b.y0 ≤ a.y0 ∧ a.y1 ≤ b.y1) := by
  rcases t8 t ht with rfl | rfl | rfl | rfl | rfl | rfl | rfl | rfl <;> simp [tr8] <;> omega
theorem tr8_area (t w h : Int) (r : R) (ht : 0 ≤ t ∧ t ≤ 7) : ((tr8 t w h r).x1 - (tr8 t w h r).x0) * ((tr8 t w h r).y1 - (tr8 t w h r).y0) = (r.x1 - r.x0) * (r.y1 - r.y0) := by
  have c : (r.y1 - r.y0) * (r.x1 - r.x0) = (r.x1 - r.x0) * (r.y1 - r.y0) := Int.mul_comm _ _
  have e1 : w - r.x0 - (w - r.x1) = r.x1 - r.x0 := by omega
  have e2 : h - r.y0 - (h - r.y1) = r.y1 - r.y0 := by omega
  rcases t8 t ht with rfl | rfl | rfl | rfl | rfl | rfl | rfl | rfl <;> simp [tr8, e1, e2, c]
end Go.Proofs.YtohedpgoioemnaaGreatDoor
end

/-! From physical to logical rectangles: what the program computes. Conditions: as each lemma states them. -/
section
namespace Go.Proofs.YtohedpgoioemnaaGreatDoor
open Go Go.Ab Go.RowKit
set_option linter.unusedSimpArgs false
set_option linter.unusedVariables false
set_option linter.unnecessarySimpa false

attribute [local simp] condK_true condK_false condK_not wpc_skip wpc_ret wpc_exit wpc_seq wpc_reg wpc_regD testA_bool wpc_cond wpc_block thenA_normal thenA_ret thenA_exit blockA_normal blockA_ret blockA_exit blockA_other endA_normal endA_ret ev_tmp' ev_const ev_func ev_global cv_int cv_bool cv_string cv_pointer cv_slice cv_agg cv_map put_some put_none wH_s setE_apply setE_env less_eq env_cons env_nil upd_upd upd_apply del_apply startA_eq cells_ag cells_sl one_sl cells_vs one_vs cells_ep one_ep cells_fn one_fn cells_int one_int cells_bool one_bool cells_string one_string cells_pointer one_pointer cells_slice one_slice cells_map one_map cells_agg resK_one resK_nil resK_two rvK_t rvK_c rvsK_nil rvsK_cons iseq_nil iseq_cons gdA_true gdA_false gdA_undef istep_free istep_guard istepV_free istepV_guard dseq_nil dseq_pu dseq_rd dseq_ef wpc_regT dtree_nil dtree_pu dtree_rd dtree_ef dtree_br chkAll_nil chkAll_cons andK_true pickK_true pickK_false pickK_tb pickK_fb bin2K_pl eqbK_eq eqbK_ne eqpK_eq eqpK_ne eqmK_eq eqmK_ne eqzK_eq eqzK_ne eqzK_sl eqzK_vs un1K_pl convK_int fillK_some fillA_cons fillA_nil cellsK_some needK_true needK_ok seeK_ep seeK_ptr oneK_agg oneK_one nilcK_ptr nilcK_ep fadrK_ptr fadrK_ep fldK_ag iadAK_ptr iadAK_ep iadSK_sl iadSK_vs extK_0 extK_1 extK_2 extK_3 lenK_pl lenK_sl lenK_vs lensK_pl boxK_some minmax1K_int storeK_ptr callvK_fn callvK_pl newsK_nil newsK_vs newsK_sl appK_nil appK_nil0 appK_sl appK_vs bnd1K_int bndK_none bndK_some slsK_vs slsK_nil slsK_sl0 slsK_sl slstrK_pl boolK_some eqsK_ag iop_eqs iop_sls iop_slstr seesK_some seesK_ro mapsK_some MAP_some findK_some findK_none plK_pl nmapK_none nmapK_some iop_mlook iop_mlen iop_mmk iop_mupd iop_mdel iop_mrng itK_none itK_some ptr0K_ptr iop_mnxt iop_ment it1K_some entK_some iop_mov iop_pick iop_bin iop_eqb iop_eqp iop_eqm iop_eqz iop_un capK_pl capK_sl capK_vs iop_cap apzK_nil iop_apz mksK_int iop_mks clrK_sl clrK_vs clrK_nil iop_clr iop_conv iop_build iop_load iop_nilc iop_fadr iop_fld iop_iadA iop_iadS iop_ext iop_mkf iop_len iop_lens iop_minmax iop_al iop_box iop_bsl iop_store iop_call iop_callv iop_app BIN_add BIN_sub BIN_mul BIN_and BIN_or BIN_xor BIN_andNot BIN_eql BIN_neq BIN_lss BIN_leq BIN_gtr BIN_geq BIN_quo BIN_rem BIN_shl BIN_shr BIN_sadd BIN_seql BIN_sneq BIN_slss BIN_sleq BIN_sgtr BIN_sgeq UN_neg UN_xor UN_not MM_nil MM_cons partsA argsA ptrA lessL eqL min2I slotN_int slotP_int slotI_int
attribute [local simp] rc_len rc_t4 rc_t1 rc_t2 rc_t3 rc_d1 rc_d2 rc_d3 rc_d4 rc_ag rc_one rc_eq pc_len pc_t1 pc_t2 pc_d1 pc_d2 pc_ag pc_one oc_len oc_tt oc_dd oc_one oc_ag oc_t1 oc_t2 oc_t3 oc_t4 oc_t5 oc_t6 oc_t7 oc_d1 oc_d2 oc_d3 oc_d4 oc_d5 oc_d6 oc_d7 min2_t min2_f

def small4 (o : O) (r : R) : R := ⟨r.x0 / o.sc + o.x, r.y0 / o.sc + o.y, (r.x1 + o.sc - 1) / o.sc + o.x, (r.y1 + o.sc - 1) / o.sc + o.y⟩
def logi (o : O) (r : R) : R := small4 o (trect (invT o.tr) o.w o.h r)
theorem chk_dims (o : O) (h : chk o = 0) : (0 ≤ o.tr ∧ o.tr ≤ 7) ∧ (1 ≤ o.sc ∧ o.sc ≤ 4) ∧ (1 ≤ o.w ∧ o.w ≤ 256) ∧ (1 ≤ o.h ∧ o.h ≤ 256) ∧ o.w % o.sc = 0 ∧ o.h % o.sc = 0 ∧ (-16384 ≤ o.x ∧ o.x ≤ 16384) ∧ (-16384 ≤ o.y ∧ o.y ≤ 16384) := by
  obtain ⟨h0, h1, h2, h3, h4, h5, h6, h7, h8, h9, h10⟩ := chk_parts o h
  simp [okt] at h1
  simp [lenok] at h4 h5
  simp [okc] at h8 h9
  have e1 : o.w.tmod o.sc = o.w % o.sc := Int.tmod_eq_emod_of_nonneg (by omega)
  have e2 : o.h.tmod o.sc = o.h % o.sc := Int.tmod_eq_emod_of_nonneg (by omega)
  omega
theorem div_small (a k : Int) (ha : 0 ≤ a ∧ a ≤ 40000) (hk : 1 ≤ k ∧ k ≤ 4) : IntKind.i64.wrap (a.tdiv k) = a / k ∧ 0 ≤ a / k ∧ a / k ≤ 40000 := by
  have e : a.tdiv k = a / k := Int.tdiv_eq_ediv_of_nonneg ha.1
  have g1 : 0 ≤ a / k := Int.ediv_nonneg ha.1 (by omega)
  have g2 : a / k ≤ a := Int.ediv_le_self _ ha.1
  exact ⟨by rw [e, IntWalk.i64_in _ (by omega)], g1, by omega⟩
theorem c24 (o : O) (r : R) (hc : chk o = 0) (hr : rempty r = false) (hin : 0 ≤ r.x0 ∧ r.x1 ≤ o.w ∧ 0 ≤ r.y0 ∧ r.y1 ≤ o.h) : PT Tryz.prog 24 [.ag (oc o), .ag (rc r)] (.ag (rc (logi o r))) := by
  obtain ⟨ht, hk, hw, hh, hwk, hhk, hx, hy⟩ := chk_dims o hc
  have hr' := rempty_ok r hr
  have hT := trect_eq (invT o.tr) o.w o.h r (invT_rng _ ht) (by simp [inb]; omega) hr hin
  have hI := tr8_in (invT o.tr) o.w o.h r (invT_rng _ ht) (by omega)
  rw [← hT] at hI
  have hs : (swp (invT o.tr) o.w o.h).1 ≤ 256 ∧ (swp (invT o.tr) o.w o.h).2 ≤ 256 := by unfold swp; split <;> simp <;> omega
  have hL : logi o r = small4 o (trect (invT o.tr) o.w o.h r) := rfl
  rw [hL]
  clear hT
  generalize hq : trect (invT o.tr) o.w o.h r = q at hI
  have d0 := div_small q.x0 o.sc (by omega) hk
  have d1 := div_small q.y0 o.sc (by omega) hk
  have d2 := div_small (q.x1 + o.sc - 1) o.sc (by omega) hk
  have d3 := div_small (q.y1 + o.sc - 1) o.sc (by omega) hk
  have k0 : o.sc ≠ 0 := by omega
  refine .tell fun H hTb => ?_
  refine call_c follows cf24_ok (by simp) ?_
  repeat' (first | simp [*] | (with_reducible (refine newK_of fun _ h_ => ?_); have hn_ := free_ne h_; (try simp only [upd_none', ne_eq] at h_)) | (with_reducible (refine condK_of (fun h_ => ?_) (fun h_ => ?_))) | (with_reducible refine (c48 ..).ac ?_ ?_; · (repeat' (first | assumption | (refine Ro.upd (by assumption) (by simp [*]) ?_)))) | with_reducible (refine (c40 ..).ac ?_) | simp (disch := omega) [*, IntWalk.i64_in])
  all_goals ((try with_reducible refine And.intro ?_ ?_) <;> (try (repeat' (first | with_reducible exact Sub.refl _ | with_reducible refine Sub.of_upd (by simp [*]) ?_))))
  all_goals simp [small4]
theorem good25 : goodCallee Tryz.prog 24 = true := by kernel_rfl
def imgO (o : O) : R := ⟨0, 0, o.w, o.h⟩
def toLog (o : O) (r : R) : R := if chk o = 0 then (if rempty (rcap r (imgO o)) then ⟨0, 0, 0, 0⟩ else logi o (rcap r (imgO o))) else ⟨0, 0, 0, 0⟩
theorem c18l (o : O) (r : R) :
    PT Tryz.prog 18 [.ag (oc o), .ag (rc r), .ag (rc (imgO o)), .pl (.func (.func 24) #[] #[])] (.ag (rc (toLog o r))) := by
  refine .tell fun H hTb => ?_
  refine call_c follows cf18_ok (by simp) ?_
  unfold toLog
  by_cases hc : chk o = 0
  · cases he : rempty (rcap r (imgO o)) with
    | true =>
      repeat' (first | simp [*] | (with_reducible (refine newK_of fun _ h_ => ?_); have hn_ := free_ne h_; (try simp only [upd_none', ne_eq] at h_)) | (with_reducible (refine condK_of (fun h_ => ?_) (fun h_ => ?_))) | with_reducible (refine (c37 ..).ac ?_) | with_reducible (refine (c12 ..).ac ?_) | with_reducible (refine (c38 ..).ac ?_))
      all_goals ((try with_reducible refine And.intro ?_ ?_) <;> (try (repeat' (first | with_reducible exact Sub.refl _ | with_reducible refine Sub.of_upd (by simp [*]) ?_))))
    | false =>
      obtain ⟨e1, e2, e3⟩ := rcap_ne _ _ he
      have e4 := rempty_ok _ he
      have hin : 0 ≤ (rcap r (imgO o)).x0 ∧ (rcap r (imgO o)).x1 ≤ o.w ∧ 0 ≤ (rcap r (imgO o)).y0 ∧ (rcap r (imgO o)).y1 ≤ o.h := by
        rw [e1]; simp [imgO]; omega
      have hl := c24 o _ hc he hin
      clear e1 e2 e3 e4
      repeat' (first | simp [*, good25] | (with_reducible (refine newK_of fun _ h_ => ?_); have hn_ := free_ne h_; (try simp only [upd_none', ne_eq] at h_)) | (with_reducible (refine condK_of (fun h_ => ?_) (fun h_ => ?_))) | with_reducible (refine (c37 ..).ac ?_) | with_reducible (refine (c12 ..).ac ?_) | with_reducible (refine (c38 ..).ac ?_) | (with_reducible refine hl.ac ?_ ?_; · (repeat' (first | assumption | (refine Ro.upd (by assumption) (by simp [*]) ?_)))))
      all_goals ((try with_reducible refine And.intro ?_ ?_) <;> (try (repeat' (first | with_reducible exact Sub.refl _ | with_reducible refine Sub.of_upd (by simp [*]) ?_))))
  · repeat' (first | simp [*] | (with_reducible (refine newK_of fun _ h_ => ?_); have hn_ := free_ne h_; (try simp only [upd_none', ne_eq] at h_)) | (with_reducible (refine condK_of (fun h_ => ?_) (fun h_ => ?_))) | with_reducible (refine (c37 ..).ac ?_) | with_reducible (refine (c12 ..).ac ?_) | with_reducible (refine (c38 ..).ac ?_))
    all_goals ((try with_reducible refine And.intro ?_ ?_) <;> (try (repeat' (first | with_reducible exact Sub.refl _ | with_reducible refine Sub.of_upd (by simp [*]) ?_))))
theorem c9 (o : O) (r : R) : PT Tryz.prog 9 [.ag (oc o), .ag (rc r)] (.ag (rc (toLog o r))) := by
  have e : (⟨0, 0, o.w, o.h⟩ : R) = imgO o := rfl
  refine .tell fun H hTb => ?_
  refine call_c follows cf9_ok (by simp) ?_
  repeat' (first | simp [*] | (with_reducible (refine newK_of fun _ h_ => ?_); have hn_ := free_ne h_; (try simp only [upd_none', ne_eq] at h_)) | (with_reducible (refine condK_of (fun h_ => ?_) (fun h_ => ?_))) | (with_reducible refine (c18l ..).ac ?_ ?_; · (repeat' (first | assumption | (refine Ro.upd (by assumption) (by simp [*]) ?_)))))
  all_goals ((try with_reducible refine And.intro ?_ ?_) <;> (try (repeat' (first | with_reducible exact Sub.refl _ | with_reducible refine Sub.of_upd (by simp [*]) ?_))))
end Go.Proofs.YtohedpgoioemnaaGreatDoor
end

/-! Logical and physical rectangles of a valid output: plain facts. Conditions: as each lemma states them. -/
section
namespace Go.Proofs.YtohedpgoioemnaaGreatDoor
open Go Go.Ab Go.RowKit
set_option linter.unusedSimpArgs false
set_option linter.unusedVariables false
set_option linter.unnecessarySimpa false

attribute [local simp] condK_true condK_false condK_not wpc_skip wpc_ret wpc_exit wpc_seq wpc_reg wpc_regD testA_bool wpc_cond wpc_block thenA_normal thenA_ret thenA_exit blockA_normal blockA_ret blockA_exit blockA_other endA_normal endA_ret ev_tmp' ev_const ev_func ev_global cv_int cv_bool cv_string cv_pointer cv_slice cv_agg cv_map put_some put_none wH_s setE_apply setE_env less_eq env_cons env_nil upd_upd upd_apply del_apply startA_eq cells_ag cells_sl one_sl cells_vs one_vs cells_ep one_ep cells_fn one_fn cells_int one_int cells_bool one_bool cells_string one_string cells_pointer one_pointer cells_slice one_slice cells_map one_map cells_agg resK_one resK_nil resK_two rvK_t rvK_c rvsK_nil rvsK_cons iseq_nil iseq_cons gdA_true gdA_false gdA_undef istep_free istep_guard istepV_free istepV_guard dseq_nil dseq_pu dseq_rd dseq_ef wpc_regT dtree_nil dtree_pu dtree_rd dtree_ef dtree_br chkAll_nil chkAll_cons andK_true pickK_true pickK_false pickK_tb pickK_fb bin2K_pl eqbK_eq eqbK_ne eqpK_eq eqpK_ne eqmK_eq eqmK_ne eqzK_eq eqzK_ne eqzK_sl eqzK_vs un1K_pl convK_int fillK_some fillA_cons fillA_nil cellsK_some needK_true needK_ok seeK_ep seeK_ptr oneK_agg oneK_one nilcK_ptr nilcK_ep fadrK_ptr fadrK_ep fldK_ag iadAK_ptr iadAK_ep iadSK_sl iadSK_vs extK_0 extK_1 extK_2 extK_3 lenK_pl lenK_sl lenK_vs lensK_pl boxK_some minmax1K_int storeK_ptr callvK_fn callvK_pl newsK_nil newsK_vs newsK_sl appK_nil appK_nil0 appK_sl appK_vs bnd1K_int bndK_none bndK_some slsK_vs slsK_nil slsK_sl0 slsK_sl slstrK_pl boolK_some eqsK_ag iop_eqs iop_sls iop_slstr seesK_some seesK_ro mapsK_some MAP_some findK_some findK_none plK_pl nmapK_none nmapK_some iop_mlook iop_mlen iop_mmk iop_mupd iop_mdel iop_mrng itK_none itK_some ptr0K_ptr iop_mnxt iop_ment it1K_some entK_some iop_mov iop_pick iop_bin iop_eqb iop_eqp iop_eqm iop_eqz iop_un capK_pl capK_sl capK_vs iop_cap apzK_nil iop_apz mksK_int iop_mks clrK_sl clrK_vs clrK_nil iop_clr iop_conv iop_build iop_load iop_nilc iop_fadr iop_fld iop_iadA iop_iadS iop_ext iop_mkf iop_len iop_lens iop_minmax iop_al iop_box iop_bsl iop_store iop_call iop_callv iop_app BIN_add BIN_sub BIN_mul BIN_and BIN_or BIN_xor BIN_andNot BIN_eql BIN_neq BIN_lss BIN_leq BIN_gtr BIN_geq BIN_quo BIN_rem BIN_shl BIN_shr BIN_sadd BIN_seql BIN_sneq BIN_slss BIN_sleq BIN_sgtr BIN_sgeq UN_neg UN_xor UN_not MM_nil MM_cons partsA argsA ptrA lessL eqL min2I slotN_int slotP_int slotI_int

theorem k4 (k : Int) (h : 1 ≤ k ∧ k ≤ 4) : k = 1 ∨ k = 2 ∨ k = 3 ∨ k = 4 := by omega
def dW (o : O) : Int := (swp o.tr o.w o.h).1
def dH (o : O) : Int := (swp o.tr o.w o.h).2
theorem dims (o : O) (hc : chk o = 0) : (1 ≤ dW o ∧ dW o ≤ 256) ∧ (1 ≤ dH o ∧ dH o ≤ 256) ∧ dW o % o.sc = 0 ∧ dH o % o.sc = 0 := by
  obtain ⟨ht, hk, hw, hh, hwk, hhk, hx, hy⟩ := chk_dims o hc
  unfold dW dH swp
  split <;> simp [hw, hh, hwk, hhk]
theorem lg_eq (o : O) (hc : chk o = 0) : lg o = ⟨o.x, o.y, o.x + dW o / o.sc, o.y + dH o / o.sc⟩ ∧ o.x + dW o / o.sc ≤ 16384 ∧ o.y + dH o / o.sc ≤ 16384 ∧ 1 ≤ dW o / o.sc ∧ 1 ≤ dH o / o.sc := by
  obtain ⟨ht, hk, hw, hh, hwk, hhk, hx, hy⟩ := chk_dims o hc
  obtain ⟨d1, d2, d3, d4⟩ := dims o hc
  have hv := (chk_parts o hc).2.2.2.2.2.2.2.2.2.2
  have e1 := div_small (dW o) o.sc (by omega) hk
  have e2 := div_small (dH o) o.sc (by omega) hk
  have e : lrect o = ⟨o.x, o.y, o.x + dW o / o.sc, o.y + dH o / o.sc⟩ := by
    unfold lrect sz
    show R.mk _ _ (W64 (o.x + W64 ((dW o).tdiv o.sc))) (W64 (o.y + W64 ((dH o).tdiv o.sc))) = _
    unfold W64
    rw [e1.1, e2.1, IntWalk.i64_in _ (by omega), IntWalk.i64_in _ (by omega)]
  rw [e] at hv
  simp [rvalid, okc] at hv
  refine ⟨by rw [lg, if_pos hc, e], by omega, by omega, ?_, ?_⟩
  · rcases k4 _ hk with h | h | h | h <;> rw [h] at d3 ⊢ <;> omega
  · rcases k4 _ hk with h | h | h | h <;> rw [h] at d4 ⊢ <;> omega
theorem lg_ne (o : O) (hc : chk o = 0) : rempty (lg o) = false := by
  obtain ⟨e, h1, h2, h3, h4⟩ := lg_eq o hc
  obtain ⟨ht, hk, hw, hh, hwk, hhk, hx, hy⟩ := chk_dims o hc
  rw [e]; exact rempty_of _ (by simp; omega)
theorem img_ne (o : O) (hc : chk o = 0) : rempty (imgO o) = false := by
  obtain ⟨ht, hk, hw, hh, hwk, hhk, hx, hy⟩ := chk_dims o hc
  exact rempty_of _ (by simp [imgO]; omega)
def inR (a b : R) : Prop := b.x0 ≤ a.x0 ∧ a.x1 ≤ b.x1 ∧ b.y0 ≤ a.y0 ∧ a.y1 ≤ b.y1
theorem cap_in (a b : R) (h : rempty (rcap a b) = false) : inR (rcap a b) b := by
  obtain ⟨e, _, _⟩ := rcap_ne a b h
  rw [e]; unfold inR; simp; omega
def img' (o : O) : R := ⟨0, 0, dW o, dH o⟩
theorem swp_back (o : O) : swp o.tr (dW o) (dH o) = (o.w, o.h) := swp_swp _ _ _
theorem big_in (o : O) (hc : chk o = 0) (q : R) (hq : rempty q = false) (hin : inR q (lg o)) :
    0 ≤ (big o q).x0 ∧ (big o q).x0 < (big o q).x1 ∧ (big o q).x1 ≤ dW o ∧ 0 ≤ (big o q).y0 ∧ (big o q).y0 < (big o q).y1 ∧ (big o q).y1 ≤ dH o := by
  obtain ⟨e, h1, h2, h3, h4⟩ := lg_eq o hc
  obtain ⟨ht, hk, hw, hh, hwk, hhk, hx, hy⟩ := chk_dims o hc
  obtain ⟨d1, d2, d3, d4⟩ := dims o hc
  have hq' := rempty_ok q hq
  rw [e] at hin
  unfold inR at hin
  simp only at hin
  unfold big
  simp only
  generalize dW o = A at *
  generalize dH o = B at *
  generalize o.sc = k at *
  rcases k4 _ hk with rfl | rfl | rfl | rfl <;> omega
theorem phys_eq (o : O) (hc : chk o = 0) (q : R) (hq : rempty q = false) (hin : inR q (lg o)) : phys o q = tr8 o.tr (dW o) (dH o) (big o q) := by
  have hb := big_in o hc q hq hin
  obtain ⟨ht, hk, hw, hh, hwk, hhk, hx, hy⟩ := chk_dims o hc
  obtain ⟨d1, d2, d3, d4⟩ := dims o hc
  show trect o.tr (dW o) (dH o) (big o q) = _
  exact trect_eq _ (dW o) (dH o) _ ht (by simp [inb]; omega) (rempty_of _ (by omega)) (by omega)
theorem phys_in (o : O) (hc : chk o = 0) (q : R) (hq : rempty q = false) (hin : inR q (lg o)) : rempty (phys o q) = false ∧ inR (phys o q) (imgO o) := by
  have hb := big_in o hc q hq hin
  obtain ⟨ht, hk, hw, hh, hwk, hhk, hx, hy⟩ := chk_dims o hc
  have h := tr8_in o.tr (dW o) (dH o) (big o q) ht (by omega)
  rw [swp_back] at h
  rw [phys_eq o hc q hq hin]
  simp only at h
  exact ⟨rempty_of _ (by omega), by unfold inR imgO; simp only; omega⟩
theorem small_big (o : O) (hk : 1 ≤ o.sc ∧ o.sc ≤ 4) (q : R) : small4 o (big o q) = q := by
  cases q with
  | mk a b c d =>
  simp only [small4, big, R.mk.injEq]
  generalize o.sc = k at *
  rcases k4 _ hk with rfl | rfl | rfl | rfl <;> omega
theorem logi_eq (o : O) (hc : chk o = 0) (p : R) (hp : rempty p = false) (hin : inR p (imgO o)) : logi o p = small4 o (tr8 (invT o.tr) o.w o.h p) := by
  obtain ⟨ht, hk, hw, hh, hwk, hhk, hx, hy⟩ := chk_dims o hc
  unfold inR imgO at hin
  simp only at hin
  have hp' := rempty_ok p hp
  rw [logi, trect_eq _ _ _ _ (invT_rng _ ht) (by simp [inb]; omega) hp (by omega)]
theorem back (o : O) (ht : 0 ≤ o.tr ∧ o.tr ≤ 7) (r : R) : tr8 (invT o.tr) o.w o.h (tr8 o.tr (dW o) (dH o) r) = r := by
  have := tr8_back o.tr (dW o) (dH o) r ht
  rwa [swp_back] at this
theorem forth (o : O) (ht : 0 ≤ o.tr ∧ o.tr ≤ 7) (r : R) : tr8 o.tr (dW o) (dH o) (tr8 (invT o.tr) o.w o.h r) = r := tr8_forth o.tr o.w o.h r ht
theorem toPhys_in (o : O) (hc : chk o = 0) (q : R) (hq : rempty q = false) (hin : inR q (lg o)) : toPhys o q = phys o q := by
  rw [toPhys, if_pos hc, rcap_in q _ hq (lg_ne o hc) hin, hq]; rfl
theorem toLog_in (o : O) (hc : chk o = 0) (p : R) (hp : rempty p = false) (hin : inR p (imgO o)) : toLog o p = logi o p := by
  rw [toLog, if_pos hc, rcap_in p _ hp (img_ne o hc) hin, hp]; rfl
theorem inR_refl (a : R) : inR a a := ⟨by omega, by omega, by omega, by omega⟩
theorem m_back (o : O) (hc : chk o = 0) (q : R) (hq : rempty q = false) (hin : inR q (lg o)) : toLog o (phys o q) = q := by
  obtain ⟨ht, hk, _⟩ := chk_dims o hc
  obtain ⟨h1, h2⟩ := phys_in o hc q hq hin
  rw [toLog_in o hc _ h1 h2, logi_eq o hc _ h1 h2, phys_eq o hc q hq hin, back o ht, small_big o hk]
theorem big_all (o : O) (hc : chk o = 0) : big o (lg o) = img' o := by
  obtain ⟨e, h1, h2, h3, h4⟩ := lg_eq o hc
  obtain ⟨ht, hk, hw, hh, hwk, hhk, hx, hy⟩ := chk_dims o hc
  obtain ⟨d1, d2, d3, d4⟩ := dims o hc
  rw [e]
  simp only [big, img', R.mk.injEq]
  generalize dW o = A at *
  generalize dH o = B at *
  generalize o.sc = k at *
  rcases k4 _ hk with rfl | rfl | rfl | rfl <;> omega
theorem tr8_all (t w h : Int) (ht : 0 ≤ t ∧ t ≤ 7) : tr8 t w h ⟨0, 0, w, h⟩ = ⟨0, 0, (swp t w h).1, (swp t w h).2⟩ := by
  unfold swp
  rw [odd_iff t ht]
  rcases t8 t ht with rfl | rfl | rfl | rfl | rfl | rfl | rfl | rfl <;> simp [tr8]
theorem m_all (o : O) (hc : chk o = 0) : toPhys o (lg o) = imgO o ∧ toLog o (imgO o) = lg o := by
  obtain ⟨ht, hk, _⟩ := chk_dims o hc
  have e1 : toPhys o (lg o) = imgO o := by
    rw [toPhys_in o hc _ (lg_ne o hc) (inR_refl _), phys_eq o hc _ (lg_ne o hc) (inR_refl _), big_all o hc, img', tr8_all _ _ _ ht, swp_back]; rfl
  refine ⟨e1, ?_⟩
  have := m_back o hc (lg o) (lg_ne o hc) (inR_refl _)
  rwa [← toPhys_in o hc _ (lg_ne o hc) (inR_refl _), e1] at this
theorem area_ne (r : R) (h : rempty r = false) : rarea r = (r.x1 - r.x0) * (r.y1 - r.y0) := by simp [rarea, rcan, h]
theorem m_area (o : O) (hc : chk o = 0) (q : R) (hq : rempty q = false) (hin : inR q (lg o)) : rarea (phys o q) = o.sc * o.sc * rarea q := by
  obtain ⟨ht, hk, _⟩ := chk_dims o hc
  rw [area_ne _ (phys_in o hc q hq hin).1, area_ne _ hq, phys_eq o hc q hq hin, tr8_area _ _ _ _ ht]
  simp only [big]
  rw [← Int.sub_mul, ← Int.sub_mul]
  have e1 : q.x1 - o.x - (q.x0 - o.x) = q.x1 - q.x0 := by omega
  have e2 : q.y1 - o.y - (q.y0 - o.y) = q.y1 - q.y0 := by omega
  rw [e1, e2]
  ac_rfl
theorem m_area_all (o : O) (hc : chk o = 0) : rarea (lg o) * o.sc * o.sc = o.w * o.h := by
  obtain ⟨ht, hk, _⟩ := chk_dims o hc
  have h1 := m_area o hc _ (lg_ne o hc) (inR_refl _)
  have h2 := (m_all o hc).1
  rw [toPhys_in o hc _ (lg_ne o hc) (inR_refl _)] at h2
  rw [h2, area_ne _ (img_ne o hc)] at h1
  simp only [imgO, Int.sub_zero] at h1
  rw [h1, Int.mul_assoc, Int.mul_comm]
theorem area_lg (o : O) (hc : chk o = 0) (q : R) (hq : rempty q = false) (hin : inR q (lg o)) : 0 ≤ rarea q ∧ rarea q ≤ 65536 := by
  obtain ⟨e, h1, h2, h3, h4⟩ := lg_eq o hc
  obtain ⟨d1, d2, d3, d4⟩ := dims o hc
  obtain ⟨ht, hk, hw, hh, hwk, hhk, hx, hy⟩ := chk_dims o hc
  have hq' := rempty_ok q hq
  have g1 : dW o / o.sc ≤ dW o := Int.ediv_le_self _ (by omega)
  have g2 : dH o / o.sc ≤ dH o := Int.ediv_le_self _ (by omega)
  rw [e] at hin
  unfold inR at hin
  simp only at hin
  rw [area_ne _ hq]
  have := Int.mul_le_mul (show q.x1 - q.x0 ≤ 256 by omega) (show q.y1 - q.y0 ≤ 256 by omega) (by omega) (by omega)
  exact ⟨Int.mul_nonneg (by omega) (by omega), by omega⟩
end Go.Proofs.YtohedpgoioemnaaGreatDoor
end
