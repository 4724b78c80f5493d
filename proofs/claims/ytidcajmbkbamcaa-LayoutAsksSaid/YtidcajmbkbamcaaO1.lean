/-
  The small functions on rectangles and transforms. Conditions: as each lemma states them.
-/
import Derived.Test.YtidcajmbkbamcaaAbL
import Derived.Test.YtidcajmbkbamcaaCf
namespace Go.Proofs.Ytidcajmbkbamcaa
open Go Go.Ab Go.RowKit
set_option linter.unusedSimpArgs false
set_option linter.unusedVariables false
set_option linter.unnecessarySimpa false

attribute [local simp] condK_true condK_false condK_not wpc_skip wpc_ret wpc_exit wpc_seq wpc_reg wpc_regD testA_bool wpc_cond wpc_block thenA_normal thenA_ret thenA_exit blockA_normal blockA_ret blockA_exit blockA_other endA_normal endA_ret ev_tmp' ev_const ev_func ev_global cv_int cv_bool cv_string cv_pointer cv_slice cv_agg put_some put_none wH_s setE_apply setE_env less_eq env_cons env_nil upd_upd upd_apply del_apply startA_eq cells_ag cells_sl one_sl cells_vs one_vs cells_ep one_ep cells_fn one_fn cells_int one_int cells_bool one_bool cells_string one_string cells_pointer one_pointer cells_slice one_slice cells_map one_map cells_agg resK_one resK_nil resK_two rvK_t rvK_c rvsK_nil rvsK_cons iseq_nil iseq_cons gdA_true gdA_false gdA_undef istep_free istep_guard istepV_free istepV_guard dseq_nil dseq_pu dseq_rd dseq_ef chkAll_nil chkAll_cons andK_true pickK_true pickK_false pickK_tb pickK_fb bin2K_pl eqbK_eq eqbK_ne eqpK_eq eqpK_ne un1K_pl convK_int fillK_some fillA_cons fillA_nil cellsK_some needK_true needK_ok seeK_ep seeK_ptr oneK_agg oneK_one nilcK_ptr nilcK_ep fadrK_ptr fadrK_ep fldK_ag iadAK_ptr iadAK_ep iadSK_sl iadSK_vs extK_0 extK_1 extK_2 extK_3 lenK_pl lenK_sl lenK_vs lensK_pl boxK_some minmax1K_int storeK_ptr callvK_fn callvK_pl newsK_nil newsK_vs newsK_sl appK_nil appK_nil0 appK_sl appK_vs bnd1K_int bndK_none bndK_some slsK_vs slsK_nil slsK_sl0 slsK_sl slstrK_pl boolK_some eqsK_ag iop_eqs iop_sls iop_slstr seesK_some seesK_ro mapsK_some MAP_some findK_some findK_none plK_pl nmapK_none nmapK_some iop_mlook iop_mlen iop_mmk iop_mupd iop_mdel iop_mrng itK_none itK_some ptr0K_ptr iop_mnxt iop_ment it1K_some entK_some iop_mov iop_pick iop_bin iop_eqb iop_eqp iop_un iop_conv iop_build iop_load iop_nilc iop_fadr iop_fld iop_iadA iop_iadS iop_ext iop_mkf iop_len iop_lens iop_minmax iop_al iop_box iop_bsl iop_store iop_call iop_callv iop_app BIN_add BIN_sub BIN_mul BIN_and BIN_or BIN_xor BIN_andNot BIN_eql BIN_neq BIN_lss BIN_leq BIN_gtr BIN_geq BIN_quo BIN_rem BIN_shl BIN_shr BIN_sadd BIN_seql BIN_sneq BIN_slss BIN_sleq BIN_sgtr BIN_sgeq UN_neg UN_xor UN_not MM_nil MM_cons partsA argsA ptrA lessL eqL min2I slotN_int slotP_int slotI_int

theorem follows : Try.prog.follows .mixedOrders = true := by kernel_rfl

def okc (n : Int) : Bool := decide (-16384 ≤ n) && decide (n ≤ 16384)
theorem c72 (n : Int) : PC Try.prog 72 [vi n] (vb (okc n)) := by
  intro H K hk
  refine call_c follows cf72_ok (by simp) ?_
  simp
  by_cases h : -16384 ≤ n
  · simp [h]
    have := hk H (.refl _)
    simpa [okc, h] using this
  · simp [h]
    have := hk H (.refl _)
    simpa [okc, h] using this
theorem c62 (n : Int) : PC Try.prog 62 [vi n] (vb (okc n)) := by
  intro H K hk
  refine call_c follows cf62_ok (by simp) ?_
  simp
  by_cases h : -16384 ≤ n
  · simp [h]
    have := hk H (.refl _)
    simpa [okc, h] using this
  · simp [h]
    have := hk H (.refl _)
    simpa [okc, h] using this
def okt (n : Int) : Bool := decide (0 ≤ n) && decide (n < 8)
theorem c63 (n : Int) : PC Try.prog 63 [vi n] (vb (okt n)) := by
  intro H K hk
  refine call_c follows cf63_ok (by simp) ?_
  simp
  by_cases h : 0 ≤ n
  · simp [h]
    have := hk H (.refl _)
    simpa [okt, h] using this
  · simp [h]
    have := hk H (.refl _)
    simpa [okt, h] using this
theorem c64 (n : Int) : PC Try.prog 64 [vi n] (vb (okt n)) := by
  intro H K hk
  refine call_c follows cf64_ok (by simp) ?_
  simp
  by_cases h : 0 ≤ n
  · simp [h]
    have := hk H (.refl _)
    simpa [okt, h, show n ≤ 7 ↔ n < 8 by omega] using this
  · simp [h]
    have := hk H (.refl _)
    simpa [okt, h] using this

def nrm (n : Int) : Int := if okt n then n else 0
theorem c86 (n : Int) : PC Try.prog 86 [vi n] (vi (nrm n)) := by
  intro H K hk
  refine call_c follows cf86_ok (by simp) ?_
  simp
  refine c63 n _ _ fun H' hE => ?_
  by_cases h : okt n = true
  · simp [h]
    have := hk H' hE
    simpa [nrm, h] using this
  · simp [h]
    have := hk H' hE
    simpa [nrm, h] using this
theorem c74 (n : Int) : PC Try.prog 74 [vi n] (vi (nrm n)) := by
  intro H K hk
  refine call_c follows cf74_ok (by simp) ?_
  simp
  refine c64 n _ _ fun H' hE => ?_
  by_cases h : okt n = true
  · simp [h]
    have := hk H' hE
    simpa [nrm, h] using this
  · simp [h]
    have := hk H' hE
    simpa [nrm, h] using this
end Go.Proofs.Ytidcajmbkbamcaa
