/-
  The size of a transformed image; valid, empty, canonical rectangles; the checks of lengths. Conditions: as each lemma states them.
-/
import Derived.Test.YtidcajmbkbamcaaO1
namespace Go.Proofs.Ytidcajmbkbamcaa
open Go Go.Ab Go.RowKit
set_option linter.unusedSimpArgs false
set_option linter.unusedVariables false
set_option linter.unnecessarySimpa false

attribute [local simp] condK_true condK_false condK_not wpc_skip wpc_ret wpc_exit wpc_seq wpc_reg wpc_regD testA_bool wpc_cond wpc_block thenA_normal thenA_ret thenA_exit blockA_normal blockA_ret blockA_exit blockA_other endA_normal endA_ret ev_tmp' ev_const ev_func ev_global cv_int cv_bool cv_string cv_pointer cv_slice cv_agg put_some put_none wH_s setE_apply setE_env less_eq env_cons env_nil upd_upd upd_apply del_apply startA_eq cells_ag cells_sl one_sl cells_vs one_vs cells_ep one_ep cells_fn one_fn cells_int one_int cells_bool one_bool cells_string one_string cells_pointer one_pointer cells_slice one_slice cells_map one_map cells_agg resK_one resK_nil resK_two rvK_t rvK_c rvsK_nil rvsK_cons iseq_nil iseq_cons gdA_true gdA_false gdA_undef istep_free istep_guard istepV_free istepV_guard dseq_nil dseq_pu dseq_rd dseq_ef chkAll_nil chkAll_cons andK_true pickK_true pickK_false pickK_tb pickK_fb bin2K_pl eqbK_eq eqbK_ne eqpK_eq eqpK_ne un1K_pl convK_int fillK_some fillA_cons fillA_nil cellsK_some needK_true needK_ok seeK_ep seeK_ptr oneK_agg oneK_one nilcK_ptr nilcK_ep fadrK_ptr fadrK_ep fldK_ag iadAK_ptr iadAK_ep iadSK_sl iadSK_vs extK_0 extK_1 extK_2 extK_3 lenK_pl lenK_sl lenK_vs lensK_pl boxK_some minmax1K_int storeK_ptr callvK_fn callvK_pl newsK_nil newsK_vs newsK_sl appK_nil appK_nil0 appK_sl appK_vs bnd1K_int bndK_none bndK_some slsK_vs slsK_nil slsK_sl0 slsK_sl slstrK_pl boolK_some eqsK_ag iop_eqs iop_sls iop_slstr seesK_some seesK_ro mapsK_some MAP_some findK_some findK_none plK_pl nmapK_none nmapK_some iop_mlook iop_mlen iop_mmk iop_mupd iop_mdel iop_mrng itK_none itK_some ptr0K_ptr iop_mnxt iop_ment it1K_some entK_some iop_mov iop_pick iop_bin iop_eqb iop_eqp iop_un iop_conv iop_build iop_load iop_nilc iop_fadr iop_fld iop_iadA iop_iadS iop_ext iop_mkf iop_len iop_lens iop_minmax iop_al iop_box iop_bsl iop_store iop_call iop_callv iop_app BIN_add BIN_sub BIN_mul BIN_and BIN_or BIN_xor BIN_andNot BIN_eql BIN_neq BIN_lss BIN_leq BIN_gtr BIN_geq BIN_quo BIN_rem BIN_shl BIN_shr BIN_sadd BIN_seql BIN_sneq BIN_slss BIN_sleq BIN_sgtr BIN_sgeq UN_neg UN_xor UN_not MM_nil MM_cons partsA argsA ptrA lessL eqL min2I slotN_int slotP_int slotI_int

def odd (t : Int) : Bool := decide ((nrm t).tmod 2 = 1)
def swp (t w h : Int) : Int × Int := if odd t then (h, w) else (w, h)
theorem c70 (t w h : Int) : PC Try.prog 70 [vi t, vi w, vi h] (.tp [vi (swp t w h).1, vi (swp t w h).2]) := by
  intro H K hk
  refine call_c follows cf70_ok (by simp) ?_
  simp
  refine c86 t _ _ fun H' hE => ?_
  by_cases e : (nrm t).tmod 2 = 1
  · have := hk H' hE
    simp [e]
    simpa [swp, odd, e] using this
  · have := hk H' hE
    simp [e]
    simpa [swp, odd, e] using this
theorem c66 (t w h : Int) : PC Try.prog 66 [vi t, vi w, vi h] (.tp [vi (swp t w h).1, vi (swp t w h).2]) := by
  intro H K hk
  refine call_c follows cf66_ok (by simp) ?_
  simp
  refine c74 t _ _ fun H' hE => ?_
  by_cases e : (nrm t).tmod 2 = 1
  · have := hk H' hE
    simp [e]
    simpa [swp, odd, e] using this
  · have := hk H' hE
    simp [e]
    simpa [swp, odd, e] using this

structure R where
  x0 : Int
  y0 : Int
  x1 : Int
  y1 : Int
def rc (r : R) : List AV := [vi r.x0, vi r.y0, vi r.x1, vi r.y1]
def rvalid (r : R) : Bool := okc r.x0 && okc r.y0 && okc r.x1 && okc r.y1
theorem c59 (r : R) : PC Try.prog 59 [.ag (rc r)] (vb (rvalid r)) := by
  intro H K hk
  refine call_c follows cf59_ok (by simp) ?_
  simp [rc]
  refine newK_of fun p hp => ?_
  simp
  refine c72 _ _ _ fun H1 h1 => ?_
  have g0 : Ext H H1 := ((Ext.refl H).upd hp).trans h1
  have g1 := h1.at (b := p) (by simp; rfl)
  unfold rvalid at hk
  cases e0 : okc r.x0 with
  | false => 
    simp [e0] at hk ⊢
    exact hk _ g0
  | true =>
    simp [e0, g1] at hk ⊢
    refine c72 _ _ _ fun H2 h2 => ?_
    cases e1 : okc r.y0 with
    | false =>
      simp [e1] at hk ⊢
      exact hk _ (g0.trans h2)
    | true =>
      simp [e1, h2.at g1] at hk ⊢
      refine c72 _ _ _ fun H3 h3 => ?_
      cases e2 : okc r.x1 with
      | false =>
        simp [e2] at hk ⊢
        exact hk _ ((g0.trans h2).trans h3)
      | true =>
        simp [e2, h3.at (h2.at g1)] at hk ⊢
        refine c72 _ _ _ fun H4 h4 => ?_
        simp
        exact hk _ (((g0.trans h2).trans h3).trans h4)

def lenok (n k : Int) : Bool := decide (1 ≤ n) && decide (n ≤ 256) && decide (n.tmod k = 0)
theorem c65 (n k : Int) (hk0 : k ≠ 0) : PC Try.prog 65 [vi n, vi k] (vb (lenok n k)) := by
  intro H K hk
  refine call_c follows cf65_ok (by simp) ?_
  simp
  unfold lenok at hk
  have := hk H (.refl _)
  by_cases e1 : 1 ≤ n
  · by_cases e2 : n ≤ 256
    · simpa [e1, e2, hk0] using this
    · simpa [e1, e2, hk0] using this
  · simpa [e1, hk0] using this

theorem c61 {H : AH} {p : Nat} {cs : List AV} (n k : Int) (hk0 : k ≠ 0) (hp : H p = some (.cells cs)) (hc : (cs.drop 4).take 1 = [vi k]) (hl : 5 ≤ cs.length) {K : AV → AH → Prop} (hk : K (vb (lenok n k)) H) :
    ACall Try.prog 61 [vi n, ptrA p] H K := by
  refine call_c follows cf61_ok (by simp) ?_
  simp
  unfold lenok at hk
  by_cases e1 : 1 ≤ n
  · by_cases e2 : n ≤ 256
    · simpa (disch := omega) [e1, e2, hk0, hp, hc, hl] using hk
    · simpa [e1, e2, hk0] using hk
  · simpa [e1, hk0] using hk
end Go.Proofs.Ytidcajmbkbamcaa
