/-
  Several texts in one: O1; O2; O3; O4; O5; O6; R1. Conditions: as each lemma states them.
-/
import Derived.Test.YtidcajmbkbamcaaGreatAbL
import Derived.Test.YtidcajmbkbamcaaGreatCf
/-! The small functions on rectangles and transforms. Conditions: as each lemma states them. -/
section
namespace Go.Proofs.YtidcajmbkbamcaaGreat
open Go Go.Ab Go.RowKit
set_option linter.unusedSimpArgs false
set_option linter.unusedVariables false
set_option linter.unnecessarySimpa false

attribute [local simp] condK_true condK_false condK_not wpc_skip wpc_ret wpc_exit wpc_seq wpc_reg wpc_regD testA_bool wpc_cond wpc_block thenA_normal thenA_ret thenA_exit blockA_normal blockA_ret blockA_exit blockA_other endA_normal endA_ret ev_tmp' ev_const ev_func ev_global cv_int cv_bool cv_string cv_pointer cv_slice cv_agg cv_map put_some put_none wH_s setE_apply setE_env less_eq env_cons env_nil upd_upd upd_apply del_apply startA_eq cells_ag cells_sl one_sl cells_vs one_vs cells_ep one_ep cells_fn one_fn cells_int one_int cells_bool one_bool cells_string one_string cells_pointer one_pointer cells_slice one_slice cells_map one_map cells_agg resK_one resK_nil resK_two rvK_t rvK_c rvsK_nil rvsK_cons iseq_nil iseq_cons gdA_true gdA_false gdA_undef istep_free istep_guard istepV_free istepV_guard dseq_nil dseq_pu dseq_rd dseq_ef wpc_regT dtree_nil dtree_pu dtree_rd dtree_ef dtree_br chkAll_nil chkAll_cons andK_true pickK_true pickK_false pickK_tb pickK_fb bin2K_pl eqbK_eq eqbK_ne eqpK_eq eqpK_ne eqmK_eq eqmK_ne eqzK_eq eqzK_ne eqzK_sl eqzK_vs un1K_pl convK_int fillK_some fillA_cons fillA_nil cellsK_some needK_true needK_ok seeK_ep seeK_ptr oneK_agg oneK_one nilcK_ptr nilcK_ep fadrK_ptr fadrK_ep fldK_ag iadAK_ptr iadAK_ep iadSK_sl iadSK_vs extK_0 extK_1 extK_2 extK_3 lenK_pl lenK_sl lenK_vs lensK_pl boxK_some minmax1K_int storeK_ptr callvK_fn callvK_pl newsK_nil newsK_vs newsK_sl appK_nil appK_nil0 appK_sl appK_vs bnd1K_int bndK_none bndK_some slsK_vs slsK_nil slsK_sl0 slsK_sl slstrK_pl boolK_some eqsK_ag iop_eqs iop_sls iop_slstr seesK_some seesK_ro mapsK_some MAP_some findK_some findK_none plK_pl nmapK_none nmapK_some iop_mlook iop_mlen iop_mmk iop_mupd iop_mdel iop_mrng itK_none itK_some ptr0K_ptr iop_mnxt iop_ment it1K_some entK_some iop_mov iop_pick iop_bin iop_eqb iop_eqp iop_eqm iop_eqz iop_un capK_pl capK_sl capK_vs iop_cap apzK_nil iop_apz mksK_int iop_mks clrK_sl clrK_vs clrK_nil iop_clr iop_conv iop_build iop_load iop_nilc iop_fadr iop_fld iop_iadA iop_iadS iop_ext iop_mkf iop_len iop_lens iop_minmax iop_al iop_box iop_bsl iop_store iop_call iop_callv iop_app BIN_add BIN_sub BIN_mul BIN_and BIN_or BIN_xor BIN_andNot BIN_eql BIN_neq BIN_lss BIN_leq BIN_gtr BIN_geq BIN_quo BIN_rem BIN_shl BIN_shr BIN_sadd BIN_seql BIN_sneq BIN_slss BIN_sleq BIN_sgtr BIN_sgeq UN_neg UN_xor UN_not MM_nil MM_cons partsA argsA ptrA lessL eqL min2I slotN_int slotP_int slotI_int

theorem follows : Tryz.prog.follows .mixedOrders = true := by kernel_rfl

def okc (n : Int) : Bool := decide (-16384 ≤ n) && decide (n ≤ 16384)
theorem c87 (n : Int) : PC Tryz.prog 87 [vi n] (vb (okc n)) := by
  intro H K hk
  refine call_c follows cf87_ok (by simp) ?_
  simp
  by_cases h : -16384 ≤ n
  · simp [h]
    have := hk H (.refl _)
    simpa [okc, h] using this
  · simp [h]
    have := hk H (.refl _)
    simpa [okc, h] using this
theorem c70 (n : Int) : PC Tryz.prog 70 [vi n] (vb (okc n)) := by
  intro H K hk
  refine call_c follows cf70_ok (by simp) ?_
  simp
  by_cases h : -16384 ≤ n
  · simp [h]
    have := hk H (.refl _)
    simpa [okc, h] using this
  · simp [h]
    have := hk H (.refl _)
    simpa [okc, h] using this
def okt (n : Int) : Bool := decide (0 ≤ n) && decide (n < 8)
theorem c71 (n : Int) : PC Tryz.prog 71 [vi n] (vb (okt n)) := by
  intro H K hk
  refine call_c follows cf71_ok (by simp) ?_
  simp
  by_cases h : 0 ≤ n
  · simp [h]
    have := hk H (.refl _)
    simpa [okt, h] using this
  · simp [h]
    have := hk H (.refl _)
    simpa [okt, h] using this
theorem c59 (n : Int) : PC Tryz.prog 59 [vi n] (vb (okt n)) := by
  intro H K hk
  refine call_c follows cf59_ok (by simp) ?_
  simp
  by_cases h : 0 ≤ n
  · simp [h]
    have := hk H (.refl _)
    simpa [okt, h, show n ≤ 7 ↔ n < 8 by omega] using this
  · simp [h]
    have := hk H (.refl _)
    simpa [okt, h] using this

def nrm (n : Int) : Int := if okt n then n else 0
theorem c105 (n : Int) : PC Tryz.prog 105 [vi n] (vi (nrm n)) := by
  intro H K hk
  refine call_c follows cf105_ok (by simp) ?_
  simp
  refine c71 n _ _ fun H' hE => ?_
  by_cases h : okt n = true
  · simp [h]
    have := hk H' hE
    simpa [nrm, h] using this
  · simp [h]
    have := hk H' hE
    simpa [nrm, h] using this
theorem c82 (n : Int) : PC Tryz.prog 82 [vi n] (vi (nrm n)) := by
  intro H K hk
  refine call_c follows cf82_ok (by simp) ?_
  simp
  refine c59 n _ _ fun H' hE => ?_
  by_cases h : okt n = true
  · simp [h]
    have := hk H' hE
    simpa [nrm, h] using this
  · simp [h]
    have := hk H' hE
    simpa [nrm, h] using this
end Go.Proofs.YtidcajmbkbamcaaGreat
end

/-! The size of a transformed image; valid, empty, canonical rectangles; the checks of lengths. Conditions: as each lemma states them. -/
section
namespace Go.Proofs.YtidcajmbkbamcaaGreat
open Go Go.Ab Go.RowKit
set_option linter.unusedSimpArgs false
set_option linter.unusedVariables false
set_option linter.unnecessarySimpa false

attribute [local simp] condK_true condK_false condK_not wpc_skip wpc_ret wpc_exit wpc_seq wpc_reg wpc_regD testA_bool wpc_cond wpc_block thenA_normal thenA_ret thenA_exit blockA_normal blockA_ret blockA_exit blockA_other endA_normal endA_ret ev_tmp' ev_const ev_func ev_global cv_int cv_bool cv_string cv_pointer cv_slice cv_agg cv_map put_some put_none wH_s setE_apply setE_env less_eq env_cons env_nil upd_upd upd_apply del_apply startA_eq cells_ag cells_sl one_sl cells_vs one_vs cells_ep one_ep cells_fn one_fn cells_int one_int cells_bool one_bool cells_string one_string cells_pointer one_pointer cells_slice one_slice cells_map one_map cells_agg resK_one resK_nil resK_two rvK_t rvK_c rvsK_nil rvsK_cons iseq_nil iseq_cons gdA_true gdA_false gdA_undef istep_free istep_guard istepV_free istepV_guard dseq_nil dseq_pu dseq_rd dseq_ef wpc_regT dtree_nil dtree_pu dtree_rd dtree_ef dtree_br chkAll_nil chkAll_cons andK_true pickK_true pickK_false pickK_tb pickK_fb bin2K_pl eqbK_eq eqbK_ne eqpK_eq eqpK_ne eqmK_eq eqmK_ne eqzK_eq eqzK_ne eqzK_sl eqzK_vs un1K_pl convK_int fillK_some fillA_cons fillA_nil cellsK_some needK_true needK_ok seeK_ep seeK_ptr oneK_agg oneK_one nilcK_ptr nilcK_ep fadrK_ptr fadrK_ep fldK_ag iadAK_ptr iadAK_ep iadSK_sl iadSK_vs extK_0 extK_1 extK_2 extK_3 lenK_pl lenK_sl lenK_vs lensK_pl boxK_some minmax1K_int storeK_ptr callvK_fn callvK_pl newsK_nil newsK_vs newsK_sl appK_nil appK_nil0 appK_sl appK_vs bnd1K_int bndK_none bndK_some slsK_vs slsK_nil slsK_sl0 slsK_sl slstrK_pl boolK_some eqsK_ag iop_eqs iop_sls iop_slstr seesK_some seesK_ro mapsK_some MAP_some findK_some findK_none plK_pl nmapK_none nmapK_some iop_mlook iop_mlen iop_mmk iop_mupd iop_mdel iop_mrng itK_none itK_some ptr0K_ptr iop_mnxt iop_ment it1K_some entK_some iop_mov iop_pick iop_bin iop_eqb iop_eqp iop_eqm iop_eqz iop_un capK_pl capK_sl capK_vs iop_cap apzK_nil iop_apz mksK_int iop_mks clrK_sl clrK_vs clrK_nil iop_clr iop_conv iop_build iop_load iop_nilc iop_fadr iop_fld iop_iadA iop_iadS iop_ext iop_mkf iop_len iop_lens iop_minmax iop_al iop_box iop_bsl iop_store iop_call iop_callv iop_app BIN_add BIN_sub BIN_mul BIN_and BIN_or BIN_xor BIN_andNot BIN_eql BIN_neq BIN_lss BIN_leq BIN_gtr BIN_geq BIN_quo BIN_rem BIN_shl BIN_shr BIN_sadd BIN_seql BIN_sneq BIN_slss BIN_sleq BIN_sgtr BIN_sgeq UN_neg UN_xor UN_not MM_nil MM_cons partsA argsA ptrA lessL eqL min2I slotN_int slotP_int slotI_int

def odd (t : Int) : Bool := decide ((nrm t).tmod 2 = 1)
def swp (t w h : Int) : Int × Int := if odd t then (h, w) else (w, h)
theorem c86 (t w h : Int) : PC Tryz.prog 86 [vi t, vi w, vi h] (.tp [vi (swp t w h).1, vi (swp t w h).2]) := by
  intro H K hk
  refine call_c follows cf86_ok (by simp) ?_
  simp
  refine c105 t _ _ fun H' hE => ?_
  by_cases e : (nrm t).tmod 2 = 1
  · have := hk H' hE
    simp [e]
    simpa [swp, odd, e] using this
  · have := hk H' hE
    simp [e]
    simpa [swp, odd, e] using this
theorem c61 (t w h : Int) : PC Tryz.prog 61 [vi t, vi w, vi h] (.tp [vi (swp t w h).1, vi (swp t w h).2]) := by
  intro H K hk
  refine call_c follows cf61_ok (by simp) ?_
  simp
  refine c82 t _ _ fun H' hE => ?_
  by_cases e : (nrm t).tmod 2 = 1
  · have := hk H' hE
    simp [e]
    simpa [swp, odd, e] using this
  · have := hk H' hE
    simp [e]
    simpa [swp, odd, e] using this

structure R where
  x0 : Int
  y0 : Int
  x1 : Int
  y1 : Int
def rc (r : R) : List AV := [vi r.x0, vi r.y0, vi r.x1, vi r.y1]
def rvalid (r : R) : Bool := okc r.x0 && okc r.y0 && okc r.x1 && okc r.y1
theorem c72 (r : R) : PC Tryz.prog 72 [.ag (rc r)] (vb (rvalid r)) := by
  intro H K hk
  refine call_c follows cf72_ok (by simp) ?_
  simp [rc]
  refine newK_of fun p hp => ?_
  simp
  refine c87 _ _ _ fun H1 h1 => ?_
  have g0 : Ext H H1 := ((Ext.refl H).upd hp).trans h1
  have g1 := h1.at (b := p) (by simp; rfl)
  unfold rvalid at hk
  cases e0 : okc r.x0 with
  | false => 
    simp [e0] at hk ⊢
    exact hk _ g0
  | true =>
    simp [e0, g1] at hk ⊢
    refine c87 _ _ _ fun H2 h2 => ?_
    cases e1 : okc r.y0 with
    | false =>
      simp [e1] at hk ⊢
      exact hk _ (g0.trans h2)
    | true =>
      simp [e1, h2.at g1] at hk ⊢
      refine c87 _ _ _ fun H3 h3 => ?_
      cases e2 : okc r.x1 with
      | false =>
        simp [e2] at hk ⊢
        exact hk _ ((g0.trans h2).trans h3)
      | true =>
        simp [e2, h3.at (h2.at g1)] at hk ⊢
        refine c87 _ _ _ fun H4 h4 => ?_
        simp
        exact hk _ (((g0.trans h2).trans h3).trans h4)

def lenok (n k : Int) : Bool := decide (1 ≤ n) && decide (n ≤ 256) && decide (n.tmod k = 0)
theorem c60 (n k : Int) (hk0 : k ≠ 0) : PC Tryz.prog 60 [vi n, vi k] (vb (lenok n k)) := by
  intro H K hk
  refine call_c follows cf60_ok (by simp) ?_
  simp
  unfold lenok at hk
  have := hk H (.refl _)
  by_cases e1 : 1 ≤ n
  · by_cases e2 : n ≤ 256
    · simpa [e1, e2, hk0] using this
    · simpa [e1, e2, hk0] using this
  · simpa [e1, hk0] using this

theorem c69 {H : AH} {p : Nat} {cs : List AV} (n k : Int) (hk0 : k ≠ 0) (hp : H p = some (.cells cs)) (hc : (cs.drop 4).take 1 = [vi k]) (hl : 5 ≤ cs.length) {K : AV → AH → Prop} (hk : K (vb (lenok n k)) H) :
    ACall Tryz.prog 69 [vi n, ptrA p] H K := by
  refine call_c follows cf69_ok (by simp) ?_
  simp
  unfold lenok at hk
  by_cases e1 : 1 ≤ n
  · by_cases e2 : n ≤ 256
    · simpa (disch := omega) [e1, e2, hk0, hp, hc, hl] using hk
    · simpa [e1, e2, hk0] using hk
  · simpa [e1, hk0] using hk
end Go.Proofs.YtidcajmbkbamcaaGreat
end

/-! The logical rectangle and size of an output. Conditions: as each lemma states them. -/
section
namespace Go.Proofs.YtidcajmbkbamcaaGreat
open Go Go.Ab Go.RowKit
set_option linter.unusedSimpArgs false
set_option linter.unusedVariables false
set_option linter.unnecessarySimpa false

attribute [local simp] condK_true condK_false condK_not wpc_skip wpc_ret wpc_exit wpc_seq wpc_reg wpc_regD testA_bool wpc_cond wpc_block thenA_normal thenA_ret thenA_exit blockA_normal blockA_ret blockA_exit blockA_other endA_normal endA_ret ev_tmp' ev_const ev_func ev_global cv_int cv_bool cv_string cv_pointer cv_slice cv_agg cv_map put_some put_none wH_s setE_apply setE_env less_eq env_cons env_nil upd_upd upd_apply del_apply startA_eq cells_ag cells_sl one_sl cells_vs one_vs cells_ep one_ep cells_fn one_fn cells_int one_int cells_bool one_bool cells_string one_string cells_pointer one_pointer cells_slice one_slice cells_map one_map cells_agg resK_one resK_nil resK_two rvK_t rvK_c rvsK_nil rvsK_cons iseq_nil iseq_cons gdA_true gdA_false gdA_undef istep_free istep_guard istepV_free istepV_guard dseq_nil dseq_pu dseq_rd dseq_ef wpc_regT dtree_nil dtree_pu dtree_rd dtree_ef dtree_br chkAll_nil chkAll_cons andK_true pickK_true pickK_false pickK_tb pickK_fb bin2K_pl eqbK_eq eqbK_ne eqpK_eq eqpK_ne eqmK_eq eqmK_ne eqzK_eq eqzK_ne eqzK_sl eqzK_vs un1K_pl convK_int fillK_some fillA_cons fillA_nil cellsK_some needK_true needK_ok seeK_ep seeK_ptr oneK_agg oneK_one nilcK_ptr nilcK_ep fadrK_ptr fadrK_ep fldK_ag iadAK_ptr iadAK_ep iadSK_sl iadSK_vs extK_0 extK_1 extK_2 extK_3 lenK_pl lenK_sl lenK_vs lensK_pl boxK_some minmax1K_int storeK_ptr callvK_fn callvK_pl newsK_nil newsK_vs newsK_sl appK_nil appK_nil0 appK_sl appK_vs bnd1K_int bndK_none bndK_some slsK_vs slsK_nil slsK_sl0 slsK_sl slstrK_pl boolK_some eqsK_ag iop_eqs iop_sls iop_slstr seesK_some seesK_ro mapsK_some MAP_some findK_some findK_none plK_pl nmapK_none nmapK_some iop_mlook iop_mlen iop_mmk iop_mupd iop_mdel iop_mrng itK_none itK_some ptr0K_ptr iop_mnxt iop_ment it1K_some entK_some iop_mov iop_pick iop_bin iop_eqb iop_eqp iop_eqm iop_eqz iop_un capK_pl capK_sl capK_vs iop_cap apzK_nil iop_apz mksK_int iop_mks clrK_sl clrK_vs clrK_nil iop_clr iop_conv iop_build iop_load iop_nilc iop_fadr iop_fld iop_iadA iop_iadS iop_ext iop_mkf iop_len iop_lens iop_minmax iop_al iop_box iop_bsl iop_store iop_call iop_callv iop_app BIN_add BIN_sub BIN_mul BIN_and BIN_or BIN_xor BIN_andNot BIN_eql BIN_neq BIN_lss BIN_leq BIN_gtr BIN_geq BIN_quo BIN_rem BIN_shl BIN_shr BIN_sadd BIN_seql BIN_sneq BIN_slss BIN_sleq BIN_sgtr BIN_sgeq UN_neg UN_xor UN_not MM_nil MM_cons partsA argsA ptrA lessL eqL min2I slotN_int slotP_int slotI_int

structure O where
  nm : ByteArray
  w : Int
  h : Int
  rf : Int
  sc : Int
  tr : Int
  x : Int
  y : Int
def oc (o : O) : List AV := [vs8 o.nm, vi o.w, vi o.h, vi o.rf, vi o.sc, vi o.tr, vi o.x, vi o.y]
def W64 (n : Int) : Int := IntKind.i64.wrap n
def sz (o : O) : Int × Int := (W64 ((swp o.tr o.w o.h).1.tdiv o.sc), W64 ((swp o.tr o.w o.h).2.tdiv o.sc))
theorem c39 (o : O) (hs : o.sc ≠ 0) : PC Tryz.prog 39 [.ag (oc o)] (.tp [vi (sz o).1, vi (sz o).2]) := by
  intro H K hk
  refine call_c follows cf39_ok (by simp) ?_
  simp [oc]
  refine newK_of fun p hp => ?_
  simp
  refine c61 _ _ _ _ _ fun H1 h1 => ?_
  have g0 : Ext H H1 := ((Ext.refl H).upd hp).trans h1
  have g1 := h1.at (b := p) (by simp; rfl)
  simp [g1, hs]
  exact hk _ g0

def lrect (o : O) : R := ⟨o.x, o.y, W64 (o.x + (sz o).1), W64 (o.y + (sz o).2)⟩
theorem c68 (o : O) (hs : o.sc ≠ 0) : PC Tryz.prog 68 [.ag (oc o)] (.ag (rc (lrect o))) := by
  intro H K hk
  refine call_c follows cf68_ok (by simp) ?_
  simp [oc]
  refine newK_of fun p hp => ?_
  simp
  refine newK_of fun q hq => ?_
  obtain ⟨n1, hq⟩ := upd_none.1 hq
  simp [n1, Ne.symm n1]
  refine c86 _ _ _ _ _ fun H1 h1 => ?_
  have g0 : Ext H H1 := (((Ext.refl H).upd hp).upd hq).trans h1
  have g1 := h1.at (b := p) (by simp [Ne.symm n1]; rfl)
  have g2 := h1.at (b := q) (by simp; rfl)
  simp [g1, g2, hs, n1, Ne.symm n1]
  exact hk _ (g0.upd hq)
end Go.Proofs.YtidcajmbkbamcaaGreat
end

/-! Check of the program. No conditions. -/
section
namespace Go.Proofs.YtidcajmbkbamcaaGreat
open Go Go.Ab Go.RowKit
set_option linter.unusedSimpArgs false
set_option linter.unusedVariables false
set_option linter.unnecessarySimpa false

attribute [local simp] condK_true condK_false condK_not wpc_skip wpc_ret wpc_exit wpc_seq wpc_reg wpc_regD testA_bool wpc_cond wpc_block thenA_normal thenA_ret thenA_exit blockA_normal blockA_ret blockA_exit blockA_other endA_normal endA_ret ev_tmp' ev_const ev_func ev_global cv_int cv_bool cv_string cv_pointer cv_slice cv_agg cv_map put_some put_none wH_s setE_apply setE_env less_eq env_cons env_nil upd_upd upd_apply del_apply startA_eq cells_ag cells_sl one_sl cells_vs one_vs cells_ep one_ep cells_fn one_fn cells_int one_int cells_bool one_bool cells_string one_string cells_pointer one_pointer cells_slice one_slice cells_map one_map cells_agg resK_one resK_nil resK_two rvK_t rvK_c rvsK_nil rvsK_cons iseq_nil iseq_cons gdA_true gdA_false gdA_undef istep_free istep_guard istepV_free istepV_guard dseq_nil dseq_pu dseq_rd dseq_ef wpc_regT dtree_nil dtree_pu dtree_rd dtree_ef dtree_br chkAll_nil chkAll_cons andK_true pickK_true pickK_false pickK_tb pickK_fb bin2K_pl eqbK_eq eqbK_ne eqpK_eq eqpK_ne eqmK_eq eqmK_ne eqzK_eq eqzK_ne eqzK_sl eqzK_vs un1K_pl convK_int fillK_some fillA_cons fillA_nil cellsK_some needK_true needK_ok seeK_ep seeK_ptr oneK_agg oneK_one nilcK_ptr nilcK_ep fadrK_ptr fadrK_ep fldK_ag iadAK_ptr iadAK_ep iadSK_sl iadSK_vs extK_0 extK_1 extK_2 extK_3 lenK_pl lenK_sl lenK_vs lensK_pl boxK_some minmax1K_int storeK_ptr callvK_fn callvK_pl newsK_nil newsK_vs newsK_sl appK_nil appK_nil0 appK_sl appK_vs bnd1K_int bndK_none bndK_some slsK_vs slsK_nil slsK_sl0 slsK_sl slstrK_pl boolK_some eqsK_ag iop_eqs iop_sls iop_slstr seesK_some seesK_ro mapsK_some MAP_some findK_some findK_none plK_pl nmapK_none nmapK_some iop_mlook iop_mlen iop_mmk iop_mupd iop_mdel iop_mrng itK_none itK_some ptr0K_ptr iop_mnxt iop_ment it1K_some entK_some iop_mov iop_pick iop_bin iop_eqb iop_eqp iop_eqm iop_eqz iop_un capK_pl capK_sl capK_vs iop_cap apzK_nil iop_apz mksK_int iop_mks clrK_sl clrK_vs clrK_nil iop_clr iop_conv iop_build iop_load iop_nilc iop_fadr iop_fld iop_iadA iop_iadS iop_ext iop_mkf iop_len iop_lens iop_minmax iop_al iop_box iop_bsl iop_store iop_call iop_callv iop_app BIN_add BIN_sub BIN_mul BIN_and BIN_or BIN_xor BIN_andNot BIN_eql BIN_neq BIN_lss BIN_leq BIN_gtr BIN_geq BIN_quo BIN_rem BIN_shl BIN_shr BIN_sadd BIN_seql BIN_sneq BIN_slss BIN_sleq BIN_sgtr BIN_sgeq UN_neg UN_xor UN_not MM_nil MM_cons partsA argsA ptrA lessL eqL min2I slotN_int slotP_int slotI_int

def nmbad (o : O) : Bool := o.nm.toList.isEmpty || decide (32 < (o.nm.size : Int))
def chk (o : O) : Int :=
  if nmbad o = true then 2 else if okt o.tr = false then 2 else if o.sc < 1 then 2 else if 4 < o.sc then 2 else
  if lenok o.w o.sc = false then 6 else if lenok o.h o.sc = false then 6 else if o.rf < 1000 then 6 else if 240000 < o.rf then 6 else
  if okc o.x = false then 6 else if okc o.y = false then 6 else if rvalid (lrect o) = false then 6 else 0

theorem good15 : goodCallee Tryz.prog 69 = true := by kernel_rfl
theorem good16 : goodCallee Tryz.prog 70 = true := by kernel_rfl

theorem c47 (o : O) : PC Tryz.prog 47 [.ag (oc o)] (vi (chk o)) := by
  intro H K hk
  refine call_c follows cf47_ok (by simp) ?_
  simp [oc]
  refine newK_of fun p hp => ?_
  have g0 : ∀ o, Ext H (upd H p o) := fun _ => (Ext.refl H).upd hp
  simp
  have fin : ∀ H' v, Ext H H' → chk o = v → K (vi v) H' := fun H' v h1 h2 => h2 ▸ hk H' h1
  cases e1 : o.nm.toList.isEmpty with
  | true =>
    simp
    exact fin _ _ (g0 _) (by simp [chk, nmbad, e1])
  | false =>
  simp
  by_cases e2 : (32 : Int) < o.nm.size
  · simp [e2]
    exact fin _ _ (g0 _) (by simp [chk, nmbad, e2])
  simp [e2]
  have nb : nmbad o = false := by simp [nmbad, e1]; omega
  refine c71 _ _ _ fun H1 h1 => ?_
  have k1 := (g0 _).trans h1
  have q1 := h1.at (b := p) (by simp; rfl)
  cases e3 : okt o.tr with
  | false =>
    simp
    exact fin _ _ k1 (by simp [chk, nb, e3])
  | true =>
  simp [q1]
  by_cases e4 : o.sc < 1
  · simp [e4]
    exact fin _ _ k1 (by simp [chk, nb, e3, e4])
  simp [e4, q1]
  by_cases e5 : 4 < o.sc
  · simp [e5]
    exact fin _ _ k1 (by simp [chk, nb, e3, e4, e5])
  simp [e5, q1]
  have hs : o.sc ≠ 0 := by omega
  simp [good15, q1]
  refine c69 _ o.sc hs q1 (by simp) (by simp) ?_
  cases e6 : lenok o.w o.sc with
  | false =>
    simp
    exact fin _ _ k1 (by simp [chk, nb, e3, e4, e5, e6])
  | true =>
  simp [good15, q1]
  refine c69 _ o.sc hs q1 (by simp) (by simp) ?_
  cases e7 : lenok o.h o.sc with
  | false =>
    simp
    exact fin _ _ k1 (by simp [chk, nb, e3, e4, e5, e6, e7])
  | true =>
  simp [q1]
  by_cases e8 : o.rf < 1000
  · simp [e8]
    exact fin _ _ k1 (by simp [chk, nb, e3, e4, e5, e6, e7, e8])
  simp [e8, q1]
  by_cases e9 : 240000 < o.rf
  · simp [e9]
    exact fin _ _ k1 (by simp [chk, nb, e3, e4, e5, e6, e7, e8, e9])
  simp [e9, q1, good16]
  refine c70 _ _ _ fun H2 h2 => ?_
  have k2 := k1.trans h2
  have q2 := h2.at q1
  cases e10 : okc o.x with
  | false =>
    simp
    exact fin _ _ k2 (by simp [chk, nb, e3, e4, e5, e6, e7, e8, e9, e10])
  | true =>
  simp [q2, good16]
  refine c70 _ _ _ fun H3 h3 => ?_
  have k3 := k2.trans h3
  have q3 := h3.at q2
  cases e11 : okc o.y with
  | false =>
    simp
    exact fin _ _ k3 (by simp [chk, nb, e3, e4, e5, e6, e7, e8, e9, e10, e11])
  | true =>
  simp [q3]
  refine c68 o hs _ _ fun H4 h4 => ?_
  simp
  refine c72 _ _ _ fun H5 h5 => ?_
  have k5 := (k3.trans h4).trans h5
  cases e12 : rvalid (lrect o) with
  | false =>
    simp
    exact fin _ _ k5 (by simp [chk, nb, e3, e4, e5, e6, e7, e8, e9, e10, e11, e12])
  | true =>
  simp
  exact fin _ _ k5 (by simp [chk, nb, e3, e4, e5, e6, e7, e8, e9, e10, e11, e12])
end Go.Proofs.YtidcajmbkbamcaaGreat
end

/-! Check of the specification: it answers as the program's does. No conditions. -/
section
namespace Go.Proofs.YtidcajmbkbamcaaGreat
open Go Go.Ab Go.RowKit
set_option linter.unusedSimpArgs false
set_option linter.unusedVariables false
set_option linter.unnecessarySimpa false

attribute [local simp] condK_true condK_false condK_not wpc_skip wpc_ret wpc_exit wpc_seq wpc_reg wpc_regD testA_bool wpc_cond wpc_block thenA_normal thenA_ret thenA_exit blockA_normal blockA_ret blockA_exit blockA_other endA_normal endA_ret ev_tmp' ev_const ev_func ev_global cv_int cv_bool cv_string cv_pointer cv_slice cv_agg cv_map put_some put_none wH_s setE_apply setE_env less_eq env_cons env_nil upd_upd upd_apply del_apply startA_eq cells_ag cells_sl one_sl cells_vs one_vs cells_ep one_ep cells_fn one_fn cells_int one_int cells_bool one_bool cells_string one_string cells_pointer one_pointer cells_slice one_slice cells_map one_map cells_agg resK_one resK_nil resK_two rvK_t rvK_c rvsK_nil rvsK_cons iseq_nil iseq_cons gdA_true gdA_false gdA_undef istep_free istep_guard istepV_free istepV_guard dseq_nil dseq_pu dseq_rd dseq_ef wpc_regT dtree_nil dtree_pu dtree_rd dtree_ef dtree_br chkAll_nil chkAll_cons andK_true pickK_true pickK_false pickK_tb pickK_fb bin2K_pl eqbK_eq eqbK_ne eqpK_eq eqpK_ne eqmK_eq eqmK_ne eqzK_eq eqzK_ne eqzK_sl eqzK_vs un1K_pl convK_int fillK_some fillA_cons fillA_nil cellsK_some needK_true needK_ok seeK_ep seeK_ptr oneK_agg oneK_one nilcK_ptr nilcK_ep fadrK_ptr fadrK_ep fldK_ag iadAK_ptr iadAK_ep iadSK_sl iadSK_vs extK_0 extK_1 extK_2 extK_3 lenK_pl lenK_sl lenK_vs lensK_pl boxK_some minmax1K_int storeK_ptr callvK_fn callvK_pl newsK_nil newsK_vs newsK_sl appK_nil appK_nil0 appK_sl appK_vs bnd1K_int bndK_none bndK_some slsK_vs slsK_nil slsK_sl0 slsK_sl slstrK_pl boolK_some eqsK_ag iop_eqs iop_sls iop_slstr seesK_some seesK_ro mapsK_some MAP_some findK_some findK_none plK_pl nmapK_none nmapK_some iop_mlook iop_mlen iop_mmk iop_mupd iop_mdel iop_mrng itK_none itK_some ptr0K_ptr iop_mnxt iop_ment it1K_some entK_some iop_mov iop_pick iop_bin iop_eqb iop_eqp iop_eqm iop_eqz iop_un capK_pl capK_sl capK_vs iop_cap apzK_nil iop_apz mksK_int iop_mks clrK_sl clrK_vs clrK_nil iop_clr iop_conv iop_build iop_load iop_nilc iop_fadr iop_fld iop_iadA iop_iadS iop_ext iop_mkf iop_len iop_lens iop_minmax iop_al iop_box iop_bsl iop_store iop_call iop_callv iop_app BIN_add BIN_sub BIN_mul BIN_and BIN_or BIN_xor BIN_andNot BIN_eql BIN_neq BIN_lss BIN_leq BIN_gtr BIN_geq BIN_quo BIN_rem BIN_shl BIN_shr BIN_sadd BIN_seql BIN_sneq BIN_slss BIN_sleq BIN_sgtr BIN_sgeq UN_neg UN_xor UN_not MM_nil MM_cons partsA argsA ptrA lessL eqL min2I slotN_int slotP_int slotI_int

theorem empty_size (b : ByteArray) : b.toList.isEmpty = decide (b.size < 1) := by
  have h : b.toList.length = b.size := by
    rw [ByteArray.toList_eq]
    rfl
  cases e : b.toList with
  | nil =>
    have : b.size < 1 := by rw [e] at h; simp only [List.length_nil] at h; omega
    rw [decide_eq_true this]; rfl
  | cons x l =>
    have : ¬ b.size < 1 := by rw [e] at h; simp only [List.length_cons] at h; omega
    rw [decide_eq_false this]; rfl

theorem sz_le (o : O) (h1 : lenok o.w o.sc = true) (h2 : lenok o.h o.sc = true) (h3 : 1 ≤ o.sc) : 0 ≤ (sz o).1 ∧ (sz o).1 ≤ 256 ∧ 0 ≤ (sz o).2 ∧ (sz o).2 ≤ 256 := by
  simp [lenok] at h1 h2
  have key : ∀ n : Int, 1 ≤ n → n ≤ 256 → 0 ≤ W64 (n.tdiv o.sc) ∧ W64 (n.tdiv o.sc) ≤ 256 := by
    intro n a b
    have h0 : n.tdiv o.sc = n / o.sc := Int.tdiv_eq_ediv_of_nonneg (by omega)
    have g1 : 0 ≤ n / o.sc := Int.ediv_nonneg (by omega) (by omega)
    have g2 : n / o.sc ≤ n := Int.ediv_le_self _ (by omega)
    rw [h0, W64, IntWalk.i64_in _ (by omega)]
    omega
  unfold sz swp
  split
  · exact ⟨(key _ (by omega) (by omega)).1, (key _ (by omega) (by omega)).2, (key _ (by omega) (by omega)).1, (key _ (by omega) (by omega)).2⟩
  · exact ⟨(key _ (by omega) (by omega)).1, (key _ (by omega) (by omega)).2, (key _ (by omega) (by omega)).1, (key _ (by omega) (by omega)).2⟩

theorem okc_iff (x : Int) : okc x = true ↔ -16384 ≤ x ∧ x ≤ 16384 := by simp [okc]
theorem okc_sum (x w : Int) (h1 : 0 ≤ w) (h2 : w ≤ 256) : (okc x = true ∧ okc (W64 (x + w)) = true) ↔ ¬ (x < -16384 ∨ 16384 - w < x) := by
  rw [okc_iff, okc_iff]
  constructor
  · rintro ⟨a, b⟩
    rw [W64, IntWalk.i64_in _ (by omega)] at b
    omega
  · intro a
    rw [W64, IntWalk.i64_in _ (by omega)]
    omega

theorem c38 (o : O) : PC Tryz.prog 38 [.ag (oc o)] (vi (chk o)) := by
  intro H K hk
  refine call_c follows cf38_ok (by simp) ?_
  simp [oc]
  refine newK_of fun p hp => ?_
  have g0 : ∀ o, Ext H (upd H p o) := fun _ => (Ext.refl H).upd hp
  simp
  have fin : ∀ H' v, Ext H H' → chk o = v → K (vi v) H' := fun H' v h1 h2 => h2 ▸ hk H' h1
  by_cases e1 : (o.nm.size : Int) < 1
  · have e1' : o.nm.size = 0 := by omega
    simp [e1']
    exact fin _ _ (g0 _) (by simp [chk, nmbad, empty_size, e1'])
  have e1' : ¬ o.nm.size = 0 := by omega
  have e1'' : ¬ o.nm.size < 1 := by omega
  simp [e1, e1', e1'']
  by_cases e2 : (32 : Int) < o.nm.size
  · simp [e2]
    exact fin _ _ (g0 _) (by simp [chk, nmbad, e2])
  simp [e2]
  have nb : nmbad o = false := by simp [nmbad, empty_size, e1', e1'']; omega
  refine c59 _ _ _ fun H1 h1 => ?_
  have k1 := (g0 _).trans h1
  have q1 := h1.at (b := p) (by simp; rfl)
  cases e3 : okt o.tr with
  | false =>
    simp
    exact fin _ _ k1 (by simp [chk, nb, e3])
  | true =>
  simp [q1]
  by_cases e4 : o.sc < 1
  · simp [e4]
    exact fin _ _ k1 (by simp [chk, nb, e3, e4])
  simp [e4, q1]
  by_cases e5 : 4 < o.sc
  · simp [e5]
    exact fin _ _ k1 (by simp [chk, nb, e3, e4, e5])
  have hs : o.sc ≠ 0 := by omega
  simp [e5, q1]
  refine c60 _ _ hs _ _ fun H2 h2 => ?_
  have k2 := k1.trans h2
  have q2 := h2.at q1
  cases e6 : lenok o.w o.sc with
  | false =>
    simp
    exact fin _ _ k2 (by simp [chk, nb, e3, e4, e5, e6])
  | true =>
  simp [q2]
  refine c60 _ _ hs _ _ fun H3 h3 => ?_
  have k3 := k2.trans h3
  have q3 := h3.at q2
  cases e7 : lenok o.h o.sc with
  | false =>
    simp
    exact fin _ _ k3 (by simp [chk, nb, e3, e4, e5, e6, e7])
  | true =>
  simp [q3]
  by_cases e8 : o.rf < 1000
  · simp [e8]
    exact fin _ _ k3 (by simp [chk, nb, e3, e4, e5, e6, e7, e8])
  simp [e8, q3]
  by_cases e9 : 240000 < o.rf
  · simp [e9]
    exact fin _ _ k3 (by simp [chk, nb, e3, e4, e5, e6, e7, e8, e9])
  simp [e9, q3]
  refine c39 o hs _ _ fun H4 h4 => ?_
  have k4 := k3.trans h4
  have q4 := h4.at q3
  obtain ⟨b1, b2, b3, b4⟩ := sz_le o e6 e7 (by omega)
  have rest : chk o = if o.x < -16384 ∨ 16384 - (sz o).1 < o.x ∨ o.y < -16384 ∨ 16384 - (sz o).2 < o.y then 6 else 0 := by
    have r0 : chk o = if okc o.x = false then 6 else if okc o.y = false then 6 else if rvalid (lrect o) = false then 6 else 0 := by simp [chk, nb, e3, e4, e5, e6, e7, e8, e9]
    rw [r0]
    have s1 := okc_sum o.x (sz o).1 b1 b2
    have s2 := okc_sum o.y (sz o).2 b3 b4
    have r1 : rvalid (lrect o) = (okc o.x && okc o.y && okc (W64 (o.x + (sz o).1)) && okc (W64 (o.y + (sz o).2))) := rfl
    rw [r1]
    by_cases a1 : o.x < -16384 ∨ 16384 - (sz o).1 < o.x
    · have a3 : ¬ (okc o.x = true ∧ okc (W64 (o.x + (sz o).1)) = true) := fun h => s1.1 h a1
      have hc : o.x < -16384 ∨ 16384 - (sz o).1 < o.x ∨ o.y < -16384 ∨ 16384 - (sz o).2 < o.y := by omega
      rw [if_pos hc]
      clear r0 s1 s2 r1 hk fin
      cases w1 : okc o.x <;> cases w2 : okc o.y <;> cases w3 : okc (W64 (o.x + (sz o).1)) <;> simp_all
    · obtain ⟨w1, w3⟩ := s1.2 a1
      by_cases a2 : o.y < -16384 ∨ 16384 - (sz o).2 < o.y
      · have a3 : ¬ (okc o.y = true ∧ okc (W64 (o.y + (sz o).2)) = true) := fun h => s2.1 h a2
        have hc : o.x < -16384 ∨ 16384 - (sz o).1 < o.x ∨ o.y < -16384 ∨ 16384 - (sz o).2 < o.y := by omega
        rw [if_pos hc]
        clear r0 s1 s2 r1 hk fin
        cases w2 : okc o.y <;> cases w4 : okc (W64 (o.y + (sz o).2)) <;> simp_all
      · obtain ⟨w2, w4⟩ := s2.2 a2
        have hc : ¬ (o.x < -16384 ∨ 16384 - (sz o).1 < o.x ∨ o.y < -16384 ∨ 16384 - (sz o).2 < o.y) := by omega
        rw [if_neg hc]
        simp [w1, w2, w3, w4]
  simp (disch := omega) [q4, IntWalk.i64_in]
  by_cases z1 : o.x < -16384
  · simp [z1]
    exact fin _ _ k4 (by rw [rest, if_pos (by omega)])
  simp (disch := omega) [z1, q4, IntWalk.i64_in]
  by_cases z2 : 16384 - (sz o).1 < o.x
  · simp [z2]
    exact fin _ _ k4 (by rw [rest, if_pos (by omega)])
  simp (disch := omega) [z2, q4, IntWalk.i64_in]
  by_cases z3 : o.y < -16384
  · simp [z3]
    exact fin _ _ k4 (by rw [rest, if_pos (by omega)])
  simp (disch := omega) [z3, q4, IntWalk.i64_in]
  by_cases z4 : 16384 - (sz o).2 < o.y
  · simp [z4]
    exact fin _ _ k4 (by rw [rest, if_pos (by omega)])
  simp [z4]
  exact fin _ _ k4 (by rw [rest, if_neg (by omega)])
end Go.Proofs.YtidcajmbkbamcaaGreat
end

/-! Equal, Logical, Interval, of the program and of the specification. No conditions. -/
section
namespace Go.Proofs.YtidcajmbkbamcaaGreat
open Go Go.Ab Go.RowKit
set_option linter.unusedSimpArgs false
set_option linter.unusedVariables false
set_option linter.unnecessarySimpa false

attribute [local simp] condK_true condK_false condK_not wpc_skip wpc_ret wpc_exit wpc_seq wpc_reg wpc_regD testA_bool wpc_cond wpc_block thenA_normal thenA_ret thenA_exit blockA_normal blockA_ret blockA_exit blockA_other endA_normal endA_ret ev_tmp' ev_const ev_func ev_global cv_int cv_bool cv_string cv_pointer cv_slice cv_agg cv_map put_some put_none wH_s setE_apply setE_env less_eq env_cons env_nil upd_upd upd_apply del_apply startA_eq cells_ag cells_sl one_sl cells_vs one_vs cells_ep one_ep cells_fn one_fn cells_int one_int cells_bool one_bool cells_string one_string cells_pointer one_pointer cells_slice one_slice cells_map one_map cells_agg resK_one resK_nil resK_two rvK_t rvK_c rvsK_nil rvsK_cons iseq_nil iseq_cons gdA_true gdA_false gdA_undef istep_free istep_guard istepV_free istepV_guard dseq_nil dseq_pu dseq_rd dseq_ef wpc_regT dtree_nil dtree_pu dtree_rd dtree_ef dtree_br chkAll_nil chkAll_cons andK_true pickK_true pickK_false pickK_tb pickK_fb bin2K_pl eqbK_eq eqbK_ne eqpK_eq eqpK_ne eqmK_eq eqmK_ne eqzK_eq eqzK_ne eqzK_sl eqzK_vs un1K_pl convK_int fillK_some fillA_cons fillA_nil cellsK_some needK_true needK_ok seeK_ep seeK_ptr oneK_agg oneK_one nilcK_ptr nilcK_ep fadrK_ptr fadrK_ep fldK_ag iadAK_ptr iadAK_ep iadSK_sl iadSK_vs extK_0 extK_1 extK_2 extK_3 lenK_pl lenK_sl lenK_vs lensK_pl boxK_some minmax1K_int storeK_ptr callvK_fn callvK_pl newsK_nil newsK_vs newsK_sl appK_nil appK_nil0 appK_sl appK_vs bnd1K_int bndK_none bndK_some slsK_vs slsK_nil slsK_sl0 slsK_sl slstrK_pl boolK_some eqsK_ag iop_eqs iop_sls iop_slstr seesK_some seesK_ro mapsK_some MAP_some findK_some findK_none plK_pl nmapK_none nmapK_some iop_mlook iop_mlen iop_mmk iop_mupd iop_mdel iop_mrng itK_none itK_some ptr0K_ptr iop_mnxt iop_ment it1K_some entK_some iop_mov iop_pick iop_bin iop_eqb iop_eqp iop_eqm iop_eqz iop_un capK_pl capK_sl capK_vs iop_cap apzK_nil iop_apz mksK_int iop_mks clrK_sl clrK_vs clrK_nil iop_clr iop_conv iop_build iop_load iop_nilc iop_fadr iop_fld iop_iadA iop_iadS iop_ext iop_mkf iop_len iop_lens iop_minmax iop_al iop_box iop_bsl iop_store iop_call iop_callv iop_app BIN_add BIN_sub BIN_mul BIN_and BIN_or BIN_xor BIN_andNot BIN_eql BIN_neq BIN_lss BIN_leq BIN_gtr BIN_geq BIN_quo BIN_rem BIN_shl BIN_shr BIN_sadd BIN_seql BIN_sneq BIN_slss BIN_sleq BIN_sgtr BIN_sgeq UN_neg UN_xor UN_not MM_nil MM_cons partsA argsA ptrA lessL eqL min2I slotN_int slotP_int slotI_int

def eqO (a b : O) : Bool := (a.nm.toList == b.nm.toList) && ((a.w == b.w) && ((a.h == b.h) && ((a.rf == b.rf) && ((a.sc == b.sc) && ((a.tr == b.tr) && ((a.x == b.x) && (a.y == b.y)))))))
def lg (o : O) : R := if chk o = 0 then lrect o else ⟨0, 0, 0, 0⟩
theorem chk_sc (o : O) (h : chk o = 0) : 1 ≤ o.sc ∧ o.sc ≤ 4 ∧ 1000 ≤ o.rf ∧ o.rf ≤ 240000 ∧ nmbad o = false := by
  unfold chk at h
  split at h
  · simp at h
  split at h
  · simp at h
  split at h
  · simp at h
  split at h
  · simp at h
  split at h
  · simp at h
  split at h
  · simp at h
  split at h
  · simp at h
  split at h
  · simp at h
  rename_i g _ _ _ _ _ _ _
  exact ⟨by omega, by omega, by omega, by omega, by simpa using g⟩
theorem c46 (o : O) : PC Tryz.prog 46 [.ag (oc o)] (.ag (rc (lg o))) := by
  intro H K hk
  refine call_c follows cf46_ok (by simp) ?_
  simp [oc]
  refine newK_of fun p hp => ?_
  simp
  refine newK_of fun q hq => ?_
  obtain ⟨n1, hq⟩ := upd_none.1 hq
  simp [n1, Ne.symm n1]
  refine c47 o _ _ fun H1 h1 => ?_
  have g0 : Ext H H1 := (((Ext.refl H).upd hp).upd hq).trans h1
  have g1 := h1.at (b := p) (by simp [Ne.symm n1]; rfl)
  have g2 := h1.at (b := q) (by simp; rfl)
  unfold lg at hk
  by_cases e : chk o = 0
  · rw [if_pos e] at hk
    simp [e, g1, g2]
    refine c68 o (by have := chk_sc o e; omega) _ _ fun H2 h2 => ?_
    simp [rc, h2.at g2]
    exact hk _ ((g0.trans h2).upd hq)
  · rw [if_neg e] at hk
    simp [e, g1, g2]
    exact hk _ (g0.upd hq)
theorem c16 (o : O) : PC Tryz.prog 16 [.ag (oc o)] (.ag (rc (lg o))) := by
  intro H K hk
  refine call_c follows cf16_ok (by simp) ?_
  simp [oc]
  refine newK_of fun p hp => ?_
  simp
  refine newK_of fun q hq => ?_
  obtain ⟨n1, hq⟩ := upd_none.1 hq
  simp [n1, Ne.symm n1]
  refine c38 o _ _ fun H1 h1 => ?_
  have g0 : Ext H H1 := (((Ext.refl H).upd hp).upd hq).trans h1
  have g1 := h1.at (b := p) (by simp [Ne.symm n1]; rfl)
  have g2 := h1.at (b := q) (by simp; rfl)
  unfold lg at hk
  by_cases e : chk o = 0
  · rw [if_pos e] at hk
    simp [e, g1, g2]
    refine c39 o (by have := chk_sc o e; omega) _ _ fun H2 h2 => ?_
    simp [h2.at g1, h2.at g2, n1, Ne.symm n1]
    exact hk _ ((g0.trans h2).upd hq)
  · rw [if_neg e] at hk
    simp [e, g1, g2]
    exact hk _ (g0.upd hq)

def itv (o : O) : Int := if chk o = 0 then (2000000000000 + o.rf) / (2 * o.rf) else 0
theorem itv_eq (o : O) (e : chk o = 0) : IntKind.i64.wrap ((IntKind.i64.wrap (2000000000000 + o.rf)).tdiv (IntKind.i64.wrap (2 * o.rf))) = itv o := by
  have := chk_sc o e
  rw [itv, if_pos e, IntWalk.i64_in (2000000000000 + o.rf) (by omega), IntWalk.i64_in (2 * o.rf) (by omega), IntWalk.i64_quo _ _ (by omega)]
end Go.Proofs.YtidcajmbkbamcaaGreat
end

/-! Rectangles: empty, canonical, the common part, the area; one within another. Conditions: as each lemma states them. -/
section
namespace Go.Proofs.YtidcajmbkbamcaaGreat
open Go Go.Ab Go.RowKit
set_option linter.unusedSimpArgs false
set_option linter.unusedVariables false
set_option linter.unnecessarySimpa false

attribute [local simp] condK_true condK_false condK_not wpc_skip wpc_ret wpc_exit wpc_seq wpc_reg wpc_regD testA_bool wpc_cond wpc_block thenA_normal thenA_ret thenA_exit blockA_normal blockA_ret blockA_exit blockA_other endA_normal endA_ret ev_tmp' ev_const ev_func ev_global cv_int cv_bool cv_string cv_pointer cv_slice cv_agg cv_map put_some put_none wH_s setE_apply setE_env less_eq env_cons env_nil upd_upd upd_apply del_apply startA_eq cells_ag cells_sl one_sl cells_vs one_vs cells_ep one_ep cells_fn one_fn cells_int one_int cells_bool one_bool cells_string one_string cells_pointer one_pointer cells_slice one_slice cells_map one_map cells_agg resK_one resK_nil resK_two rvK_t rvK_c rvsK_nil rvsK_cons iseq_nil iseq_cons gdA_true gdA_false gdA_undef istep_free istep_guard istepV_free istepV_guard dseq_nil dseq_pu dseq_rd dseq_ef wpc_regT dtree_nil dtree_pu dtree_rd dtree_ef dtree_br chkAll_nil chkAll_cons andK_true pickK_true pickK_false pickK_tb pickK_fb bin2K_pl eqbK_eq eqbK_ne eqpK_eq eqpK_ne eqmK_eq eqmK_ne eqzK_eq eqzK_ne eqzK_sl eqzK_vs un1K_pl convK_int fillK_some fillA_cons fillA_nil cellsK_some needK_true needK_ok seeK_ep seeK_ptr oneK_agg oneK_one nilcK_ptr nilcK_ep fadrK_ptr fadrK_ep fldK_ag iadAK_ptr iadAK_ep iadSK_sl iadSK_vs extK_0 extK_1 extK_2 extK_3 lenK_pl lenK_sl lenK_vs lensK_pl boxK_some minmax1K_int storeK_ptr callvK_fn callvK_pl newsK_nil newsK_vs newsK_sl appK_nil appK_nil0 appK_sl appK_vs bnd1K_int bndK_none bndK_some slsK_vs slsK_nil slsK_sl0 slsK_sl slstrK_pl boolK_some eqsK_ag iop_eqs iop_sls iop_slstr seesK_some seesK_ro mapsK_some MAP_some findK_some findK_none plK_pl nmapK_none nmapK_some iop_mlook iop_mlen iop_mmk iop_mupd iop_mdel iop_mrng itK_none itK_some ptr0K_ptr iop_mnxt iop_ment it1K_some entK_some iop_mov iop_pick iop_bin iop_eqb iop_eqp iop_eqm iop_eqz iop_un capK_pl capK_sl capK_vs iop_cap apzK_nil iop_apz mksK_int iop_mks clrK_sl clrK_vs clrK_nil iop_clr iop_conv iop_build iop_load iop_nilc iop_fadr iop_fld iop_iadA iop_iadS iop_ext iop_mkf iop_len iop_lens iop_minmax iop_al iop_box iop_bsl iop_store iop_call iop_callv iop_app BIN_add BIN_sub BIN_mul BIN_and BIN_or BIN_xor BIN_andNot BIN_eql BIN_neq BIN_lss BIN_leq BIN_gtr BIN_geq BIN_quo BIN_rem BIN_shl BIN_shr BIN_sadd BIN_seql BIN_sneq BIN_slss BIN_sleq BIN_sgtr BIN_sgeq UN_neg UN_xor UN_not MM_nil MM_cons partsA argsA ptrA lessL eqL min2I slotN_int slotP_int slotI_int

theorem rc_len (r : R) : (rc r).length = 4 := rfl
theorem rc_t4 (r : R) : (rc r).take 4 = rc r := rfl
theorem rc_t1 (r : R) : (rc r).take 1 = [vi r.x0] := rfl
theorem rc_t2 (r : R) : (rc r).take 2 = [vi r.x0, vi r.y0] := rfl
theorem rc_t3 (r : R) : (rc r).take 3 = [vi r.x0, vi r.y0, vi r.x1] := rfl
theorem rc_d1 (r : R) : (rc r).tail = [vi r.y0, vi r.x1, vi r.y1] := rfl
theorem rc_d2 (r : R) : (rc r).drop 2 = [vi r.x1, vi r.y1] := rfl
theorem rc_d3 (r : R) : (rc r).drop 3 = [vi r.y1] := rfl
theorem rc_d4 (r : R) : (rc r).drop 4 = [] := rfl
theorem rc_ag (a b c d : Int) : AV.ag [vi a, vi b, vi c, vi d] = .ag (rc ⟨a, b, c, d⟩) := rfl
theorem rc_one (r : R) : (rc r).all AV.one = true := rfl
theorem rc_inj (a b : R) : rc a = rc b ↔ a = b := by cases a; cases b; simp [rc]
def req (a b : R) : Bool := a.x0 == b.x0 && (a.y0 == b.y0 && (a.x1 == b.x1 && a.y1 == b.y1))
theorem rc_eq (a b : R) : eqL [1, 1, 1, 1] (rc a) (rc b) = some (req a b) := by simp [rc, eqL, req]
theorem req_iff (a b : R) : req a b = true ↔ a = b := by cases a; cases b; simp [req]
attribute [local simp] rc_len rc_t4 rc_t1 rc_t2 rc_t3 rc_d1 rc_d2 rc_d3 rc_d4 rc_ag rc_one rc_eq
theorem min2_t (a b : Int) : (if a < b then b else a) = max a b := by omega
theorem min2_f (a b : Int) : (if b < a then b else a) = min a b := by omega
attribute [local simp] min2_t min2_f

def rempty (r : R) : Bool := !rvalid r || decide (r.x1 ≤ r.x0) || decide (r.y1 ≤ r.y0)
theorem c73 (r : R) : PC Tryz.prog 73 [.ag (rc r)] (vb (rempty r)) := by
  refine .tell fun H => ?_
  refine call_c follows cf73_ok (by simp) ?_
  repeat' (first | simp [*] | (with_reducible (refine newK_of fun _ h_ => ?_); have hn_ := free_ne h_; (try simp only [upd_none', ne_eq] at h_)) | (with_reducible (refine condK_of (fun h_ => ?_) (fun h_ => ?_))) | with_reducible (refine (c72 ..).ac ?_))
  all_goals ((try with_reducible refine And.intro ?_ ?_) <;> (try (repeat' (first | with_reducible exact Sub.refl _ | with_reducible refine Sub.of_upd (by simp [*]) ?_))))
  all_goals (simp_all [rempty] <;> omega)
def rcan (r : R) : R := if rempty r then ⟨0, 0, 0, 0⟩ else r
theorem c67 (r : R) : PC Tryz.prog 67 [.ag (rc r)] (.ag (rc (rcan r))) := by
  refine .tell fun H => ?_
  refine call_c follows cf67_ok (by simp) ?_
  repeat' (first | simp [*] | (with_reducible (refine newK_of fun _ h_ => ?_); have hn_ := free_ne h_; (try simp only [upd_none', ne_eq] at h_)) | (with_reducible (refine condK_of (fun h_ => ?_) (fun h_ => ?_))) | with_reducible (refine (c73 ..).ac ?_))
  all_goals ((try with_reducible refine And.intro ?_ ?_) <;> (try (repeat' (first | with_reducible exact Sub.refl _ | with_reducible refine Sub.of_upd (by simp [*]) ?_))))
  all_goals (simp_all [rcan] <;> omega)
def rcap (a b : R) : R := if rempty a || rempty b then ⟨0, 0, 0, 0⟩ else rcan ⟨max a.x0 b.x0, max a.y0 b.y0, min a.x1 b.x1, min a.y1 b.y1⟩
theorem c74 (a b : R) : PC Tryz.prog 74 [.ag (rc a), .ag (rc b)] (.ag (rc (rcap a b))) := by
  refine .tell fun H => ?_
  refine call_c follows cf74_ok (by simp) ?_
  repeat' (first | simp [*] | (with_reducible (refine newK_of fun _ h_ => ?_); have hn_ := free_ne h_; (try simp only [upd_none', ne_eq] at h_)) | (with_reducible (refine condK_of (fun h_ => ?_) (fun h_ => ?_))) | with_reducible (refine (c73 ..).ac ?_) | with_reducible (refine (c67 ..).ac ?_))
  all_goals ((try with_reducible refine And.intro ?_ ?_) <;> (try (repeat' (first | with_reducible exact Sub.refl _ | with_reducible refine Sub.of_upd (by simp [*]) ?_))))
  all_goals (simp_all [rcap] <;> omega)

theorem rempty_ok (r : R) (h : rempty r = false) : -16384 ≤ r.x0 ∧ r.x0 < r.x1 ∧ r.x1 ≤ 16384 ∧ -16384 ≤ r.y0 ∧ r.y0 < r.y1 ∧ r.y1 ≤ 16384 := by
  simp [rempty, rvalid, okc] at h; omega
theorem rempty_of (r : R) (h : -16384 ≤ r.x0 ∧ r.x0 < r.x1 ∧ r.x1 ≤ 16384 ∧ -16384 ≤ r.y0 ∧ r.y0 < r.y1 ∧ r.y1 ≤ 16384) : rempty r = false := by
  simp [rempty, rvalid, okc]; omega
theorem rempty_iff (r : R) : rempty r = false ↔ -16384 ≤ r.x0 ∧ r.x0 < r.x1 ∧ r.x1 ≤ 16384 ∧ -16384 ≤ r.y0 ∧ r.y0 < r.y1 ∧ r.y1 ≤ 16384 := ⟨rempty_ok r, rempty_of r⟩
theorem rempty_zero : rempty ⟨0, 0, 0, 0⟩ = true := by decide
theorem rcan_rng (r : R) : -16384 ≤ (rcan r).x0 ∧ (rcan r).x0 ≤ 16384 ∧ -16384 ≤ (rcan r).x1 ∧ (rcan r).x1 ≤ 16384 ∧ -16384 ≤ (rcan r).y0 ∧ (rcan r).y0 ≤ 16384 ∧ -16384 ≤ (rcan r).y1 ∧ (rcan r).y1 ≤ 16384 := by
  unfold rcan
  cases h : rempty r with
  | true => simp
  | false => have := rempty_ok r h; simp; omega
end Go.Proofs.YtidcajmbkbamcaaGreat
end
