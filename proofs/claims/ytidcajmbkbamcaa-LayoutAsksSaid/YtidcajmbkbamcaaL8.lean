/-
  The chapter's example. No conditions.
-/
import Derived.Test.YtidcajmbkbamcaaL7
import Derived.Test.YtidcajmbkbamcaaXRow
namespace Go.Proofs.Ytidcajmbkbamcaa
open Go Go.Ab Go.RowKit
set_option linter.unusedSimpArgs false
set_option linter.unusedVariables false
set_option linter.unnecessarySimpa false

attribute [local simp] condK_true condK_false condK_not wpc_skip wpc_ret wpc_exit wpc_seq wpc_reg wpc_regD testA_bool wpc_cond wpc_block thenA_normal thenA_ret thenA_exit blockA_normal blockA_ret blockA_exit blockA_other endA_normal endA_ret ev_tmp' ev_const ev_func ev_global cv_int cv_bool cv_string cv_pointer cv_slice cv_agg put_some put_none wH_s setE_apply setE_env less_eq env_cons env_nil upd_upd upd_apply del_apply startA_eq cells_ag cells_sl one_sl cells_vs one_vs cells_ep one_ep cells_fn one_fn cells_int one_int cells_bool one_bool cells_string one_string cells_pointer one_pointer cells_slice one_slice cells_map one_map cells_agg resK_one resK_nil resK_two rvK_t rvK_c rvsK_nil rvsK_cons iseq_nil iseq_cons gdA_true gdA_false gdA_undef istep_free istep_guard istepV_free istepV_guard dseq_nil dseq_pu dseq_rd dseq_ef chkAll_nil chkAll_cons andK_true pickK_true pickK_false pickK_tb pickK_fb bin2K_pl eqbK_eq eqbK_ne eqpK_eq eqpK_ne un1K_pl convK_int fillK_some fillA_cons fillA_nil cellsK_some needK_true needK_ok seeK_ep seeK_ptr oneK_agg oneK_one nilcK_ptr nilcK_ep fadrK_ptr fadrK_ep fldK_ag iadAK_ptr iadAK_ep iadSK_sl iadSK_vs extK_0 extK_1 extK_2 extK_3 lenK_pl lenK_sl lenK_vs lensK_pl boxK_some minmax1K_int storeK_ptr callvK_fn callvK_pl newsK_nil newsK_vs newsK_sl appK_nil appK_nil0 appK_sl appK_vs bnd1K_int bndK_none bndK_some slsK_vs slsK_nil slsK_sl0 slsK_sl slstrK_pl boolK_some eqsK_ag iop_eqs iop_sls iop_slstr seesK_some seesK_ro mapsK_some MAP_some findK_some findK_none plK_pl nmapK_none nmapK_some iop_mlook iop_mlen iop_mmk iop_mupd iop_mdel iop_mrng itK_none itK_some ptr0K_ptr iop_mnxt iop_ment it1K_some entK_some iop_mov iop_pick iop_bin iop_eqb iop_eqp iop_un iop_conv iop_build iop_load iop_nilc iop_fadr iop_fld iop_iadA iop_iadS iop_ext iop_mkf iop_len iop_lens iop_minmax iop_al iop_box iop_bsl iop_store iop_call iop_callv iop_app BIN_add BIN_sub BIN_mul BIN_and BIN_or BIN_xor BIN_andNot BIN_eql BIN_neq BIN_lss BIN_leq BIN_gtr BIN_geq BIN_quo BIN_rem BIN_shl BIN_shr BIN_sadd BIN_seql BIN_sneq BIN_slss BIN_sleq BIN_sgtr BIN_sgeq UN_neg UN_xor UN_not MM_nil MM_cons partsA argsA ptrA lessL eqL min2I slotN_int slotP_int slotI_int
attribute [local simp] oc_len oc_tt oc_dd oc_one oc_ag oc_t1 oc_t2 oc_t3 oc_t4 oc_t5 oc_t6 oc_t7 oc_d1 oc_d2 oc_d3 oc_d4 oc_d5 oc_d6 oc_d7 rc_len rc_t4 rc_t1 rc_t2 rc_t3 rc_d1 rc_d2 rc_d3 rc_d4 rc_ag rc_one rc_eq min2_t min2_f

def nA : ByteArray := ⟨#[97]⟩
def nB : ByteArray := ⟨#[98]⟩
def nC : ByteArray := ⟨#[99]⟩
def oA : O := scr nA 4 2 0 0
def oB : O := scr nB 2 2 4 0
def oC : O := scr nA 1 1 50 50
def mAB : List O := [oB] ++ [oA]
theorem ex_p1 : plugE [] oB = 0 := by kernel_rfl
theorem ex_p2 : plugE [oB] oA = 0 := by kernel_rfl
theorem ex_p3 : plugE mAB oC = 7 := by kernel_rfl
theorem ex_m3 : movE mAB nB 3 0 = 6 := by kernel_rfl
theorem ex_sort : srtL [[98], [97]] = [[97], [98]] := by
  have h : srtL [[98], [97]] = srtL [[97], [98]] := srtL_perm (List.Perm.swap ..)
  rw [h, srtL]
  exact List.mergeSort_of_pairwise (by simp; decide)
theorem ex_names : snames mAB = [nA, nB] := by
  have : mAB.map (fun o => o.nm.toList) = [[98], [97]] := by
    simp only [mAB, oA, oB, scr, nA, nB, ByteArray.toList_eq, List.cons_append, List.nil_append, List.map_cons, List.map_nil]
  rw [snames, this, ex_sort]; rfl
theorem ex_outs : souts mAB = [oA, oB] := by
  rw [souts, ex_names]; kernel_rfl
theorem ex_areas : sareas mAB = [⟨0, 0, 4, 2⟩, ⟨4, 0, 6, 2⟩] := by
  rw [sareas, ex_outs]; kernel_rfl
theorem ex_c1 : clF (sareas mAB) 9 9 = (5, 1) := by rw [ex_areas]; kernel_rfl
theorem ex_c2 : clF (sareas mAB) 3 (-5) = (3, 0) := by rw [ex_areas]; kernel_rfl
theorem ex_a1 : atF (souts mAB) 4 1 = nB := by rw [ex_outs]; kernel_rfl
theorem ex_a2 : atF (souts mAB) 6 0 = ⟨#[]⟩ := by rw [ex_outs]; kernel_rfl
theorem ex_i : mis [nB, nC, nC] [nA, nB] = [nC] := by kernel_rfl
theorem ex_o : mis [nA, nB] [nB, nC, nC] = [nA] := by kernel_rfl
theorem RowR.one1 {H : AH} {x : AV} {v : ByteArray} (h : RowR H x [v]) : (∃ q f, x = .sl q 0 1 1 f ∧ H q = some (.cells [vs8 v])) ∨ x = .vs 1 false [vs8 v] := h.at (by simp)
theorem c9 : PC Try.prog 9 [] (vb true) := by
  refine .tell fun H => ?_
  refine call_c follows cf9_ok (by simp) ?_
  simp
  refine c27 fun p b hp hb hg => ?_
  have hS : Sub H (upd (upd H b (.map [] [] 0)) p (.cells [vb true, .pl (.map (some b))])) := ((Sub.refl H).upd hb).upd hp
  generalize upd (upd H b (.map [] [] 0)) p (.cells [vb true, .pl (.map (some b))]) = H1 at hg hS ⊢
  have cA : (⟨#[97]⟩ : ByteArray) = nA := rfl
  have cB : (⟨#[98]⟩ : ByteArray) = nB := rfl
  have cC : (⟨#[99]⟩ : ByteArray) = nC := rfl
  simp [cA, cB, cC]
  refine (c28 nB 2 2 4 0).ac ?_
  have sB : scr nB 2 2 4 0 = oB := rfl
  have sA : scr nA 4 2 0 0 = oA := rfl
  have sC : scr nA 1 1 50 50 = oC := rfl
  simp [sB]
  refine c24 oB hg fun st1 cl1 h1 => ?_
  have e1 : plugM [] oB = [oB] := if_pos ex_p1
  rw [e1] at h1 ⊢
  rw [ex_p1]
  have hS1 : Sub H (upo H1 b [oB] st1 cl1) := hS.upd hb
  generalize upo H1 b [oB] st1 cl1 = H2 at *
  simp [cA, cB, cC]
  refine (c28 nA 4 2 0 0).ac ?_
  simp [sA]
  refine c24 oA h1 fun st2 cl2 h2 => ?_
  have e2 : plugM [oB] oA = mAB := if_pos ex_p2
  rw [e2] at h2 ⊢
  rw [ex_p2]
  have hS2 : Sub H (upo H2 b mAB st2 cl2) := hS1.upd hb
  generalize upo H2 b mAB st2 cl2 = H3 at *
  simp [cA, cB, cC]
  refine c14 9 9 h2 (by decide) ?_
  rw [ex_c1]
  simp [cA, cB, cC]
  refine c14 3 (-5) h2 (by decide) ?_
  rw [ex_c2]
  simp [cA, cB, cC]
  refine newK_of fun u hu => ?_
  have u1 : Sub H3 (upd H3 u (.cells [vs8 nA, vs8 nB])) := (Sub.refl _).upd hu
  simp [cA, cB, cC]
  refine newK_of fun v hv => ?_
  have u2 : Sub (upd H3 u (.cells [vs8 nA, vs8 nB])) (upd (upd H3 u (.cells [vs8 nA, vs8 nB])) v (.cells [vs8 nB, vs8 nC, vs8 nC])) := (Sub.refl _).upd hv
  have r1 : RowR (upd (upd H3 u (.cells [vs8 nA, vs8 nB])) v (.cells [vs8 nB, vs8 nC, vs8 nC])) (.sl u 0 2 1 true) [nA, nB] := .inl ⟨rfl, .inr ⟨u, true, rfl, u2 u _ (by simp [upd_apply])⟩⟩
  have r2 : RowR (upd (upd H3 u (.cells [vs8 nA, vs8 nB])) v (.cells [vs8 nB, vs8 nC, vs8 nC])) (.sl v 0 3 1 true) [nB, nC, nC] := .inl ⟨rfl, .inr ⟨v, true, rfl, by simp [upd_apply]⟩⟩
  simp [cA, cB, cC]
  refine c10 [nA, nB] [nB, nC, nC] r1 r2 (by decide) (by decide) fun i1 i2 H4 hs4 ri ro => ?_
  rw [ex_i] at ri
  rw [ex_o] at ro
  have h4 := h2.sub ((u1.trans u2).trans hs4)
  have hS4 := hS2.trans ((u1.trans u2).trans hs4)
  clear r1 r2 u1 u2 hs4 hv hu
  simp [cA, cB, cC]
  refine c16 4 1 h4 (by decide) ?_
  rw [ex_a1]
  simp [cA, cB, cC]
  refine c16 6 0 h4 (by decide) ?_
  rw [ex_a2]
  simp [cA, cB, cC]
  refine c29 nB 3 0 h4 fun st5 cl5 h5 => ?_
  have e5 : movM mAB nB 3 0 = mAB := if_neg (by rw [ex_m3]; decide)
  rw [e5] at h5 ⊢
  rw [ex_m3]
  have hi5 : RowR (upo H4 b mAB st5 cl5) i1 [nC] := by
    rcases ri with hr | hr
    · rcases hr with ⟨hl, ⟨h0, rfl⟩ | ⟨r, f, rfl, hr⟩⟩
      · exact .inl ⟨hl, .inl ⟨h0, rfl⟩⟩
      · have : r ≠ b := by rintro rfl; rw [h4.mp] at hr; cases hr
        exact .inl ⟨hl, .inr ⟨r, f, rfl, by simp only [upo, upd_apply, if_neg this]; exact hr⟩⟩
    · exact .inr hr
  have ho5 : RowR (upo H4 b mAB st5 cl5) i2 [nA] := by
    rcases ro with hr | hr
    · rcases hr with ⟨hl, ⟨h0, rfl⟩ | ⟨r, f, rfl, hr⟩⟩
      · exact .inl ⟨hl, .inl ⟨h0, rfl⟩⟩
      · have : r ≠ b := by rintro rfl; rw [h4.mp] at hr; cases hr
        exact .inl ⟨hl, .inr ⟨r, f, rfl, by simp only [upo, upd_apply, if_neg this]; exact hr⟩⟩
    · exact .inr hr
  have hS5 : Sub H (upo H4 b mAB st5 cl5) := hS4.upd hb
  generalize upo H4 b mAB st5 cl5 = H5 at *
  simp [cA, cB, cC]
  refine (c28 nA 1 1 50 50).ac ?_
  simp [sC]
  refine c24 oC h5 fun st6 cl6 h6 => ?_
  have e6 : plugM mAB oC = mAB := if_neg (by rw [ex_p3]; decide)
  rw [e6] at h6 ⊢
  rw [ex_p3]
  have hi6 : RowR (upo H5 b mAB st6 cl6) i1 [nC] := by
    rcases hi5 with hr | hr
    · rcases hr with ⟨hl, ⟨h0, rfl⟩ | ⟨r, f, rfl, hr⟩⟩
      · exact .inl ⟨hl, .inl ⟨h0, rfl⟩⟩
      · have : r ≠ b := by rintro rfl; rw [h5.mp] at hr; cases hr
        exact .inl ⟨hl, .inr ⟨r, f, rfl, by simp only [upo, upd_apply, if_neg this]; exact hr⟩⟩
    · exact .inr hr
  have ho6 : RowR (upo H5 b mAB st6 cl6) i2 [nA] := by
    rcases ho5 with hr | hr
    · rcases hr with ⟨hl, ⟨h0, rfl⟩ | ⟨r, f, rfl, hr⟩⟩
      · exact .inl ⟨hl, .inl ⟨h0, rfl⟩⟩
      · have : r ≠ b := by rintro rfl; rw [h5.mp] at hr; cases hr
        exact .inl ⟨hl, .inr ⟨r, f, rfl, by simp only [upo, upd_apply, if_neg this]; exact hr⟩⟩
    · exact .inr hr
  have hS6 : Sub H (upo H5 b mAB st6 cl6) := hS5.upd hb
  generalize upo H5 b mAB st6 cl6 = H6 at *
  rcases hi6.one1 with ⟨q, f, rfl, hq⟩ | rfl <;> rcases ho6.one1 with ⟨q2, f2, rfl, hq2⟩ | rfl
  · simp [cA, cB, cC, hq, hq2]; exact hS6
  · simp [cA, cB, cC, hq]; exact hS6
  · simp [cA, cB, cC, hq2]; exact hS6
  · simp [cA, cB, cC]; exact hS6
end Go.Proofs.Ytidcajmbkbamcaa
