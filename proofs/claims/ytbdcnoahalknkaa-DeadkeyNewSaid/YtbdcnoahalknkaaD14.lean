/-
  DeadkeyFeed, walked: the law returns true. Conditions: as the theorem states them.
-/
import Derived.Test.YtbdcnoahalknkaaD13
namespace Go.Proofs.Ytbdcnoahalknkaa
open Go Go.Ab Go.RowKit
set_option linter.unusedSimpArgs false
set_option linter.unusedVariables false
set_option linter.unnecessarySimpa false

attribute [local simp] condK_true condK_false condK_not wpc_skip wpc_ret wpc_exit wpc_seq wpc_reg wpc_regD testA_bool wpc_cond wpc_block thenA_normal thenA_ret thenA_exit blockA_normal blockA_ret blockA_exit blockA_other endA_normal endA_ret ev_tmp' ev_const ev_func ev_global cv_int cv_bool cv_string cv_pointer cv_slice cv_agg cv_map put_some put_none wH_s setE_apply setE_env less_eq env_cons env_nil upd_upd upd_apply del_apply startA_eq cells_ag cells_sl one_sl cells_vs one_vs cells_ep one_ep cells_fn one_fn cells_int one_int cells_bool one_bool cells_string one_string cells_pointer one_pointer cells_slice one_slice cells_map one_map cells_agg resK_one resK_nil resK_two rvK_t rvK_c rvsK_nil rvsK_cons iseq_nil iseq_cons gdA_true gdA_false gdA_undef istep_free istep_guard istepV_free istepV_guard dseq_nil dseq_pu dseq_rd dseq_ef wpc_regT dtree_nil dtree_pu dtree_rd dtree_ef dtree_br chkAll_nil chkAll_cons andK_true pickK_true pickK_false pickK_tb pickK_fb bin2K_pl eqbK_eq eqbK_ne eqpK_eq eqpK_ne eqmK_eq eqmK_ne eqzK_eq eqzK_ne eqzK_sl eqzK_vs un1K_pl convK_int fillK_some fillA_cons fillA_nil cellsK_some needK_true needK_ok seeK_ep seeK_ptr oneK_agg oneK_one nilcK_ptr nilcK_ep fadrK_ptr fadrK_ep fldK_ag iadAK_ptr iadAK_ep iadSK_sl iadSK_vs extK_0 extK_1 extK_2 extK_3 lenK_pl lenK_sl lenK_vs lensK_pl boxK_some minmax1K_int storeK_ptr callvK_fn callvK_pl newsK_nil newsK_vs newsK_sl appK_nil appK_nil0 appK_sl appK_vs bnd1K_int bndK_none bndK_some slsK_vs slsK_nil slsK_sl0 slsK_sl slstrK_pl boolK_some eqsK_ag iop_eqs iop_sls iop_slstr seesK_some seesK_ro mapsK_some MAP_some findK_some findK_none plK_pl nmapK_none nmapK_some iop_mlook iop_mlen iop_mmk iop_mupd iop_mdel iop_mrng itK_none itK_some ptr0K_ptr iop_mnxt iop_ment it1K_some entK_some iop_mov iop_pick iop_bin iop_eqb iop_eqp iop_eqm iop_eqz iop_un iop_conv iop_build iop_load iop_nilc iop_fadr iop_fld iop_iadA iop_iadS iop_ext iop_mkf iop_len iop_lens iop_minmax iop_al iop_box iop_bsl iop_store iop_call iop_callv iop_app BIN_add BIN_sub BIN_mul BIN_and BIN_or BIN_xor BIN_andNot BIN_eql BIN_neq BIN_lss BIN_leq BIN_gtr BIN_geq BIN_quo BIN_rem BIN_shl BIN_shr BIN_sadd BIN_seql BIN_sneq BIN_slss BIN_sleq BIN_sgtr BIN_sgeq UN_neg UN_xor UN_not MM_nil MM_cons partsA argsA ptrA lessL eqL min2I slotN_int slotP_int slotI_int

theorem c4 {H : AH} {a b : AV} {L : List (AV × Sq)} {w : List Int} (x : Int) (ha : Sr H a L) (hbv : ∀ H, Ri H b w) (hl : ∀ x ∈ L, x.2.ks.length ≤ maxLen) (hL : L.length ≤ maxLen) (hw : w.length ≤ maxLen) :
    ACall Try.prog 4 [a, b, vi x] H (fun v _ => v = vb true) := by
  have hmx : maxLen = 9223372036854775807 := rfl
  have hb := hbv H
  have la := fun k => ha.row.lenK (k := k)
  have lb := fun k => hb.lenK (k := k)
  have ob := hb.one
  have cb := hb.cells
  refine call_c follows cf4_ok (by simp) ?_
  by_cases c1 : (60 : Int) < L.length
  · simp [la, c1]
    refine c11.ac ?_
    simp
  by_cases c2 : (100 : Int) < w.length
  · simp [la, lb, c1, c2]
    refine c11.ac ?_
    simp
  simp [la, lb, c1, c2]
  refine c13 ha (by omega) fun o1 H1 hro => ?_
  have hS1 := hro.sub
  have hr1 := ha.of_row hro
  simp
  refine c12x hr1 hl fun H2 t hS2 hT2 hpt => ?_
  have ha2 := ha.sub (hS1.trans hS2)
  have hS02 := hS1.trans hS2
  simp
  refine c14x ha2 hl hL fun H3 all L' hS3 hr3 he3 => ?_
  have hpn := fun k => hpt.ne (k := k)
  have oal := hr3.row.one
  have cal := Rw.cells hr3.row
  have hT3 := hT2.sub hS3
  simp [oal, cal]
  refine newK_of fun y1 hy1 => ?_
  have hS4 : Sub H3 (upd H3 y1 (.cells [vb (mkd (sqs L)), all])) := (Sub.refl H3).upd hy1
  have g1 : (upd H3 y1 (.cells [vb (mkd (sqs L)), all])) y1 = some (.cells [vb (mkd (sqs L)), all]) := by simp [upd_apply]
  have hS04 := hS02.trans (hS3.trans hS4)
  have hT4 := hT3.sub hS4
  have hr4 := hr3.sub hS4
  simp [oal, cal]
  generalize upd H3 y1 (.cells [vb (mkd (sqs L)), all]) = H4 at *
  have hA := acc_acc (sqs L)
  have hAl := acc_len (sqs L)
  rw [sqs_len] at hAl
  have hL' : L'.length ≤ 60 := by
    have := congrArg List.length he3
    rw [sqs_len] at this
    omega
  generalize acc (sqs L) = S at *
  simp [hpn, g1]
  refine newK_of fun g0 hg0 => ?_
  simp
  have hb4 := hb.sub hS04
  have hS5 : Sub H4 (upd H4 g0 (.cells [])) := (Sub.refl H4).upd hg0
  generalize hx1 : AV.sl g0 0 0 1 true = x1
  rw [Ri.news (hb4.sub hS5), ← hx1]
  refine sl_app hg0 (Sub.refl _) (by simp) (by simp) (by omega) fun g H5 hg hs5 => ?_
  rw [List.nil_append] at hs5
  have hrow5 : Row H4 (upd H4 g (.cells (w.map vi))) (.sl g 0 w.length 1 false) (w.map vi) w.length 1 := .mk hg
  rw [Nat.zero_add]
  have hold : Ri H5 (.sl g 0 w.length 1 false) w := hrow5.ri.sub hs5
  have hS45 : Sub H4 H5 := hrow5.sub.trans hs5
  generalize hoo : AV.sl g 0 w.length 1 false = old at *
  have oold := hold.one
  have cold := hold.cells
  have g15 := hS45.at g1
  have hb5 := hb4.sub hS45
  simp [ob, cb]
  refine c17x x (hT4.sub hS45) hb5 (by omega) fun f1 H6 hf1 => ?_
  have hS6 := hf1.sub
  have of1 := hf1.one
  have rf1 := hf1.ri
  have cf1 := rf1.cells
  have hfl := feed_len hA w x
  generalize hF : feed S w x = F at *
  simp [of1, cf1]
  refine newK_of fun y2 hy2 => ?_
  have hS7 : Sub H6 (upd H6 y2 (.cells [f1])) := (Sub.refl H6).upd hy2
  have g27 : (upd H6 y2 (.cells [f1])) y2 = some (.cells [f1]) := by simp [upd_apply]
  have hS57 := hS6.trans hS7
  have g17 := hS57.at g15
  have g16 := hS6.at g15
  have n12 := free_ne hy2 y1 (by simp [g16])
  simp [of1, cf1, g16, n12, oold, cold]
  have hold7 := hold.sub hS57
  have hr7 := hr4.sub (hS45.trans hS57)
  have rf7 := rf1.sub hS7
  have hT7 := (hT4.sub hS45).sub hS57
  generalize hH7 : upd H6 y2 (.cells [f1]) = H7 at *
  refine c18 x hr7 hold7 (by omega) (by omega) fun f2 H8 hf2 => ?_
  rw [he3, hF] at hf2 ⊢
  have hS8 := hf2.sub
  have of2 := hf2.one
  have rf2 := hf2.ri
  have cf2 := rf2.cells
  have g18 := hS8.at g17
  have g28 := hS8.at g27
  simp [of2, cf2]
  refine newK_of fun y3 hy3 => ?_
  have n13 := free_ne hy3 y1 (by simp [g18])
  have n23 := free_ne hy3 y2 (by simp [g28])
  have hS9 : Sub H8 (upd H8 y3 (.cells [f2])) := (Sub.refl H8).upd hy3
  have hS79 := hS8.trans hS9
  simp [of2, cf2, g28, n23]
  have g19 := hS79.at g17
  have g29 := hS79.at g27
  have hold9 := hold7.sub hS79
  have hr9 := hr7.sub hS79
  have rf19 := rf7.sub hS79
  have rf29 := rf2.sub hS9
  have hT9 := hT7.sub hS79
  have hb9 := hb5.sub (hS57.trans hS79)
  generalize upd H8 y3 (.cells [f2]) = H9 at *
  refine c19 rf19 rf29 (by omega) ?_
  simp [ob, cb]
  refine c20x hT9 hb9 (by omega) (by omega) fun p1 Ha hp1 => ?_
  have hSa := hp1.sub
  have g1a := hSa.at g19
  simp [g1a, oold, cold]
  refine c21 (hr9.sub hSa) (hold9.sub hSa) (by omega) (by omega) (by rw [he3]; exact hA) fun p2 Hb hp2 => ?_
  rw [he3] at hp2
  have hSb := hp2.sub
  have hpl := pend_len S w
  have g2b := hSb.at (hSa.at g29)
  simp
  refine c19 (hp1.ri.sub hSb) hp2.ri (by omega) ?_
  have rfb := (rf19.sub hSa).sub hSb
  have lf := fun k => rfb.lenK (k := k)
  have holdb := (hold9.sub hSa).sub hSb
  have hbb := (hb9.sub hSa).sub hSb
  simp [g2b, lf]
  have fin : ∀ Hc, Ri Hc old w → Ri Hc b w → @AC Try.prog 19 [b, old] Hc ⟨fun v _ => v = vb true⟩ := fun Hc h1 h2 => c19 h2 h1 (by omega) (by simp)
  have hgH : Hb g = some (.cells (w.map vi)) := by
    have h1 : H5 g = some (.cells (w.map vi)) := hs5 g _ (by simp [upd_apply])
    exact hSb.at (hSa.at (hS79.at (hS57.at h1)))
  have hrowb : F.w.length = 0 ∨ ∃ r, f1 = .sl r 0 F.w.length 1 false ∧ r ≠ g ∧ r ≠ y2 ∧ Hb r = some (.cells (F.w.map vi)) := by
    rcases hf1 with ⟨h1, _, _, _⟩ | ⟨r, h1, h2, h3⟩
    · exact .inl h1
    · refine .inr ⟨r, h1, ?_, ?_, ?_⟩
      · rintro rfl
        have : H5 r = some (.cells (w.map vi)) := hs5 r _ (by simp [upd_apply])
        rw [h2] at this; cases this
      · rintro rfl
        rw [h3] at hy2
        simp [upd_apply] at hy2
      · have h4 : H6 r = some (.cells (F.w.map vi)) := by rw [h3]; simp [upd_apply]
        have h5 := hS7.at h4
        exact hSb.at (hSa.at (hS79.at h5))
  have hring : ∀ r C, r ≠ g → Ri (upd Hb r C) old w := fun r C hne => by
    rw [← hoo]
    exact Rw.sl (by simp) (by simp only [upd_apply, if_neg (Ne.symm hne)]; exact hgH)
  refine wpc_loop (fun s => ∃ (i : Nat) (Hc : AH), s.n = 115 ∧ s.H = Hc ∧ s.t 1 = b ∧ s.t 11 = old ∧ s.t 12 = pA y2 ∧ s.t 100 = vi F.w.length ∧ s.t 101 = vi i ∧ i ≤ F.w.length ∧ ((F.w.length = 0 ∧ Hc = Hb) ∨ ∃ r cs, f1 = .sl r 0 F.w.length 1 false ∧ r ≠ g ∧ r ≠ y2 ∧ cs.length = F.w.length ∧ Hc = upd Hb r (.cells cs))) (fun s => F.w.length - slotN (s.t 101)) ?_ ?_
  · refine FgK.same ⟨0, Hb, by simp, by simp, by simp, by simp, by simp, by simp, by simp, by omega, ?_⟩
    rcases hrowb with h | ⟨r, h1, h2, h3, h4⟩
    · exact .inl ⟨h, rfl⟩
    · refine .inr ⟨r, F.w.map vi, h1, h2, h3, by simp, ?_⟩
      funext j; simp only [upd_apply]; split
      · rename_i e; rw [e, h4]
      · rfl
  rintro s ⟨i, Hc, hn, hH, e1, e11, e12, e100, e101, hi, hc⟩
  by_cases hlt : i < F.w.length
  · have wr := IntWalk.i64_in ((i : Int) + 1) (by omega)
    rcases hc with ⟨h0, _⟩ | ⟨r, cs, rfl, h2, h3, h4, rfl⟩
    · omega
    · simp (disch := omega) [hn, hH, e1, e11, e12, e100, e101, hlt, g2b, h3, Ne.symm h3, h4, wr]
      refine FgK.same ⟨⟨i + 1, _, by simp, rfl, by simp [e1], by simp [e11], by simp [e12], by simp [e100], by simp, by omega, .inr ⟨r, _, rfl, h2, h3, ?_, rfl⟩⟩, by simp [e101]; omega⟩
      simp; omega
  · have hring2 : Ri Hc old w ∧ Ri Hc b w := by
      rcases hc with ⟨h0, rfl⟩ | ⟨r, cs, rfl, h2, h3, h4, rfl⟩
      · exact ⟨holdb, hbb⟩
      · exact ⟨hring r _ h2, hbv _⟩
    simp (disch := omega) [hn, hH, e1, e11, e12, e100, e101, hlt]
    refine c19 hring2.2 hring2.1 (by omega) ?_
    simp
    refine c11.ac ?_
    simp
end Go.Proofs.Ytbdcnoahalknkaa
