/-
  DeadkeyPlays, walked: the law returns true. Conditions: as the theorem states them.
-/
import Derived.Test.YtbdcnoahalknkaaD13
namespace Go.Proofs.Ytbdcnoahalknkaa
open Go Go.Ab Go.RowKit
set_option linter.unusedSimpArgs false
set_option linter.unusedVariables false
set_option linter.unnecessarySimpa false

attribute [local simp] condK_true condK_false condK_not wpc_skip wpc_ret wpc_exit wpc_seq wpc_reg wpc_regD testA_bool wpc_cond wpc_block thenA_normal thenA_ret thenA_exit blockA_normal blockA_ret blockA_exit blockA_other endA_normal endA_ret ev_tmp' ev_const ev_func ev_global cv_int cv_bool cv_string cv_pointer cv_slice cv_agg cv_map put_some put_none wH_s setE_apply setE_env less_eq env_cons env_nil upd_upd upd_apply del_apply startA_eq cells_ag cells_sl one_sl cells_vs one_vs cells_ep one_ep cells_fn one_fn cells_int one_int cells_bool one_bool cells_string one_string cells_pointer one_pointer cells_slice one_slice cells_map one_map cells_agg resK_one resK_nil resK_two rvK_t rvK_c rvsK_nil rvsK_cons iseq_nil iseq_cons gdA_true gdA_false gdA_undef istep_free istep_guard istepV_free istepV_guard dseq_nil dseq_pu dseq_rd dseq_ef wpc_regT dtree_nil dtree_pu dtree_rd dtree_ef dtree_br chkAll_nil chkAll_cons andK_true pickK_true pickK_false pickK_tb pickK_fb bin2K_pl eqbK_eq eqbK_ne eqpK_eq eqpK_ne eqmK_eq eqmK_ne eqzK_eq eqzK_ne eqzK_sl eqzK_vs un1K_pl convK_int fillK_some fillA_cons fillA_nil cellsK_some needK_true needK_ok seeK_ep seeK_ptr oneK_agg oneK_one nilcK_ptr nilcK_ep fadrK_ptr fadrK_ep fldK_ag iadAK_ptr iadAK_ep iadSK_sl iadSK_vs extK_0 extK_1 extK_2 extK_3 lenK_pl lenK_sl lenK_vs lensK_pl boxK_some minmax1K_int storeK_ptr callvK_fn callvK_pl newsK_nil newsK_vs newsK_sl appK_nil appK_nil0 appK_sl appK_vs bnd1K_int bndK_none bndK_some slsK_vs slsK_nil slsK_sl0 slsK_sl slstrK_pl boolK_some eqsK_ag iop_eqs iop_sls iop_slstr seesK_some seesK_ro mapsK_some MAP_some findK_some findK_none plK_pl nmapK_none nmapK_some iop_mlook iop_mlen iop_mmk iop_mupd iop_mdel iop_mrng itK_none itK_some ptr0K_ptr iop_mnxt iop_ment it1K_some entK_some iop_mov iop_pick iop_bin iop_eqb iop_eqp iop_eqm iop_eqz iop_un iop_conv iop_build iop_load iop_nilc iop_fadr iop_fld iop_iadA iop_iadS iop_ext iop_mkf iop_len iop_lens iop_minmax iop_al iop_box iop_bsl iop_store iop_call iop_callv iop_app BIN_add BIN_sub BIN_mul BIN_and BIN_or BIN_xor BIN_andNot BIN_eql BIN_neq BIN_lss BIN_leq BIN_gtr BIN_geq BIN_quo BIN_rem BIN_shl BIN_shr BIN_sadd BIN_seql BIN_sneq BIN_slss BIN_sleq BIN_sgtr BIN_sgeq UN_neg UN_xor UN_not MM_nil MM_cons partsA argsA ptrA lessL eqL min2I slotN_int slotP_int slotI_int

theorem row_del {H0 H1 H4 : AH} {out : AV} {l : List Int} {z1 z2 : Nat} (h : Row H0 H1 out (l.map vi) l.length 1) (h1 : H0 z1 ≠ none) (h2 : H0 z2 ≠ none) (hs : Sub H1 H4) : Ri (del (del H4 z1) z2) out l := by
  rcases h with ⟨e1, e2, rfl, rfl⟩ | ⟨r, rfl, hr, rfl⟩
  · have : l = [] := List.length_eq_zero_iff.1 e1
    subst this; exact Ri.nil _
  · refine Rw.sl (by simp) ?_
    have n1 : r ≠ z1 := by rintro rfl; exact h1 hr
    have n2 : r ≠ z2 := by rintro rfl; exact h2 hr
    simp only [del_apply, if_neg n1, if_neg n2]
    exact hs r _ (by simp [upd_apply])
theorem sub_del {B H4 : AH} {z1 z2 : Nat} (hs : Sub B H4) (h1 : B z1 = none) (h2 : B z2 = none) : Sub B (del (del H4 z1) z2) := fun j o hj => by
  have n1 : j ≠ z1 := by rintro rfl; rw [h1] at hj; cases hj
  have n2 : j ≠ z2 := by rintro rfl; rw [h2] at hj; cases hj
  simp only [del_apply, if_neg n1, if_neg n2]
  exact hs j o hj
theorem sub_boxes {H4 : AH} {z1 z2 : Nat} {X1 X2 : AO} : Sub (upd (upd (del (del H4 z1) z2) z1 X1) z2 X2) (upd (upd H4 z1 X1) z2 X2) := fun j o hj => by
  simp only [upd_apply, del_apply] at hj ⊢
  repeat' split at hj
  all_goals first | (simp_all; done) | (cases hj; done) | skip
theorem c5 {H : AH} {a b : AV} {L : List (AV × Sq)} {m : List Int} (ha : Sr H a L) (hbv : ∀ H, Ri H b m) (hl : ∀ x ∈ L, x.2.ks.length ≤ maxLen) (hL : L.length ≤ maxLen) (hw : m.length ≤ maxLen) :
    ACall Try.prog 5 [a, b] H (fun v _ => v = vb true) := by
  have hmx : maxLen = 9223372036854775807 := rfl
  have la := fun k => ha.row.lenK (k := k)
  have lb := fun k => (hbv H).lenK (k := k)
  refine call_c follows cf5_ok (by simp) ?_
  by_cases c1 : (60 : Int) < L.length
  · simp [la, c1]
    refine c11.ac ?_
    simp
  by_cases c2 : (200 : Int) < m.length
  · simp [la, lb, c1, c2]
    refine c11.ac ?_
    simp
  simp [la, lb, c1, c2]
  refine c13 ha (by omega) fun o1 H1 hro => ?_
  have hS1 := hro.sub
  have hr1 := ha.of_row hro
  simp
  refine c12x hr1 hl fun H2 t hS2 hT2 hpt => ?_
  have ha2 := ha.sub (hS1.trans hS2)
  simp
  refine c14x ha2 hl hL fun H3 all L' hS3 hr3 he3 => ?_
  have hpn := fun k => hpt.ne (k := k)
  have oal := hr3.row.one
  have cal := Rw.cells hr3.row
  have hT3 := hT2.sub hS3
  simp [oal, cal]
  refine newK_of fun y1 hy1 => ?_
  have hS4 : Sub H3 (upd H3 y1 (.cells [vb (mkd (sqs L)), all])) := (Sub.refl H3).upd hy1
  have g1 : (upd H3 y1 (.cells [vb (mkd (sqs L)), all])) y1 = some (.cells [vb (mkd (sqs L)), all]) := by simp [upd_apply]
  have hT4 := hT3.sub hS4
  have hr4 := hr3.sub hS4
  simp [oal, cal]
  generalize upd H3 y1 (.cells [vb (mkd (sqs L)), all]) = B0 at *
  have hA := acc_acc (sqs L)
  have hAl := acc_len (sqs L)
  rw [sqs_len] at hAl
  have hL' : L'.length ≤ 60 := by
    have := congrArg List.length he3
    rw [sqs_len] at this
    omega
  generalize acc (sqs L) = S at *
  simp [hpn, g1]
  refine newK_of fun ys hys => ?_
  simp
  refine newK_of fun yu hyu => ?_
  obtain ⟨n1, n2, hyu0⟩ := upd_none'.1 hyu
  simp [n1, n2]
  refine wpc_loop (fun s => ∃ (i : Nat) (B : AH) (f1 f2 : AV) (w : List Int), s.n = 97 ∧ s.H = upd (upd B ys (.cells [f1])) yu (.cells [f2]) ∧ s.t 1 = b ∧ s.t 5 = t ∧ s.t 7 = pA y1 ∧ s.t 9 = pA ys ∧ s.t 10 = pA yu ∧ s.t 11 = vi i ∧ i ≤ m.length ∧
    B ys = none ∧ B yu = none ∧ B y1 = some (.cells [vb (mkd (sqs L)), all]) ∧ TbX B t S ∧ Sr B all L' ∧ Ri B f1 w ∧ Ri B f2 w ∧ w.length ≤ 5) (fun s => m.length - slotN (s.t 11)) ?_ ?_
  · refine FgK.same ⟨0, B0, vnil, vnil, [], by simp, ?_, by simp, by simp, by simp, by simp, by simp, by simp, by omega, hys, hyu0, g1, hT4, hr4, Ri.nil _, Ri.nil _, by simp⟩
    funext j; simp only [upd_apply]
    by_cases q1 : j = yu <;> by_cases q2 : j = ys <;> simp [q1, q2]
  rintro s ⟨i, B, f1, f2, w, hn, hH, e1, e5, e7, e9, e10, e11, hi, hBs, hBu, hB1, hT, hr, rf1, rf2, hwl⟩
  have lb := fun k => (hbv s.H).lenK (k := k)
  by_cases hlt : i < m.length
  · have wr := IntWalk.i64_in ((i : Int) + 1) (by omega)
    obtain ⟨p, hp1, hp2⟩ := (hbv fun _ => none).see hlt
    have hp3 : ∀ (H' : AH) (k : List AV → Prop), @SEE H' p 1 ⟨k⟩ = k [vi m[i]] := fun H' => hp2 H' (fun j o h => by cases h)
    generalize m[i] = x at *
    have hBH : Sub B (upd (upd B ys (.cells [f1])) yu (.cells [f2])) := ((Sub.refl B).upd hBs).upd hBu
    have gs : (upd (upd B ys (.cells [f1])) yu (.cells [f2])) ys = some (.cells [f1]) := by simp [upd_apply, n2]
    have gu : (upd (upd B ys (.cells [f1])) yu (.cells [f2])) yu = some (.cells [f2]) := by simp [upd_apply]
    generalize hH0 : upd (upd B ys (.cells [f1])) yu (.cells [f2]) = H0 at *
    have gy := hBH.at hB1
    simp (disch := omega) [hn, hH, e1, e5, e7, e9, e10, e11, lb, hlt, hp1, hp3, gs]
    refine c17x x (hT.sub hBH) (rf1.sub hBH) (by omega) fun k1 Ha hka => ?_
    have hSa := hka.sub
    have rk1 := hka.ri
    have ok1 := hka.one
    have ck1 := rk1.cells
    have hfl := feed_len hA w x
    generalize hF : feed S w x = F at *
    have gsa := hSa.at gs
    have gua := hSa.at gu
    have gya := hSa.at gy
    simp
    refine newK_of fun z1 hz1 => ?_
    have m1 := free_ne hz1 ys (by simp [gsa])
    have m2 := free_ne hz1 yu (by simp [gua])
    have m3 := free_ne hz1 y1 (by simp [gya])
    have hSb : Sub Ha (upd Ha z1 (.cells [k1])) := (Sub.refl Ha).upd hz1
    have gz1 : (upd Ha z1 (.cells [k1])) z1 = some (.cells [k1]) := by simp [upd_apply]
    simp [gsa, m1, hp1, hp3, ok1, ck1, m2, m3, gua, gya]
    have hS0b := hSa.trans hSb
    have rk1b := rk1.sub hSb
    generalize hHb : upd Ha z1 (.cells [k1]) = Hb at *
    refine c18 x ((hr.sub hBH).sub hS0b) ((rf2.sub hBH).sub hS0b) (by omega) (by omega) fun k2 Hc hkc => ?_
    rw [he3, hF] at hkc ⊢
    have hSc := hkc.sub
    have rk2 := hkc.ri
    have ok2 := hkc.one
    have ck2 := rk2.cells
    have hS0c := hS0b.trans hSc
    have gsc := hS0c.at gs
    have guc := hS0c.at gu
    have gyc := hS0c.at gy
    have gzc := hSc.at gz1
    simp
    refine newK_of fun z2 hz2 => ?_
    have m4 := free_ne hz2 ys (by simp [gsc])
    have m5 := free_ne hz2 yu (by simp [guc])
    have m6 := free_ne hz2 y1 (by simp [gyc])
    have m7 := free_ne hz2 z1 (by simp [gzc])
    have hSd : Sub Hc (upd Hc z2 (.cells [k2])) := (Sub.refl Hc).upd hz2
    simp [gsc, m4, hp1, hp3, ok2, ck2, m5, m6, guc, gyc, gzc, m7, ok1, ck1, n1, n2, m1, m2]
    have hS0d := hS0c.trans hSd
    have hsub1 : Sub (upd (upd (del (del (upd Hc z2 (.cells [k2])) ys) yu) ys (.cells [k1])) yu (.cells [k2])) (upd (upd (upd Hc z2 (.cells [k2])) ys (.cells [k1])) yu (.cells [k2])) := sub_boxes
    have hBd : Sub B (del (del (upd Hc z2 (.cells [k2])) ys) yu) := sub_del (hBH.trans hS0d) hBs hBu
    have r1d : Ri (del (del (upd Hc z2 (.cells [k2])) ys) yu) k1 F.w := row_del hka (by rw [gs]; simp) (by rw [gu]; simp) ((hSb.trans hSc).trans hSd |> fun h => by rw [← hHb] at *; exact h)
    have r2d : Ri (del (del (upd Hc z2 (.cells [k2])) ys) yu) k2 F.w := row_del hkc (by rw [hS0b.at gs]; simp) (by rw [hS0b.at gu]; simp) hSd
    have db : (del (del (upd Hc z2 (.cells [k2])) ys) yu) ys = none := by simp [del_apply]
    have du : (del (del (upd Hc z2 (.cells [k2])) ys) yu) yu = none := by simp [del_apply]
    have rr1 := (r1d.sub (((Sub.refl _).upd db).upd du)).sub hsub1
    have rr2 := (r2d.sub (((Sub.refl _).upd db).upd du)).sub hsub1
    refine c19 rr1 rr2 (by omega) ?_
    simp (disch := omega) [wr]
    exact FgK.of _ hsub1 ⟨⟨i + 1, _, k1, k2, F.w, by simp, rfl, by simp [e1], by simp [e5], by simp [e7], by simp [e9], by simp [e10], by simp, by omega, db, du, hBd.at hB1, hT.sub hBd, hr.sub hBd, r1d, r2d, hfl⟩, by simp [e11]; omega⟩
  · simp (disch := omega) [hn, hH, e1, e5, e7, e9, e10, e11, lb, hlt]
    refine c11.ac ?_
    simp
end Go.Proofs.Ytbdcnoahalknkaa
