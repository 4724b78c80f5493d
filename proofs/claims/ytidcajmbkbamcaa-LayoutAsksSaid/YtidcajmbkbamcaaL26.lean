/-
  LayoutAsks: for every run, point and rectangle the law returns true, and its arguments read as they did. No conditions: every input that the row admits.
-/
import Derived.Test.YtidcajmbkbamcaaL25
namespace Go.Proofs.Ytidcajmbkbamcaa
open Go Go.Ab Go.RowKit Go.ChangeShapes Go.WideShapes Go.ChangeAt
set_option linter.unusedSimpArgs false
set_option linter.unusedVariables false
set_option linter.unnecessarySimpa false

attribute [local simp] condK_true condK_false condK_not wpc_skip wpc_ret wpc_exit wpc_seq wpc_reg wpc_regD testA_bool wpc_cond wpc_block thenA_normal thenA_ret thenA_exit blockA_normal blockA_ret blockA_exit blockA_other endA_normal endA_ret ev_tmp' ev_const ev_func ev_global cv_int cv_bool cv_string cv_pointer cv_slice cv_agg put_some put_none wH_s setE_apply setE_env less_eq env_cons env_nil upd_upd upd_apply del_apply startA_eq cells_ag cells_sl one_sl cells_vs one_vs cells_ep one_ep cells_fn one_fn cells_int one_int cells_bool one_bool cells_string one_string cells_pointer one_pointer cells_slice one_slice cells_map one_map cells_agg resK_one resK_nil resK_two rvK_t rvK_c rvsK_nil rvsK_cons iseq_nil iseq_cons gdA_true gdA_false gdA_undef istep_free istep_guard istepV_free istepV_guard dseq_nil dseq_pu dseq_rd dseq_ef chkAll_nil chkAll_cons andK_true pickK_true pickK_false pickK_tb pickK_fb bin2K_pl eqbK_eq eqbK_ne eqpK_eq eqpK_ne un1K_pl convK_int fillK_some fillA_cons fillA_nil cellsK_some needK_true needK_ok seeK_ep seeK_ptr oneK_agg oneK_one nilcK_ptr nilcK_ep fadrK_ptr fadrK_ep fldK_ag iadAK_ptr iadAK_ep iadSK_sl iadSK_vs extK_0 extK_1 extK_2 extK_3 lenK_pl lenK_sl lenK_vs lensK_pl boxK_some minmax1K_int storeK_ptr callvK_fn callvK_pl newsK_nil newsK_vs newsK_sl appK_nil appK_nil0 appK_sl appK_vs bnd1K_int bndK_none bndK_some slsK_vs slsK_nil slsK_sl0 slsK_sl slstrK_pl boolK_some eqsK_ag iop_eqs iop_sls iop_slstr seesK_some seesK_ro mapsK_some MAP_some findK_some findK_none plK_pl nmapK_none nmapK_some iop_mlook iop_mlen iop_mmk iop_mupd iop_mdel iop_mrng itK_none itK_some ptr0K_ptr iop_mnxt iop_ment it1K_some entK_some iop_mov iop_pick iop_bin iop_eqb iop_eqp iop_un iop_conv iop_build iop_load iop_nilc iop_fadr iop_fld iop_iadA iop_iadS iop_ext iop_mkf iop_len iop_lens iop_minmax iop_al iop_box iop_bsl iop_store iop_call iop_callv iop_app BIN_add BIN_sub BIN_mul BIN_and BIN_or BIN_xor BIN_andNot BIN_eql BIN_neq BIN_lss BIN_leq BIN_gtr BIN_geq BIN_quo BIN_rem BIN_shl BIN_shr BIN_sadd BIN_seql BIN_sneq BIN_slss BIN_sleq BIN_sgtr BIN_sgeq UN_neg UN_xor UN_not MM_nil MM_cons partsA argsA ptrA lessL eqL min2I slotN_int slotP_int slotI_int
attribute [local simp] oc_len oc_tt oc_dd oc_one oc_ag oc_t1 oc_t2 oc_t3 oc_t4 oc_t5 oc_t6 oc_t7 oc_d1 oc_d2 oc_d3 oc_d4 oc_d5 oc_d6 oc_d7 opq_len opq_tt opq_dd opq_one opq_ag opq_t1 opq_t2 opq_t3 opq_t4 opq_t5 opq_t6 opq_t7 opq_t8 opq_d1 opq_d2 opq_d3 opq_d4 opq_d5 opq_d6 opq_d7 opq_d8 pnc_len pnc_tt pnc_dd pnc_one pnc_ag pnc_t1 pnc_d1 rc_len rc_t4 rc_t1 rc_t2 rc_t3 rc_d1 rc_d2 rc_d3 rc_d4 rc_ag rc_one rc_eq min2_t min2_f

theorem souts_nil : souts [] = [] := List.length_eq_zero_iff.1 (by rw [souts_len]; rfl)
theorem c7 (l : List Op) (a : Pn) (r : R) (hx : i64r a.x) (hy : i64r a.y) : PC Try.prog 7 [.vs l.length false (flat opq l), .ag (pnc a), .ag (rc r)] (vb true) := by
  refine .tell fun H => ?_
  refine call_c follows cf7_ok (by simp) ?_
  simp
  refine newK_of fun z hz => ?_
  have hz1 : Sub H (upd H z (.cells (pnc a))) := (Sub.refl H).upd hz
  have hzz : upd H z (.cells (pnc a)) z = some (.cells (pnc a)) := by simp [upd_apply]
  generalize upd H z (.cells (pnc a)) = H00 at *
  simp
  refine newK_of fun v hv => ?_
  have nvz := free_ne hv z (by simp [hzz])
  have hv1 : Sub H00 (upd H00 v (.cells (rc r))) := (Sub.refl H00).upd hv
  have hvv : upd H00 v (.cells (rc r)) v = some (.cells (rc r)) := by simp [upd_apply]
  have hvz := hv1.at hzz
  have hS0 := hz1.trans hv1
  simp
  generalize upd H00 v (.cells (rc r)) = H0 at *
  by_cases d1 : (60 : Int) < l.length
  · simp [d1]
    refine (c9).ac ?_
    simp
    exact hS0
  simp [d1]
  refine c13 l (by omega) fun p b st cl H1 hs1 hb0 hG => ?_
  have hrl := run_len l []
  have hml : (run l).length ≤ 60 := by unfold run; simp at hrl; omega
  have hinv : Inv (run l) := inv_run l [] inv_nil
  have z1 := hs1.at hvz
  have v1 := hs1.at hvv
  have hS1 := hS0.trans hs1
  simp
  refine c18 ?_
  simp
  refine newK_of fun y hy0 => ?_
  have ny1 := free_ne hy0 z (by simp [z1])
  have ny2 := free_ne hy0 v (by simp [v1])
  have hsy : Sub H1 (upd H1 y (.cells [vb true, vnil])) := (Sub.refl H1).upd hy0
  have z2 := hsy.at z1
  have v2 := hsy.at v1
  have hyy : upd H1 y (.cells [vb true, vnil]) y = some (.cells [vb true, vnil]) := by simp [upd_apply]
  have hG2 := hG.sub hsy
  have hS2 := hS1.trans hsy
  have hyH : H y = none := hS1.none_of hy0
  try simp
  generalize upd H1 y (.cells [vb true, vnil]) = H2 at *
  clear hy0 hsy
  refine wpc_loop (fun s => ∃ (i : Nat) (x : AV), s.n = 94 ∧ s.t 0 = .vs l.length false (flat opq l) ∧ s.t 4 = pA z ∧ s.t 5 = pA v ∧ s.t 7 = pA p ∧ s.t 8 = pA y ∧ s.t 9 = vi i ∧ i ≤ l.length ∧
      LS s.H p b (run l) st cl ∧ s.H z = some (.cells (pnc a)) ∧ s.H v = some (.cells (rc r)) ∧ s.H y = some (.cells [vb true, x]) ∧ LR s.H x (souts (run (l.take i))) ∧ Sub H s.H) (fun s => l.length - slotN (s.t 9)) ?_ ?_
  · exact FgK.same ⟨0, vnil, by simp, by simp, by simp, by simp, by simp, by simp, by simp, by omega, hG2, z2, v2, hyy, by show LR H2 vnil (souts []); rw [souts_nil]; exact RowIn.nil _ 8, hS2⟩
  rintro s ⟨i, x, hn, t0, t4, t5, t7, t8, t9, hi, hL, z3, v3, y3, hx3, hS3⟩
  have w := IntWalk.i64_in ((i : Int) + 1) (by omega)
  have ox := hx3.one
  by_cases hlt : i < l.length
  · have hd := opq_at hlt
    have hsp := take_snoc hlt
    have hbd : i * 9 + 9 ≤ (flat opq l).length := by rw [opq_flat_len]; omega
    generalize l[i] = o at hd hsp
    have hR : run (l.take (i + 1)) = doM (run (l.take i)) o := by rw [hsp, run, List.foldl_append]; rfl
    have hii : Inv (run (l.take i)) := inv_run _ [] inv_nil
    have hil := run_len (l.take i) []
    have hil2 : (souts (run (l.take i))).length ≤ 60 := by rw [souts_len]; unfold run; simp at hil; omega
    obtain ⟨_, q2⟩ := step_do hii o
    simp (disch := omega) [hn, t0, t4, t5, t7, t8, t9, hlt, hd, hbd, y3, ox]
    refine c19 (souts (run (l.take i))) o hx3 (by omega) fun out Ha ha hra => ?_
    rw [q2, ← hR] at hra
    have za := ha.at z3
    have va := ha.at v3
    have ya := ha.at y3
    have ga := hL.sub ha
    have oa := hra.one
    have hSa := hS3.trans ha
    simp (disch := omega) [hn, t0, t4, t5, t7, t8, t9, hlt, hd, hbd, ya, ox, oa]
    refine newK_of fun k hk => ?_
    have nk := free_ne hk y (by simp [ya])
    have hkb : Sub Ha (upd Ha k (.cells [vb true, out])) := (Sub.refl Ha).upd hk
    have zb := hkb.at za
    have vb' := hkb.at va
    have yb := hkb.at ya
    have gb := ga.sub hkb
    have rb := hra.sub hkb
    have kb : upd Ha k (.cells [vb true, out]) k = some (.cells [vb true, out]) := by simp [upd_apply]
    have hSb := hSa.trans hkb
    simp (disch := omega) [hn, t0, t4, t5, t7, t8, t9, hlt, hd, hbd, ya, ox, oa, nk]
    clear ha za va ya ga hra hkb hk hSa
    generalize upd Ha k (.cells [vb true, out]) = Hb at *
    have hzy : z ≠ y := by rintro rfl; rw [yb] at zb; injection zb with e; injection e with e; simp [pnc] at e
    have hvy : v ≠ y := by rintro rfl; rw [yb] at vb'; injection vb' with e; injection e with e; simp [rc] at e
    have hpy : p ≠ y := by
      rintro rfl
      have := gb.ob
      rw [yb] at this
      injection this with e; injection e with e
      simp at e
      rcases hx3 with ⟨_, ⟨_, h⟩ | ⟨_, _, h, _⟩⟩ <;> rw [h] at e <;> cases e
    have hby : b ≠ y := by rintro rfl; have := gb.mp; rw [yb] at this; cases this
    try simp (disch := omega) [hn, t0, t4, t5, t7, t8, t9, kb, yb, oa, w]
    refine FgK.same ⟨⟨i + 1, out, by simp [hn], by simp [t0], by simp [t4], by simp [t5], by simp [t7], by simp [t8], by simp, by omega, ?_, ?_, ?_, by simp [upd_apply], rowIn_box yb rb, hSb.upd hyH⟩, by simp [t9]; omega⟩
    · exact ⟨by simp only [upd_apply, if_neg hpy]; exact gb.ob, by simp only [upd_apply, if_neg hby]; exact gb.mp, gb.ne, gb.nd, gb.stp⟩
    · simp only [upd_apply, if_neg hzy]; exact zb
    · simp only [upd_apply, if_neg hvy]; exact vb'
  · rw [List.take_of_length_le (by omega)] at hx3
    have hck : ∀ o ∈ souts (run l), chk o = 0 := fun o ho => hinv.ck o ((souts_mem hinv).1 ho)
    have hcc := clF_clip hinv hx hy
    have hsl : (souts (run l)).length ≤ 60 := by rw [souts_len]; exact hml
    generalize run l = m at *
    simp (disch := omega) [hn, t0, t4, t5, t7, t8, t9, hlt, z3, v3, y3, ox]
    refine c14 a.x a.y hL (by omega) ?_
    simp (disch := omega) [hn, t0, t4, t5, t7, t8, t9, hlt, z3, v3, y3, ox]
    refine c20 (souts m) a.x a.y hx3 (by omega) hck ?_
    have hcc' : clF ((souts m).map lg) (clip a.x) (clip a.y) = clF (sareas m) a.x a.y := hcc.symm
    rw [hcc']
    simp (disch := omega) [hn, t0, t4, t5, t7, t8, t9, hlt, z3, v3, y3, ox]
    refine c16 a.x a.y hL (by omega) ?_
    simp (disch := omega) [hn, t0, t4, t5, t7, t8, t9, hlt, z3, v3, y3, ox]
    refine c21 (souts m) a.x a.y hx3 (by omega) ?_
    simp (disch := omega) [hn, t0, t4, t5, t7, t8, t9, hlt, z3, v3, y3, ox]
    refine c22 r hL (by omega) fun o5 H5 r5 => ?_
    have y5 := r5.sub.at y3
    have v5 := r5.sub.at v3
    simp (disch := omega) [hn, t0, t4, t5, t7, t8, t9, hlt, v5, y5, ox]
    refine c23 (souts m) r (hx3.sub r5.sub) (by omega) fun o6 H6 r6 => ?_
    have hol := ovF_len (souts m) r
    try simp (disch := omega) [hn, t0, t4, t5, t7, t8, t9]
    refine c12 (a := ovF (souts m) r) (.inl ((r5.rin (by simp)).sub r6.sub)) (.inl (r6.rin (by simp))) (by omega) rfl ?_
    simp
    refine (c9).ac ?_
    simp
    exact (hS3.trans r5.sub).trans r6.sub
abbrev rcL : List Lf := [.i .i64, .i .i64, .i .i64, .i .i64]
theorem fitRc {a : AV} (h : FitT true rcL a) : ∃ o : R, a = .ag (rc o) := by
  obtain ⟨cs, rfl, h⟩ := h
  obtain ⟨_, _, rfl, h1, h⟩ := h.cons_inv
  obtain ⟨_, _, rfl, h2, h⟩ := h.cons_inv
  obtain ⟨_, _, rfl, h3, h⟩ := h.cons_inv
  obtain ⟨_, _, rfl, h4, h⟩ := h.cons_inv
  obtain rfl := h.nil_inv
  obtain ⟨_, rfl, _⟩ := h1.i_inv
  obtain ⟨_, rfl, _⟩ := h2.i_inv
  obtain ⟨_, rfl, _⟩ := h3.i_inv
  obtain ⟨_, rfl, _⟩ := h4.i_inv
  exact ⟨⟨_, _, _, _⟩, rfl⟩
theorem law_LayoutAsks (xs : List AV) (hf : FitsT [(false, [.sl opqL]), (true, pnL), (true, rcL)] xs) : ACall Try.prog 7 xs (fun _ => none) (fun v _ => v = vb true) := by
  match xs, hf with
  | [a, b, c], ⟨h1, h2, h3, _⟩ =>
    obtain ⟨l, rfl⟩ := fitOps h1
    obtain ⟨o, rfl, g1, g2⟩ := fitPn h2
    obtain ⟨q, rfl⟩ := fitRc h3
    exact (c7 l o q g1 g2).same rfl
set_option maxRecDepth 100000

theorem layoutAsks_lifted (os : Os) (started : os.Started) (H : Type) (enc : TypeId × Value → H) :
    ReturnsInHanded {} Try.checked os 7 .any (Rows.layoutAsksSpec.pre6 enc Try.prog Try.f7 Rows.layoutAsksRow.domain false) (Rows.layoutAsksSpec.post enc Try.prog Try.f7 false true false false) := by
  refine returnsInHanded_of_change_sized (C := Try.checked) own started (by kernel_rfl) Try.func7
    (ChangeSpec.witness6 (enc := enc) (C := Try.checked) false ⟨#[], #[.slice none 0 0, .agg #[.int .i64 0, .int .i64 0], .agg #[.int .i64 0, .int .i64 0, .int .i64 0, .int .i64 0]], []⟩ 8 (by kernel_rfl) (by kernel_rfl) (by kernel_rfl) (by kernel_rfl)) ?_
  intro W base args ds gs before hval hW _ _ _
  refine law_contract (L := [(false, [.sl opqL]), (true, pnL), (true, rcL)]) laidOut (by kernel_rfl) rfl (fun ds hd => ?_) ⟨_, rfl, by kernel_rfl⟩ ?_ (fun xs hf => law_LayoutAsks xs hf) W base args ds gs before hval hW
  · match ds, hd with
    | [d0, d1, d2], _ => exact ⟨rfl, rfl, rfl⟩
  · exact of_decide_eq_true (by kernel_rfl)

theorem layoutAsks_holds : Rows.LayoutAsksSaid :=
  OpenClaim.holds_of_wide 7 Try.f7 rfl rfl rfl rfl rfl rfl rfl ⟨rfl, rfl, rfl, rfl, rfl⟩ rfl rfl rfl rfl rfl (by kernel_rfl) Try.func7 (by kernel_rfl)
    (of_decide_eq_true (by kernel_rfl)) (by unfold Func.isWrapper; first | (rw [if_pos (by decide +kernel)]; kernel_rfl) | (rw [if_neg (by decide +kernel)]; exact ⟨rfl, rfl⟩))
    (fun os started H enc _ => layoutAsks_lifted os started H enc)
end Go.Proofs.Ytidcajmbkbamcaa
