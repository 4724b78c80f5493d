/-
  LayoutNearest: for every run and two points the law returns true, and its arguments read as they did. No conditions: every input that the row admits.
-/
import Derived.Test.YtidcajmbkbamcaaL16
namespace Go.Proofs.Ytidcajmbkbamcaa
open Go Go.Ab Go.RowKit Go.ChangeShapes Go.WideShapes Go.ChangeAt
set_option linter.unusedSimpArgs false
set_option linter.unusedVariables false
set_option linter.unnecessarySimpa false

attribute [local simp] condK_true condK_false condK_not wpc_skip wpc_ret wpc_exit wpc_seq wpc_reg wpc_regD testA_bool wpc_cond wpc_block thenA_normal thenA_ret thenA_exit blockA_normal blockA_ret blockA_exit blockA_other endA_normal endA_ret ev_tmp' ev_const ev_func ev_global cv_int cv_bool cv_string cv_pointer cv_slice cv_agg put_some put_none wH_s setE_apply setE_env less_eq env_cons env_nil upd_upd upd_apply del_apply startA_eq cells_ag cells_sl one_sl cells_vs one_vs cells_ep one_ep cells_fn one_fn cells_int one_int cells_bool one_bool cells_string one_string cells_pointer one_pointer cells_slice one_slice cells_map one_map cells_agg resK_one resK_nil resK_two rvK_t rvK_c rvsK_nil rvsK_cons iseq_nil iseq_cons gdA_true gdA_false gdA_undef istep_free istep_guard istepV_free istepV_guard dseq_nil dseq_pu dseq_rd dseq_ef chkAll_nil chkAll_cons andK_true pickK_true pickK_false pickK_tb pickK_fb bin2K_pl eqbK_eq eqbK_ne eqpK_eq eqpK_ne un1K_pl convK_int fillK_some fillA_cons fillA_nil cellsK_some needK_true needK_ok seeK_ep seeK_ptr oneK_agg oneK_one nilcK_ptr nilcK_ep fadrK_ptr fadrK_ep fldK_ag iadAK_ptr iadAK_ep iadSK_sl iadSK_vs extK_0 extK_1 extK_2 extK_3 lenK_pl lenK_sl lenK_vs lensK_pl boxK_some minmax1K_int storeK_ptr callvK_fn callvK_pl newsK_nil newsK_vs newsK_sl appK_nil appK_nil0 appK_sl appK_vs bnd1K_int bndK_none bndK_some slsK_vs slsK_nil slsK_sl0 slsK_sl slstrK_pl boolK_some eqsK_ag iop_eqs iop_sls iop_slstr seesK_some seesK_ro mapsK_some MAP_some findK_some findK_none plK_pl nmapK_none nmapK_some iop_mlook iop_mlen iop_mmk iop_mupd iop_mdel iop_mrng itK_none itK_some ptr0K_ptr iop_mnxt iop_ment it1K_some entK_some iop_mov iop_pick iop_bin iop_eqb iop_eqp iop_un iop_conv iop_build iop_load iop_nilc iop_fadr iop_fld iop_iadA iop_iadS iop_ext iop_mkf iop_len iop_lens iop_minmax iop_al iop_box iop_bsl iop_store iop_call iop_callv iop_app BIN_add BIN_sub BIN_mul BIN_and BIN_or BIN_xor BIN_andNot BIN_eql BIN_neq BIN_lss BIN_leq BIN_gtr BIN_geq BIN_quo BIN_rem BIN_shl BIN_shr BIN_sadd BIN_seql BIN_sneq BIN_slss BIN_sleq BIN_sgtr BIN_sgeq UN_neg UN_xor UN_not MM_nil MM_cons partsA argsA ptrA lessL eqL min2I slotN_int slotP_int slotI_int
attribute [local simp] oc_len oc_tt oc_dd oc_one oc_ag oc_t1 oc_t2 oc_t3 oc_t4 oc_t5 oc_t6 oc_t7 oc_d1 oc_d2 oc_d3 oc_d4 oc_d5 oc_d6 oc_d7 opq_len opq_tt opq_dd opq_one opq_ag opq_t1 opq_t2 opq_t3 opq_t4 opq_t5 opq_t6 opq_t7 opq_t8 opq_d1 opq_d2 opq_d3 opq_d4 opq_d5 opq_d6 opq_d7 opq_d8 pnc_len pnc_tt pnc_dd pnc_one pnc_ag pnc_t1 pnc_d1 rc_len rc_t4 rc_t1 rc_t2 rc_t3 rc_d1 rc_d2 rc_d3 rc_d4 rc_ag rc_one rc_eq min2_t min2_f

theorem c5 (l : List Op) (a o : Pn) (hx : i64r a.x) (hy : i64r a.y) (hx2 : i64r o.x) (hy2 : i64r o.y) : PC Try.prog 5 [.vs l.length false (flat opq l), .ag (pnc a), .ag (pnc o)] (vb true) := by
  refine .tell fun H => ?_
  refine call_c follows cf5_ok (by simp) ?_
  simp
  refine newK_of fun z hz => ?_
  have hz1 : Sub H (upd H z (.cells (pnc a))) := (Sub.refl H).upd hz
  have hzz : upd H z (.cells (pnc a)) z = some (.cells (pnc a)) := by simp [upd_apply]
  generalize upd H z (.cells (pnc a)) = H00 at *
  simp
  refine newK_of fun v hv => ?_
  have nvz := free_ne hv z (by simp [hzz])
  have hv1 : Sub H00 (upd H00 v (.cells (pnc o))) := (Sub.refl H00).upd hv
  have hvv : upd H00 v (.cells (pnc o)) v = some (.cells (pnc o)) := by simp [upd_apply]
  have hvz := hv1.at hzz
  have hS0 := hz1.trans hv1
  simp [nvz, hzz]
  generalize upd H00 v (.cells (pnc o)) = H0 at *
  by_cases d1 : (60 : Int) < l.length
  · simp [d1]
    refine (c9).ac ?_
    simp
    exact hS0
  by_cases d2 : 1048576 < max a.x (max a.y (max o.x o.y))
  · simp [d1, d2, hvz, hvv]
    refine (c9).ac ?_
    simp
    exact hS0
  by_cases d3 : min a.x (min a.y (min o.x o.y)) < -1048576
  · simp [d1, d2, d3, hvz, hvv]
    refine (c9).ac ?_
    simp
    exact hS0
  have nx : near a.x := by unfold near; omega
  have ny : near a.y := by unfold near; omega
  have mx : near o.x := by unfold near; omega
  have my : near o.y := by unfold near; omega
  simp [d1, d2, d3, hvz, hvv]
  refine c13 l (by omega) fun p b st cl H1 hs1 hb0 hG => ?_
  have hrl := run_len l []
  have hml : (run l).length ≤ 60 := by unfold run; simp at hrl; omega
  have hinv : Inv (run l) := inv_run l [] inv_nil
  have z1 := hs1.at hvz
  have v1 := hs1.at hvv
  have hS1 := hS0.trans hs1
  generalize run l = m at *
  simp [z1, v1]
  refine c16 o.x o.y hG (by omega) ?_
  by_cases c3 : atF (souts m) o.x o.y = ⟨#[]⟩
  · simp [c3]
    refine (c9).ac ?_
    simp
    exact hS1
  obtain ⟨hok, _, _, hle⟩ := clF_near hinv nx ny ((@atF_some m hinv o.x o.y).1 c3)
  simp [bytes_beq, c3, ne_empty c3, z1, v1]
  refine c14 a.x a.y hG (by omega) ?_
  have hn := okQ_near hok
  unfold dst at hle
  rw [awy_eq (near_r hn.1) (near_r nx), awy_eq (near_r hn.2) (near_r ny), awy_eq (near_r mx) (near_r nx), awy_eq (near_r my) (near_r ny)] at hle
  generalize clF (sareas m) a.x a.y = q at *
  obtain ⟨qx, qy⟩ := q
  simp only at hle hn
  unfold okQ at hok
  simp only at hok
  clear hn
  unfold near at nx ny mx my
  have hd : max (a.x - qx) (qx - a.x) + max (a.y - qy) (qy - a.y) ≤ max (a.x - o.x) (o.x - a.x) + max (a.y - o.y) (o.y - a.y) := by
    have a1 : max (a.x - qx) (qx - a.x) = if qx < a.x then a.x - qx else qx - a.x := by split <;> omega
    have a2 : max (a.y - qy) (qy - a.y) = if qy < a.y then a.y - qy else qy - a.y := by split <;> omega
    have a3 : max (a.x - o.x) (o.x - a.x) = if o.x < a.x then a.x - o.x else o.x - a.x := by split <;> omega
    have a4 : max (a.y - o.y) (o.y - a.y) = if o.y < a.y then a.y - o.y else o.y - a.y := by split <;> omega
    rw [a1, a2, a3, a4]; exact hle
  have b1 : ¬ 1048576 < max qx qy := by omega
  have b2 : ¬ min qx qy < -1048576 := by omega
  have w1 := IntWalk.i64_in (a.x - qx) (by omega)
  have w2 := IntWalk.i64_in (qx - a.x) (by omega)
  have w3 := IntWalk.i64_in (a.y - qy) (by omega)
  have w4 := IntWalk.i64_in (qy - a.y) (by omega)
  have w5 := IntWalk.i64_in (a.x - o.x) (by omega)
  have w6 := IntWalk.i64_in (o.x - a.x) (by omega)
  have w7 := IntWalk.i64_in (a.y - o.y) (by omega)
  have w8 := IntWalk.i64_in (o.y - a.y) (by omega)
  have w9 := IntWalk.i64_in (max (a.x - qx) (qx - a.x) + max (a.y - qy) (qy - a.y)) (by omega)
  have w10 := IntWalk.i64_in (max (a.x - o.x) (o.x - a.x) + max (a.y - o.y) (o.y - a.y)) (by omega)
  simp [b1, b2, z1, v1, w1, w2, w3, w4, w5, w6, w7, w8, w9, w10, hd]
  refine (c9).ac ?_
  simp
  exact hS1
theorem law_LayoutNearest (xs : List AV) (hf : FitsT [(false, [.sl opqL]), (true, pnL), (true, pnL)] xs) : ACall Try.prog 5 xs (fun _ => none) (fun v _ => v = vb true) := by
  match xs, hf with
  | [a, b, c], ⟨h1, h2, h3, _⟩ =>
    obtain ⟨l, rfl⟩ := fitOps h1
    obtain ⟨o, rfl, g1, g2⟩ := fitPn h2
    obtain ⟨o2, rfl, g3, g4⟩ := fitPn h3
    exact (c5 l o o2 g1 g2 g3 g4).same rfl
set_option maxRecDepth 100000

theorem layoutNearest_lifted (os : Os) (started : os.Started) (H : Type) (enc : TypeId × Value → H) :
    ReturnsInHanded {} Try.checked os 5 .any (Rows.layoutNearestSpec.pre6 enc Try.prog Try.f5 Rows.layoutNearestRow.domain false) (Rows.layoutNearestSpec.post enc Try.prog Try.f5 false true false false) := by
  refine returnsInHanded_of_change_sized (C := Try.checked) own started (by kernel_rfl) Try.func5
    (ChangeSpec.witness6 (enc := enc) (C := Try.checked) false ⟨#[], #[.slice none 0 0, .agg #[.int .i64 0, .int .i64 0], .agg #[.int .i64 0, .int .i64 0]], []⟩ 8 (by kernel_rfl) (by kernel_rfl) (by kernel_rfl) (by kernel_rfl)) ?_
  intro W base args ds gs before hval hW _ _ _
  refine law_contract (L := [(false, [.sl opqL]), (true, pnL), (true, pnL)]) laidOut (by kernel_rfl) rfl (fun ds hd => ?_) ⟨_, rfl, by kernel_rfl⟩ ?_ (fun xs hf => law_LayoutNearest xs hf) W base args ds gs before hval hW
  · match ds, hd with
    | [d0, d1, d2], _ => exact ⟨rfl, rfl, rfl⟩
  · exact of_decide_eq_true (by kernel_rfl)

theorem layoutNearest_holds : Rows.LayoutNearestSaid :=
  OpenClaim.holds_of_wide 5 Try.f5 rfl rfl rfl rfl rfl rfl rfl ⟨rfl, rfl, rfl, rfl, rfl⟩ rfl rfl rfl rfl rfl (by kernel_rfl) Try.func5 (by kernel_rfl)
    (of_decide_eq_true (by kernel_rfl)) (by unfold Func.isWrapper; first | (rw [if_pos (by decide +kernel)]; kernel_rfl) | (rw [if_neg (by decide +kernel)]; exact ⟨rfl, rfl⟩))
    (fun os started H enc _ => layoutNearest_lifted os started H enc)
end Go.Proofs.Ytidcajmbkbamcaa
