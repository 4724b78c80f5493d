/-
  Several texts in one: L27; L28. Conditions: as each lemma states them.
-/
import Derived.Test.YtidcajmbkbamcaaGreatML
import Derived.Test.YtidcajmbkbamcaaGreatMW
/-! Layout's Region, of the program and of the reference; Outputs of the reference; the law's rects. Conditions: as each lemma states them. -/
section
namespace Go.Proofs.YtidcajmbkbamcaaGreat
open Go Go.Ab Go.RowKit
set_option linter.unusedSimpArgs false
set_option linter.unusedVariables false
set_option linter.unnecessarySimpa false

attribute [local simp] condK_true condK_false condK_not wpc_skip wpc_ret wpc_exit wpc_seq wpc_reg wpc_regD testA_bool wpc_cond wpc_block thenA_normal thenA_ret thenA_exit blockA_normal blockA_ret blockA_exit blockA_other endA_normal endA_ret ev_tmp' ev_const ev_func ev_global cv_int cv_bool cv_string cv_pointer cv_slice cv_agg cv_map put_some put_none wH_s setE_apply setE_env less_eq env_cons env_nil upd_upd upd_apply del_apply startA_eq cells_ag cells_sl one_sl cells_vs one_vs cells_ep one_ep cells_fn one_fn cells_int one_int cells_bool one_bool cells_string one_string cells_pointer one_pointer cells_slice one_slice cells_map one_map cells_agg resK_one resK_nil resK_two rvK_t rvK_c rvsK_nil rvsK_cons iseq_nil iseq_cons gdA_true gdA_false gdA_undef istep_free istep_guard istepV_free istepV_guard dseq_nil dseq_pu dseq_rd dseq_ef wpc_regT dtree_nil dtree_pu dtree_rd dtree_ef dtree_br chkAll_nil chkAll_cons andK_true pickK_true pickK_false pickK_tb pickK_fb bin2K_pl eqbK_eq eqbK_ne eqpK_eq eqpK_ne eqmK_eq eqmK_ne eqzK_eq eqzK_ne eqzK_sl eqzK_vs un1K_pl convK_int fillK_some fillA_cons fillA_nil cellsK_some needK_true needK_ok seeK_ep seeK_ptr oneK_agg oneK_one nilcK_ptr nilcK_ep fadrK_ptr fadrK_ep fldK_ag iadAK_ptr iadAK_ep iadSK_sl iadSK_vs extK_0 extK_1 extK_2 extK_3 lenK_pl lenK_sl lenK_vs lensK_pl boxK_some minmax1K_int storeK_ptr callvK_fn callvK_pl newsK_nil newsK_vs newsK_sl appK_nil appK_nil0 appK_sl appK_vs bnd1K_int bndK_none bndK_some slsK_vs slsK_nil slsK_sl0 slsK_sl slstrK_pl boolK_some eqsK_ag iop_eqs iop_sls iop_slstr seesK_some seesK_ro mapsK_some MAP_some findK_some findK_none plK_pl nmapK_none nmapK_some iop_mlook iop_mlen iop_mmk iop_mupd iop_mdel iop_mrng itK_none itK_some ptr0K_ptr iop_mnxt iop_ment it1K_some entK_some iop_mov iop_pick iop_bin iop_eqb iop_eqp iop_eqm iop_eqz iop_un capK_pl capK_sl capK_vs iop_cap apzK_nil iop_apz mksK_int iop_mks clrK_sl clrK_vs clrK_nil iop_clr iop_conv iop_build iop_load iop_nilc iop_fadr iop_fld iop_iadA iop_iadS iop_ext iop_mkf iop_len iop_lens iop_minmax iop_al iop_box iop_bsl iop_store iop_call iop_callv iop_app BIN_add BIN_sub BIN_mul BIN_and BIN_or BIN_xor BIN_andNot BIN_eql BIN_neq BIN_lss BIN_leq BIN_gtr BIN_geq BIN_quo BIN_rem BIN_shl BIN_shr BIN_sadd BIN_seql BIN_sneq BIN_slss BIN_sleq BIN_sgtr BIN_sgeq UN_neg UN_xor UN_not MM_nil MM_cons partsA argsA ptrA lessL eqL min2I slotN_int slotP_int slotI_int
attribute [local simp] oc_len oc_tt oc_dd oc_one oc_ag oc_t1 oc_t2 oc_t3 oc_t4 oc_t5 oc_t6 oc_t7 oc_d1 oc_d2 oc_d3 oc_d4 oc_d5 oc_d6 oc_d7 rc_len rc_t4 rc_t1 rc_t2 rc_t3 rc_d1 rc_d2 rc_d3 rc_d4 rc_ag rc_one rc_eq

def regF (l : List R) : List R := if (canonF l).length ≤ 256 then canonF l else []
theorem regF_in {l : List R} (h : (canonF l).length ≤ 256) : regF l = canonF l := if_pos h
theorem regF_out {l : List R} (h : 256 < (canonF l).length) : regF l = [] := if_neg (by omega)
theorem regF_len (l : List R) : (regF l).length ≤ 256 := by
  unfold regF
  split
  · assumption
  · simp
theorem c13 {H : AH} {K : AV → AH → Prop} {p b : Nat} {m : List O} {st : List Nat} {cl : Nat} (h : LS H p b m st cl) (hm : m.length ≤ 100000)
    (hk : ∀ out H', Row H H' out (flat rc (regF (sareas m))) (regF (sareas m)).length 4 → K out H') : @AC Tryz.prog 13 [pA p] H ⟨K⟩ := by
  refine AC_of (.forget ?_)
  refine call_c follows cf13_ok (by simp) ?_
  simp
  refine c36 h (by omega) fun o1 H1 h1 => ?_
  have hsl : (sareas m).length = m.length := by unfold sareas; rw [List.length_map, souts_len]
  have hr : Rr H1 o1 (sareas m) := (h1.rin (flat_len rc_l _)).rd
  simp
  refine c35 hr (by omega) (fun hc out H' hro => ?_) fun hc => ?_
  · have oo := Rw.one (hro.rin (flat_len rc_l _)).rd
    have cc := Rw.cells (hro.rin (flat_len rc_l _)).rd
    rw [regF_in hc] at hk
    simp [oo, cc]
    obtain ⟨H0, z1, z2⟩ := Row.base h1.sub hro
    exact ⟨H0, z1, hk _ _ z2⟩
  · rw [regF_out hc] at hk
    simp
    exact ⟨H, h1.sub, hk _ _ (by simpa [flat_nil] using Row.nil H 4)⟩
theorem oc_all (L : List O) : (flat oc L).all AV.one = true := by
  induction L with
  | nil => rfl
  | cons o L ih => rw [show o :: L = [o] ++ L from rfl, flat_app, List.all_append, ih, flat_one]; rfl
theorem c11 {H : AH} {K : AV → AH → Prop} {x : AV} (L : List O) (hx : LR H x L) (hl : L.length ≤ 1000000)
    (hk : ∀ out H', Sub H H' → LR H' out L → K out H') : @AC Tryz.prog 11 [.ag [vb true, x]] H ⟨K⟩ := by
  have ox := hx.one
  refine call_c follows cf11_ok (by simp) ?_
  simp [ox]
  refine newK_of fun z hz => ?_
  have hS := (Sub.refl H).upd hz (o := .cells [vb true, x])
  have hzz : upd H z (.cells [vb true, x]) z = some (.cells [vb true, x]) := by simp [upd_apply]
  simp
  refine newK_of fun q hq => ?_
  have nqz := free_ne hq z (by simp [upd_apply])
  have hS3 := hS.trans ((Sub.refl _).upd hq (o := .cells []))
  have hnw : ∀ k : Nat → List AV → Prop, @NEWS (upd (upd H z (.cells [vb true, x])) q (.cells [])) x 8 ⟨k⟩ = k L.length (flat oc L) := fun k => Rw.news ((hx.sub hS3).rd)
  generalize hx8 : AV.sl q 0 0 8 true = x8
  simp [nqz, hnw]
  rw [← hx8]
  refine sl_app (H0 := upd H z (.cells [vb true, x])) (cs := []) hq (Sub.refl _) (oc_all L) (by simp) (by omega) fun r' H' hr' hsr => ?_
  simp
  refine hk _ _ ((hS.trans ((Sub.refl _).upd hr')).trans hsr) ⟨by rw [oc_flat_len], .inr ⟨r', false, by simp, hsr r' _ (by simp [upd_apply])⟩⟩
theorem c14 {H : AH} {K : AV → AH → Prop} {x : AV} (L : List O) (hx : LR H x L) (hl : L.length ≤ 100000)
    (hk : ∀ out H', Row H H' out (flat rc (regF (L.map lg))) (regF (L.map lg)).length 4 → K out H') : @AC Tryz.prog 14 [.ag [vb true, x]] H ⟨K⟩ := by
  refine AC_of (.forget ?_)
  have ox := hx.one
  refine call_c follows cf14_ok (by simp) ?_
  simp [ox]
  refine newK_of fun z hz => ?_
  have hS := (Sub.refl H).upd hz (o := .cells [vb true, x])
  have hzz : upd H z (.cells [vb true, x]) z = some (.cells [vb true, x]) := by simp [upd_apply]
  simp
  generalize upd H z (.cells [vb true, x]) = H2 at *
  have hx2 : Rw H2 x (flat oc L) L.length 8 := (hx.sub hS).rd
  have lx := fun k => Rw.lenK hx2 (k := k)
  refine wpc_loop (fun st => ∃ (i : Nat) (out : AV), st.n = 29 ∧ st.t 1 = pA z ∧ st.t 3 = out ∧ st.t 4 = vi i ∧ i ≤ L.length ∧ Row H2 st.H out (flat rc ((L.take i).map lg)) ((L.take i).map lg).length 4) (fun st => L.length - slotN (st.t 4)) ?_ ?_
  · exact FgK.same ⟨0, vnil, by simp, by simp, by simp, by simp, by omega, by simpa [flat_nil] using Row.nil H2 4⟩
  rintro st ⟨i, out, hn, e1, e3, e4, hi, hro⟩
  generalize hHeq : st.H = Hs at *
  have w := IntWalk.i64_in ((i : Int) + 1) (by omega)
  have hz3 := hro.sub.at hzz
  have htl : ((L.take i).map lg).length = i := by simp; omega
  by_cases hlt : i < L.length
  · obtain ⟨p, hp1, hp2⟩ := fsee (enc := oc) (k := 8) (fun _ => rfl) (Rw.sub hx2 hro.sub) hlt
    have et : (L.take (i + 1)).map lg = (L.take i).map lg ++ [lg L[i]] := by rw [take_snoc' hlt, List.map_append]; rfl
    generalize L[i] = o at *
    generalize (L.take i).map lg = rs at *
    simp (disch := omega) [hn, hHeq, e1, e3, e4, hz3, lx, hlt, hp1, hp2 _ (Sub.refl _)]
    refine (c16 o).ac ?_
    simp
    refine newK_of fun q hq => ?_
    have hS2 : Sub Hs (upd Hs q (.cells (rc (lg o)))) := (Sub.refl Hs).upd hq
    generalize hx4 : AV.sl q 0 1 4 true = x4
    have hnw : ∀ k : Nat → List AV → Prop, @NEWS (upd Hs q (.cells (rc (lg o)))) x4 4 ⟨k⟩ = k 1 (rc (lg o)) := by intro k; rw [← hx4]; simp
    simp [hnw]
    refine hro.app hS2 (by decide) (by simp) (flat_len rc_l _) (by omega) fun r H' hr hsr => ?_
    simp (disch := omega) [e4, w]
    refine FgK.of _ hsr ⟨⟨i + 1, .sl r 0 (rs.length + 1) 4 false, by simp, by simp [e1], by simp, by simp, by omega, ?_⟩, by simp [e4]; omega⟩
    rw [et, List.length_append]
    have := Row.mk (cs := flat rc (rs ++ [lg o])) (n := rs.length + 1) (sz := 4) hr
    rw [← flat_snoc] at this ⊢
    exact this
  · rw [List.take_of_length_le (by omega)] at hro htl
    simp (disch := omega) [hn, hHeq, e1, e3, e4, hz3, lx, hlt]
    refine c37 ((hro.rin (flat_len rc_l _)).rd) (by omega) (fun hc out2 H' h2 => ?_) fun hc => ?_
    · have oo := Rw.one (h2.rin (flat_len rc_l _)).rd
      have cc := Rw.cells (h2.rin (flat_len rc_l _)).rd
      rw [regF_in hc] at hk
      simp [oo, cc]
      obtain ⟨H0, z1, z2⟩ := Row.base (hS.trans hro.sub) h2
      exact ⟨H0, z1, hk _ _ z2⟩
    · rw [regF_out hc] at hk
      simp
      exact ⟨H, hS.trans hro.sub, hk _ _ (by simpa [flat_nil] using Row.nil H 4)⟩
theorem c12 {H : AH} {K : AV → AH → Prop} {a b : AV} {l : List R} (ha : Rr H a l) (hb : Rr H b l) (hl : l.length ≤ 1000000) (hk : K (vb true) H) : @AC Tryz.prog 12 [a, b] H ⟨K⟩ := by
  have l1 := fun k => Rw.lenK ha (k := k)
  have l2 := fun k => Rw.lenK hb (k := k)
  refine AC_of (.forget ?_)
  refine call_c follows cf12_ok (by simp) ?_
  simp [l1, l2]
  refine wpc_loop (fun s => ∃ (i : Nat), s.n = 26 ∧ s.H = H ∧ s.t 0 = a ∧ s.t 1 = b ∧ s.t 5 = vi i ∧ i ≤ l.length) (fun s => l.length - slotN (s.t 5)) ?_ ?_
  · exact FgK.same ⟨0, by simp, by simp, by simp, by simp, by simp, by omega⟩
  rintro s ⟨i, hn, hH, e0, e1, e5, hi⟩
  by_cases hlt : i < l.length
  · have wr := IntWalk.i64_in ((i : Int) + 1) (by omega)
    obtain ⟨p, hp1, hp2⟩ := fsee rc_l ha hlt
    obtain ⟨q, hq1, hq2⟩ := fsee rc_l hb hlt
    generalize l[i] = x at *
    have hx : req x x = true := (req_iff x x).2 rfl
    simp (disch := omega) [hn, hH, e0, e1, e5, l1, hlt, hp1, hp2 _ (Sub.refl _), hq1, hq2 _ (Sub.refl _), hx, wr]
    exact FgK.same ⟨⟨i + 1, by simp, by simp [hH], by simp [e0], by simp [e1], by simp, by omega⟩, by simp [e5]; omega⟩
  · simp (disch := omega) [hn, hH, e0, e1, e5, l1, hlt]
    exact ⟨H, Sub.refl _, hk⟩
end Go.Proofs.YtidcajmbkbamcaaGreat
end

/-! LayoutPlays: for every run the law returns true, and its arguments read as they did. No conditions: every input that the row admits. -/
section
namespace Go.Proofs.YtidcajmbkbamcaaGreat
open Go Go.Ab Go.RowKit Go.ChangeShapes Go.WideShapes Go.ChangeAt
set_option linter.unusedSimpArgs false
set_option linter.unusedVariables false
set_option linter.unnecessarySimpa false

attribute [local simp] condK_true condK_false condK_not wpc_skip wpc_ret wpc_exit wpc_seq wpc_reg wpc_regD testA_bool wpc_cond wpc_block thenA_normal thenA_ret thenA_exit blockA_normal blockA_ret blockA_exit blockA_other endA_normal endA_ret ev_tmp' ev_const ev_func ev_global cv_int cv_bool cv_string cv_pointer cv_slice cv_agg cv_map put_some put_none wH_s setE_apply setE_env less_eq env_cons env_nil upd_upd upd_apply del_apply startA_eq cells_ag cells_sl one_sl cells_vs one_vs cells_ep one_ep cells_fn one_fn cells_int one_int cells_bool one_bool cells_string one_string cells_pointer one_pointer cells_slice one_slice cells_map one_map cells_agg resK_one resK_nil resK_two rvK_t rvK_c rvsK_nil rvsK_cons iseq_nil iseq_cons gdA_true gdA_false gdA_undef istep_free istep_guard istepV_free istepV_guard dseq_nil dseq_pu dseq_rd dseq_ef wpc_regT dtree_nil dtree_pu dtree_rd dtree_ef dtree_br chkAll_nil chkAll_cons andK_true pickK_true pickK_false pickK_tb pickK_fb bin2K_pl eqbK_eq eqbK_ne eqpK_eq eqpK_ne eqmK_eq eqmK_ne eqzK_eq eqzK_ne eqzK_sl eqzK_vs un1K_pl convK_int fillK_some fillA_cons fillA_nil cellsK_some needK_true needK_ok seeK_ep seeK_ptr oneK_agg oneK_one nilcK_ptr nilcK_ep fadrK_ptr fadrK_ep fldK_ag iadAK_ptr iadAK_ep iadSK_sl iadSK_vs extK_0 extK_1 extK_2 extK_3 lenK_pl lenK_sl lenK_vs lensK_pl boxK_some minmax1K_int storeK_ptr callvK_fn callvK_pl newsK_nil newsK_vs newsK_sl appK_nil appK_nil0 appK_sl appK_vs bnd1K_int bndK_none bndK_some slsK_vs slsK_nil slsK_sl0 slsK_sl slstrK_pl boolK_some eqsK_ag iop_eqs iop_sls iop_slstr seesK_some seesK_ro mapsK_some MAP_some findK_some findK_none plK_pl nmapK_none nmapK_some iop_mlook iop_mlen iop_mmk iop_mupd iop_mdel iop_mrng itK_none itK_some ptr0K_ptr iop_mnxt iop_ment it1K_some entK_some iop_mov iop_pick iop_bin iop_eqb iop_eqp iop_eqm iop_eqz iop_un capK_pl capK_sl capK_vs iop_cap apzK_nil iop_apz mksK_int iop_mks clrK_sl clrK_vs clrK_nil iop_clr iop_conv iop_build iop_load iop_nilc iop_fadr iop_fld iop_iadA iop_iadS iop_ext iop_mkf iop_len iop_lens iop_minmax iop_al iop_box iop_bsl iop_store iop_call iop_callv iop_app BIN_add BIN_sub BIN_mul BIN_and BIN_or BIN_xor BIN_andNot BIN_eql BIN_neq BIN_lss BIN_leq BIN_gtr BIN_geq BIN_quo BIN_rem BIN_shl BIN_shr BIN_sadd BIN_seql BIN_sneq BIN_slss BIN_sleq BIN_sgtr BIN_sgeq UN_neg UN_xor UN_not MM_nil MM_cons partsA argsA ptrA lessL eqL min2I slotN_int slotP_int slotI_int
attribute [local simp] oc_len oc_tt oc_dd oc_one oc_ag oc_t1 oc_t2 oc_t3 oc_t4 oc_t5 oc_t6 oc_t7 oc_d1 oc_d2 oc_d3 oc_d4 oc_d5 oc_d6 oc_d7 opq_len opq_tt opq_dd opq_one opq_ag opq_t1 opq_t2 opq_t3 opq_t4 opq_t5 opq_t6 opq_t7 opq_t8 opq_d1 opq_d2 opq_d3 opq_d4 opq_d5 opq_d6 opq_d7 opq_d8 rc_len rc_t4 rc_t1 rc_t2 rc_t3 rc_d1 rc_d2 rc_d3 rc_d4 rc_ag rc_one rc_eq min2_t min2_f

theorem souts_nil : souts [] = [] := List.length_eq_zero_iff.1 (by rw [souts_len]; rfl)
theorem c3 (l : List Op) : PC Tryz.prog 3 [.vs l.length false (flat opq l)] (vb true) := by
  refine .tell fun H => ?_
  refine call_c follows cf3_ok (by simp) ?_
  by_cases d1 : (60 : Int) < l.length
  · simp [d1]
    refine (c5).ac ?_
    simp
    exact Sub.refl _
  simp [d1]
  refine c6 fun p b hp hb hg => ?_
  have hS : Sub H (upd (upd H b (.map [] [] 0)) p (.cells [vb true, .pl (.map (some b))])) := ((Sub.refl H).upd hb).upd hp
  generalize upd (upd H b (.map [] [] 0)) p (.cells [vb true, .pl (.map (some b))]) = H1 at hg hS ⊢
  simp
  refine c7 ?_
  simp
  refine newK_of fun y hy0 => ?_
  have hsy : Sub H1 (upd H1 y (.cells [vb true, vnil])) := (Sub.refl H1).upd hy0
  have hyy : upd H1 y (.cells [vb true, vnil]) y = some (.cells [vb true, vnil]) := by simp [upd_apply]
  have hG2 := hg.sub hsy
  have hS2 := hS.trans hsy
  have hyH : H y = none := hS.none_of hy0
  simp
  generalize upd H1 y (.cells [vb true, vnil]) = H2 at *
  clear hy0 hsy hg hS
  refine wpc_loop (fun s => ∃ (i : Nat) (x : AV) (st : List Nat) (cl : Nat), s.n = 75 ∧ s.t 0 = .vs l.length false (flat opq l) ∧ s.t 3 = pA p ∧ s.t 4 = pA y ∧ s.t 5 = vi i ∧ i ≤ l.length ∧
      LS s.H p b (run (l.take i)) st cl ∧ s.H y = some (.cells [vb true, x]) ∧ LR s.H x (souts (run (l.take i))) ∧ Sub H s.H) (fun s => l.length - slotN (s.t 5)) ?_ ?_
  · exact FgK.same ⟨0, vnil, [], 0, by simp, by simp, by simp, by simp, by simp, by omega, hG2, hyy, by show LR H2 vnil (souts []); rw [souts_nil]; exact RowIn.nil _ 8, hS2⟩
  clear hyy hG2 hS2
  rintro s ⟨i, x, st, cl, hn, t0, t3, t4, t5, hi, hL, y3, hx3, hS3⟩
  generalize hHeq : s.H = Hs at *
  have w := IntWalk.i64_in ((i : Int) + 1) (by omega)
  have ox := hx3.one
  have hil0 := run_len (l.take i) []
  have hil : (run (l.take i)).length ≤ 60 := by unfold run; simp at hil0; omega
  by_cases hlt : i < l.length
  · have hd := opq_at hlt
    have hsp := take_snoc hlt
    have hbd : i * 9 + 9 ≤ (flat opq l).length := by rw [opq_flat_len]; omega
    generalize l[i] = o at hd hsp
    have hR : run (l.take (i + 1)) = doM (run (l.take i)) o := by rw [hsp, run, List.foldl_append]; rfl
    have hii : Inv (run (l.take i)) := inv_run _ [] inv_nil
    have hil2 : (souts (run (l.take i))).length ≤ 60 := by rw [souts_len]; exact hil
    obtain ⟨q1, q2⟩ := step_do hii o
    simp (disch := omega) [hn, hHeq, t0, t3, t4, t5, hlt, hd, hbd, y3, ox]
    refine c8 (souts (run (l.take i))) o hx3 (by omega) fun out Ha ha hra => ?_
    rw [q2] at hra
    rw [q1]
    have ya := ha.at y3
    have ga := hL.sub ha
    have oa := hra.one
    have hSa := hS3.trans ha
    simp (disch := omega) [hn, t0, t3, t4, t5, hlt, hd, hbd, ya, ox, oa]
    refine newK_of fun k hk => ?_
    have nk := free_ne hk y (by simp [ya])
    have hkb : Sub Ha (upd Ha k (.cells [vb true, out])) := (Sub.refl Ha).upd hk
    have yb := hkb.at ya
    have gb := ga.sub hkb
    have rb := hra.sub hkb
    have kb : upd Ha k (.cells [vb true, out]) k = some (.cells [vb true, out]) := by simp [upd_apply]
    have hSb := hSa.trans hkb
    have hpy : p ≠ y := by
      rintro rfl
      have := gb.ob
      rw [yb] at this
      injection this with e; injection e with e
      simp at e
      rcases hx3 with ⟨_, ⟨_, h⟩ | ⟨_, _, h, _⟩⟩ <;> rw [h] at e <;> cases e
    have hby : b ≠ y := by rintro rfl; have := gb.mp; rw [yb] at this; cases this
    simp (disch := omega) [hn, t0, t3, t4, t5, hlt, hd, hbd, ya, ox, oa, nk]
    generalize upd Ha k (.cells [vb true, out]) = Hb at *
    try simp (disch := omega) [hn, t0, t3, t4, t5, hlt, hd, hbd, kb, yb, oa]
    have gc : LS (upd Hb y (.cells [vb true, out])) p b (run (l.take i)) st cl := ⟨by simp only [upd_apply, if_neg hpy]; exact gb.ob, by simp only [upd_apply, if_neg hby]; exact gb.mp, gb.ne, gb.nd, gb.stp⟩
    have rc' := rowIn_box (X := .cells [vb true, out]) yb rb
    have yc : upd Hb y (.cells [vb true, out]) y = some (.cells [vb true, out]) := by simp [upd_apply]
    have hSc := hSb.upd hyH (o := .cells [vb true, out])
    generalize upd Hb y (.cells [vb true, out]) = Hc at *
    refine c9 o gc fun st' cl' g => ?_
    have hyb : y ≠ b := fun e => hby e.symm
    have yd : upo Hc b (doM (run (l.take i)) o) st' cl' y = some (.cells [vb true, out]) := by simp only [upo, upd_apply, if_neg hyb]; exact yc
    have rd' : LR (upo Hc b (doM (run (l.take i)) o) st' cl') out (souts (doM (run (l.take i)) o)) := rowIn_upo gc rc'
    have hSd : Sub H (upo Hc b (doM (run (l.take i)) o) st' cl') := hSc.upd hb
    generalize upo Hc b (doM (run (l.take i)) o) st' cl' = Hd at *
    have hml2 := doM_len (run (l.take i)) o
    rw [← hR] at g rd' hml2
    have hsl : (souts (run (l.take (i + 1)))).length ≤ 1000 := by rw [souts_len]; omega
    simp (disch := omega) [hn, t0, t3, t4, t5, yd, oa]
    refine c10 g (by omega) fun o1 H4 r4 => ?_
    have y4 := r4.sub.at yd
    have rr := rd'.sub r4.sub
    simp (disch := omega) [y4, oa]
    refine c11 (souts (run (l.take (i + 1)))) rr (by omega) fun o2 H5 hs5 q4 => ?_
    have q3 := (r4.rin (by rw [oc_flat_len])).sub hs5
    have l3 := fun k => q3.lenK (k := k)
    have l4 := fun k => q4.lenK (k := k)
    have y5 := hs5.at y4
    have g5 := (g.sub r4.sub).sub hs5
    have r5 := rr.sub hs5
    have hS5 := (hSd.trans r4.sub).trans hs5
    simp (disch := omega) [l3, l4]
    clear hra ya ga yb gb rb kb gc rc' yc yd rd' hSa hSb hSc hSd hil hil2 q1 q2
    generalize hNN : souts (run (l.take (i + 1))) = N at *
    refine wpc_loop (fun s' => ∃ j : Nat, s'.n = 75 ∧ s'.H = H5 ∧ s'.t 0 = .vs l.length false (flat opq l) ∧ s'.t 3 = pA p ∧ s'.t 4 = pA y ∧ s'.t 5 = vi i ∧ s'.t 8 = o1 ∧ s'.t 9 = o2 ∧ s'.t 10 = vi j ∧ j ≤ N.length) (fun s' => N.length - slotN (s'.t 10)) ?_ ?_
    · exact FgK.same ⟨0, by simp, by simp, by simp [t0], by simp [t3], by simp [t4], by simp [t5], by simp, by simp, by simp, by omega⟩
    rintro s' ⟨j, gn, gH, g0, g3, g4, g5', g8, g9, g10, hj⟩
    have wj := IntWalk.i64_in ((j : Int) + 1) (by omega)
    by_cases hjt : j < N.length
    · have hdj := oc_at hjt
      have hbj : j * 8 + 8 ≤ (flat oc N).length := by rw [oc_flat_len]; omega
      generalize N[j] = yy at hdj
      obtain ⟨qa, f, rfl, hq⟩ := q3.sl (by omega)
      obtain ⟨qb, f2, rfl, hq2⟩ := q4.sl (by omega)
      simp (disch := omega) [gn, gH, g0, g3, g4, g5', g8, g9, g10, hjt, hq, hq2, hdj, hbj, oc_eq, eqO_refl, wj]
      exact FgK.same ⟨⟨j + 1, by simp, by simp, by simp, by simp, by simp, by simp, by simp, by simp, by simp, by omega⟩, by simp [g10]; omega⟩
    · simp (disch := omega) [gn, gH, g0, g3, g4, g5', g8, g9, g10, l3, hjt, w]
      exact FgK.same ⟨⟨i + 1, out, st', cl', by simp, by simp, by simp, by simp, by simp, by omega, g5, y5, by rw [hNN]; exact r5, hS5⟩, by simp [t5]; omega⟩
  · rw [List.take_of_length_le (by omega)] at hx3 hL hil
    have hsl : (souts (run l)).length ≤ 1000 := by rw [souts_len]; omega
    simp (disch := omega) [hn, hHeq, t0, t3, t4, t5, hlt, y3, ox]
    refine c13 hL (by omega) fun o1 H4 r4 => ?_
    have y4 := r4.sub.at y3
    simp (disch := omega) [y4, ox]
    refine c14 (souts (run l)) (hx3.sub r4.sub) (by omega) fun o2 H5 r5 => ?_
    have hrl := regF_len (sareas (run l))
    simp
    refine c12 (l := regF (sareas (run l))) (Rw.sub ((r4.rin (flat_len rc_l _)).rd) r5.sub) ((r5.rin (flat_len rc_l _)).rd) (by omega) ?_
    simp
    refine (c5).ac ?_
    simp
    exact (hS3.trans r4.sub).trans r5.sub
theorem law_LayoutPlays (xs : List AV) (hf : FitsT [(false, [.sl opqL])] xs) : ACall Tryz.prog 3 xs (fun _ => none) (fun v _ => v = vb true) := by
  match xs, hf with
  | [a], ⟨h1, _⟩ =>
    obtain ⟨l, rfl⟩ := fitOps h1
    exact (c3 l).same rfl
set_option maxRecDepth 100000

theorem layoutPlays_lifted (os : Os) (started : os.Started) (H : Type) (enc : TypeId × Value → H) :
    ReturnsInHanded {} Tryz.checked os 3 .any (Rows.layoutPlaysSpec.pre6 enc Tryz.prog Tryz.f3 Rows.layoutPlaysRow.domain false) (Rows.layoutPlaysSpec.post enc Tryz.prog Tryz.f3 false true false false) := by
  refine returnsInHanded_of_change_sized (C := Tryz.checked) own started (by kernel_rfl) Tryz.func3
    (ChangeSpec.witness6 (enc := enc) (C := Tryz.checked) false ⟨#[], #[.slice none 0 0], []⟩ 8 (by kernel_rfl) (by kernel_rfl) (by kernel_rfl) (by kernel_rfl)) ?_
  intro W base args ds gs before hval hW _ _ _
  refine law_contract (L := [(false, [.sl opqL])]) laidOut (by kernel_rfl) rfl (fun ds hd => ?_) ⟨_, rfl, by kernel_rfl⟩ ?_ (fun xs hf => law_LayoutPlays xs hf) W base args ds gs before hval hW
  · match ds, hd with
    | [d0], _ => exact ⟨rfl, rfl, rfl⟩
  · exact of_decide_eq_true (by kernel_rfl)

theorem layoutPlays_holds : Rows.LayoutPlaysSaid :=
  OpenClaim.holds_of_wide 3 Tryz.f3 rfl rfl rfl rfl rfl rfl rfl ⟨rfl, rfl, rfl, rfl, rfl⟩ rfl rfl rfl rfl rfl (by kernel_rfl) Tryz.func3 (by kernel_rfl)
    (of_decide_eq_true (by kernel_rfl)) (by unfold Func.isWrapper; first | (rw [if_pos (by decide +kernel)]; kernel_rfl) | (rw [if_neg (by decide +kernel)]; exact ⟨rfl, rfl⟩))
    (fun os started H enc _ => layoutPlays_lifted os started H enc)
end Go.Proofs.YtidcajmbkbamcaaGreat
end
