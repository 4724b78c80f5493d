/-
  The reference's layout: Unplug, Overlapping. Conditions: as each lemma states them.
-/
import Derived.Test.YtidcajmbkbamcaaL19
namespace Go.Proofs.Ytidcajmbkbamcaa
open Go Go.Ab Go.RowKit
set_option linter.unusedSimpArgs false
set_option linter.unusedVariables false
set_option linter.unnecessarySimpa false

attribute [local simp] condK_true condK_false condK_not wpc_skip wpc_ret wpc_exit wpc_seq wpc_reg wpc_regD testA_bool wpc_cond wpc_block thenA_normal thenA_ret thenA_exit blockA_normal blockA_ret blockA_exit blockA_other endA_normal endA_ret ev_tmp' ev_const ev_func ev_global cv_int cv_bool cv_string cv_pointer cv_slice cv_agg put_some put_none wH_s setE_apply setE_env less_eq env_cons env_nil upd_upd upd_apply del_apply startA_eq cells_ag cells_sl one_sl cells_vs one_vs cells_ep one_ep cells_fn one_fn cells_int one_int cells_bool one_bool cells_string one_string cells_pointer one_pointer cells_slice one_slice cells_map one_map cells_agg resK_one resK_nil resK_two rvK_t rvK_c rvsK_nil rvsK_cons iseq_nil iseq_cons gdA_true gdA_false gdA_undef istep_free istep_guard istepV_free istepV_guard dseq_nil dseq_pu dseq_rd dseq_ef chkAll_nil chkAll_cons andK_true pickK_true pickK_false pickK_tb pickK_fb bin2K_pl eqbK_eq eqbK_ne eqpK_eq eqpK_ne un1K_pl convK_int fillK_some fillA_cons fillA_nil cellsK_some needK_true needK_ok seeK_ep seeK_ptr oneK_agg oneK_one nilcK_ptr nilcK_ep fadrK_ptr fadrK_ep fldK_ag iadAK_ptr iadAK_ep iadSK_sl iadSK_vs extK_0 extK_1 extK_2 extK_3 lenK_pl lenK_sl lenK_vs lensK_pl boxK_some minmax1K_int storeK_ptr callvK_fn callvK_pl newsK_nil newsK_vs newsK_sl appK_nil appK_nil0 appK_sl appK_vs bnd1K_int bndK_none bndK_some slsK_vs slsK_nil slsK_sl0 slsK_sl slstrK_pl boolK_some eqsK_ag iop_eqs iop_sls iop_slstr seesK_some seesK_ro mapsK_some MAP_some findK_some findK_none plK_pl nmapK_none nmapK_some iop_mlook iop_mlen iop_mmk iop_mupd iop_mdel iop_mrng itK_none itK_some ptr0K_ptr iop_mnxt iop_ment it1K_some entK_some iop_mov iop_pick iop_bin iop_eqb iop_eqp iop_un iop_conv iop_build iop_load iop_nilc iop_fadr iop_fld iop_iadA iop_iadS iop_ext iop_mkf iop_len iop_lens iop_minmax iop_al iop_box iop_bsl iop_store iop_call iop_callv iop_app BIN_add BIN_sub BIN_mul BIN_and BIN_or BIN_xor BIN_andNot BIN_eql BIN_neq BIN_lss BIN_leq BIN_gtr BIN_geq BIN_quo BIN_rem BIN_shl BIN_shr BIN_sadd BIN_seql BIN_sneq BIN_slss BIN_sleq BIN_sgtr BIN_sgeq UN_neg UN_xor UN_not MM_nil MM_cons partsA argsA ptrA lessL eqL min2I slotN_int slotP_int slotI_int
attribute [local simp] oc_len oc_tt oc_dd oc_one oc_ag oc_t1 oc_t2 oc_t3 oc_t4 oc_t5 oc_t6 oc_t7 oc_d1 oc_d2 oc_d3 oc_d4 oc_d5 oc_d6 oc_d7 opq_len opq_tt opq_dd opq_one opq_ag opq_t1 opq_t2 opq_t3 opq_t4 opq_t5 opq_t6 opq_t7 opq_t8 opq_d1 opq_d2 opq_d3 opq_d4 opq_d5 opq_d6 opq_d7 opq_d8 rc_len rc_t4 rc_t1 rc_t2 rc_t3 rc_d1 rc_d2 rc_d3 rc_d4 rc_ag rc_one rc_eq min2_t min2_f

def skp (k : Int) : List O → Int → List O
  | [], _ => []
  | x :: t, i => if i = k then skp k t (i + 1) else x :: skp k t (i + 1)
theorem skp_len (k : Int) : ∀ (l : List O) (i : Int), (skp k l i).length ≤ l.length
  | [], _ => by simp [skp]
  | x :: t, i => by
    have := skp_len k t (i + 1)
    unfold skp
    split <;> simp <;> omega
def wdlE (L : List O) (s : ByteArray) : Int := if fndF s L 0 < 0 then 8 else 0
def wdlL (L : List O) (s : ByteArray) : List O := if fndF s L 0 < 0 then L else skp (fndF s L 0) L 0
theorem c41 {H : AH} {K : AV → AH → Prop} {x : AV} (L : List O) (s : ByteArray) (hx : LR H x L) (hl : L.length ≤ 1000000)
    (hk : Back H (wdlL L s) (wdlE L s) K) : @AC Try.prog 41 [.ag [vb true, x], vs8 s] H ⟨K⟩ := by
  refine AC_of (.forget ?_)
  have ox := hx.one
  refine call_c follows cf41_ok (by simp) ?_
  simp [ox]
  refine newK_of fun z hz => ?_
  simp
  refine newK_of fun v hv => ?_
  obtain ⟨n1, n2, hv2⟩ := upd_none'.1 hv
  simp [n2]
  have hS : Sub H (upd (upd H z (.cells [vb true, x])) v (.cells [vb false, vnil])) := ((Sub.refl H).upd hz).upd hv2
  have h2z : (upd (upd H z (.cells [vb true, x])) v (.cells [vb false, vnil])) z = some (.cells [vb true, x]) := by simp [upd_apply, n2]
  have h2v : (upd (upd H z (.cells [vb true, x])) v (.cells [vb false, vnil])) v = some (.cells [vb false, vnil]) := by simp [upd_apply]
  generalize upd (upd H z (.cells [vb true, x])) v (.cells [vb false, vnil]) = H2 at *
  have hx2 := hx.sub hS
  have lx := fun k => hx.lenK (k := k)
  try simp [h2z, ox]
  refine c56 L s hx2 hl ?_
  by_cases c1 : fndF s L 0 < 0
  · have := hk x H (Sub.refl H) (by rw [wdlL, if_pos c1]; exact hx)
    rw [wdlE, if_pos c1] at this
    simp [c1, h2z, h2v, ox]
    exact ⟨H, hS.upd hv2, this⟩
  have hk2 : ∀ out H', Row H H' out (flat oc (skp (fndF s L 0) L 0)) (skp (fndF s L 0) L 0).length 8 → K (.tp [.ag [vb true, out], vi 0]) H' := fun out H' hr => by
    have := hk out H' hr.sub (by rw [wdlL, if_neg c1]; exact hr.rin (by rw [oc_flat_len]))
    rwa [wdlE, if_neg c1] at this
  simp [c1, h2z, h2v, ox]
  generalize fndF s L 0 = kk at *
  refine newK_of fun y hy => ?_
  have nz2 := free_ne hy v (by simp [h2v])
  have nz3 := free_ne hy z (by simp [h2z])
  try simp
  have up : ∀ o, Sub H2 (upd H2 y o) := fun o => (Sub.refl H2).upd hy
  refine wpc_loop (fun s' => ∃ (i : Nat) (out : AV) (P : List O), s'.n = 41 ∧ s'.t 2 = pA z ∧ s'.t 4 = pA v ∧ s'.t 6 = vi kk ∧ s'.t 7 = pA y ∧ s'.t 8 = vi i ∧ i ≤ L.length ∧ P ++ skp kk (L.drop i) i = skp kk L 0 ∧ Row (upd H2 y (.cells [vb true, out])) s'.H out (flat oc P) P.length 8) (fun s' => L.length - slotN (s'.t 8)) ?_ ?_
  · exact FgK.same ⟨0, vnil, [], by simp, by simp, by simp, by simp, by simp, by simp, by omega, by simp, by simp [flat_nil]; exact Row.nil _ 8⟩
  rintro s' ⟨i, out, P, hn, t2, t4, t6, t7, t8, hi, hO, hrow⟩
  have w := IntWalk.i64_in ((i : Int) + 1) (by omega)
  have hsub := hrow.sub
  have hone := hrow.one
  have hz3 := hsub.at ((up _).at h2z)
  have hv3 := hsub.at ((up _).at h2v)
  have hy3 : s'.H y = some (.cells [vb true, out]) := hsub.at (by simp [upd_apply])
  have hOl : P.length ≤ L.length := by
    have h1 := congrArg List.length hO
    have h2 := skp_len kk L 0
    simp at h1; omega
  by_cases hlt : i < L.length
  · have hd := oc_at hlt
    have hbd : i * 8 + 8 ≤ (flat oc L).length := by rw [oc_flat_len]; omega
    rw [List.drop_eq_getElem_cons hlt, skp] at hO
    generalize L[i] = e at hd hO
    obtain ⟨q, f, rfl, hqH⟩ := hx2.sl (by omega)
    have hq3 := hsub.at ((up _).at hqH)
    by_cases b1 : (i : Int) = kk
    · rw [if_pos b1] at hO
      have hlt' : kk < L.length := by omega
      subst b1
      simp (disch := omega) [hn, t2, t4, t6, t7, t8, hz3, lx, hlt, w]
      exact FgK.same ⟨⟨i + 1, out, P, by simp [hn], by simp [t2], by simp [t4], by simp [t6], by simp [t7], by simp, by omega, by simpa using hO, hrow⟩, by simp [t8]; omega⟩
    · rw [if_neg b1] at hO
      simp (disch := omega) [hn, t2, t4, t6, t7, t8, hz3, hy3, hq3, hd, hbd, lx, hlt, b1]
      refine newK_of fun u hu => ?_
      have nu := free_ne hu y (by simp [hy3])
      have nq := free_ne hu q (by simp [hq3])
      have nr := free_ne hu z (by simp [hz3])
      have hsu : Sub s'.H (upd s'.H u (.cells (oc e))) := (Sub.refl _).upd hu
      simp (disch := omega) [hn, t2, t4, t6, t7, t8, hz3, hy3, hq3, hd, hbd, hlt, nu, nq, nr]
      refine hrow.app (by exact hsu) (by decide) rfl (by rw [oc_flat_len]) (by omega) fun g H' hg hsg => ?_
      obtain ⟨r1, r2, r3, r4, r5, r6⟩ := sub_turn hg hsg (.cells [vb true, .sl g 0 (P.length + 1) 8 false])
      simp (disch := omega) [hn, t2, t4, t6, t7, t8, r1, w]
      refine FgK.of _ r3 ⟨⟨i + 1, .sl g 0 (P.length + 1) 8 false, P ++ [e], by simp [hn], by simp [t2], by simp [t4], by simp [t6], by simp [t7], by simp, by omega, by simpa using hO, ?_⟩, by simp [t8]; omega⟩
      rw [flat_snoc]
      simpa using Row.mk (cs := flat oc (P ++ [e])) (n := P.length + 1) (sz := 8) r2
  · rw [List.drop_of_length_le (by omega), skp, List.append_nil] at hO
    rw [← hO] at hk2
    simp (disch := omega) [hn, t2, t4, t6, t7, t8, hz3, hy3, hv3, lx, hlt, hone]
    obtain ⟨H1, h3, h4⟩ := hrow.out2 (H := H) (hS.trans (up _)) (y := v) hv2 ((up _).at h2v) (.cells [vb true, out])
    exact ⟨H1, h3, hk2 _ _ h4⟩
theorem c23 {H : AH} {K : AV → AH → Prop} {x : AV} (L : List O) (r : R) (hx : LR H x L) (hl : L.length ≤ 1000000)
    (hk : ∀ out H', Row H H' out ((ovF L r).map vs8) (ovF L r).length 1 → K out H') : @AC Try.prog 23 [.ag [vb true, x], .ag (rc r)] H ⟨K⟩ := by
  refine AC_of (.forget ?_)
  have ox := hx.one
  refine call_c follows cf23_ok (by simp) ?_
  simp [ox]
  refine newK_of fun z hz => ?_
  simp
  refine newK_of fun v hv => ?_
  obtain ⟨n1, n2, hv2⟩ := upd_none'.1 hv
  simp [n2]
  have hS : Sub H (upd (upd H z (.cells [vb true, x])) v (.cells (rc r))) := ((Sub.refl H).upd hz).upd hv2
  have h2z : (upd (upd H z (.cells [vb true, x])) v (.cells (rc r))) z = some (.cells [vb true, x]) := by simp [upd_apply, n2]
  have h2v : (upd (upd H z (.cells [vb true, x])) v (.cells (rc r))) v = some (.cells (rc r)) := by simp [upd_apply]
  generalize upd (upd H z (.cells [vb true, x])) v (.cells (rc r)) = H2 at *
  have hx2 := hx.sub hS
  have lx := fun k => hx.lenK (k := k)
  refine wpc_loop (fun s => ∃ (i : Nat) (out : AV) (P : List ByteArray), s.n = 32 ∧ s.t 2 = pA z ∧ s.t 3 = pA v ∧ s.t 5 = out ∧ s.t 6 = vi i ∧ i ≤ L.length ∧ P = ovF (L.take i) r ∧ Row H2 s.H out (P.map vs8) P.length 1) (fun s => L.length - slotN (s.t 6)) ?_ ?_
  · exact FgK.same ⟨0, vnil, [], by simp, by simp, by simp, by simp, by simp, by omega, by simp [ovF], by simp; exact Row.nil _ 1⟩
  rintro s ⟨i, out, P, hn, t2, t3, t5, t6, hi, hL, hrow⟩
  have w := IntWalk.i64_in ((i : Int) + 1) (by omega)
  have hsub := hrow.sub
  have hz3 := hsub.at h2z
  have hv3 := hsub.at h2v
  have hone := hrow.one
  have hLl : P.length ≤ i := by
    have := ovF_len (L.take i) r
    rw [hL]; simp at this; omega
  by_cases hlt : i < L.length
  · have hd := oc_at hlt
    obtain ⟨rest, hd1⟩ := oc_nm_at hlt
    have hsp := take_snoc hlt
    have hbd : i * 8 + 8 ≤ (flat oc L).length := by rw [oc_flat_len]; omega
    have hbd1 : i * 8 + 1 ≤ (flat oc L).length := by omega
    generalize L[i] = o at hd hsp hd1
    have hd2 : List.take 8 (vs8 o.nm :: rest) = oc o := by rw [← hd1]; exact hd
    obtain ⟨q, f, rfl, hq⟩ := hx2.sl (by omega)
    have hq3 := hsub.at hq
    simp (disch := omega) [hn, t2, t3, t5, t6, hz3, hv3, hlt, hq3, hd, hbd]
    refine (c25 o).ac ?_
    simp (disch := omega) [hn, t2, t3, t5, t6, hv3]
    refine (c46 (lg o) r).ac ?_
    cases c2 : rempty (rcap (lg o) r) with
    | true =>
      have hF : ovF (L.take (i + 1)) r = P := by rw [hL, hsp, ovF, List.filter_append]; simp [c2, ovF]
      simp (disch := omega) [hn, t2, t3, t5, t6, w]
      exact FgK.same ⟨⟨i + 1, out, P, by simp [hn], by simp [t2], by simp [t3], by simp [t5], by simp, by omega, hF.symm, hrow⟩, by simp [t6]; omega⟩
    | false =>
      have hF : ovF (L.take (i + 1)) r = P ++ [o.nm] := by rw [hL, hsp, ovF, List.filter_append]; simp [c2, ovF]
      simp (disch := omega) [hn, t2, t3, t5, t6, hz3, hq3, hd1, hbd1, hlt]
      refine newK_of fun u hu => ?_
      have hsu := (Sub.refl s.H).upd hu (o := .cells [vs8 o.nm])
      try simp (disch := omega) [hn, t2, t3, t5, t6]
      refine hrow.app (by exact hsu) (by decide) rfl (by simp) (by omega) fun g H' hg hsg => ?_
      simp (disch := omega) [hn, t2, t3, t5, t6, w]
      refine FgK.of _ hsg ⟨⟨i + 1, .sl g 0 (P.length + 1) 1 false, P ++ [o.nm], by simp [hn], by simp [t2], by simp [t3], by simp, by simp, by omega, hF.symm, ?_⟩, by simp [t6]; omega⟩
      have := Row.mk (cs := P.map vs8 ++ [vs8 o.nm]) (n := P.length + 1) (sz := 1) hg
      simpa using this
  · rw [List.take_of_length_le (by omega)] at hL
    subst hL
    simp (disch := omega) [hn, t2, t3, t5, t6, hz3, lx, hlt, hone]
    obtain ⟨H1, h3, h4⟩ := hrow.out hS
    exact ⟨H1, h3, hk _ _ h4⟩
end Go.Proofs.Ytidcajmbkbamcaa
