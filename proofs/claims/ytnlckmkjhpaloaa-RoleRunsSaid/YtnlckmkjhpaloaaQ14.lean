/-
  The reference's roles: Release, Destroy, and the law's calls. Conditions: as each lemma states them.
-/
import Derived.Test.YtnlckmkjhpaloaaQ13
namespace Go.Proofs.Ytnlckmkjhpaloaa
open Go Go.Ab Go.RowKit
set_option linter.unusedSimpArgs false
set_option linter.unusedVariables false
set_option linter.unnecessarySimpa false

attribute [local simp] condK_true condK_false condK_not wpc_skip wpc_ret wpc_exit wpc_seq wpc_reg wpc_regD testA_bool wpc_cond wpc_block thenA_normal thenA_ret thenA_exit blockA_normal blockA_ret blockA_exit blockA_other endA_normal endA_ret ev_tmp' ev_const ev_func ev_global cv_int cv_bool cv_string cv_pointer cv_slice cv_agg put_some put_none wH_s setE_apply setE_env less_eq env_cons env_nil upd_upd upd_apply del_apply startA_eq cells_ag cells_sl one_sl cells_vs one_vs cells_ep one_ep cells_fn one_fn cells_int one_int cells_bool one_bool cells_string one_string cells_pointer one_pointer cells_slice one_slice cells_map one_map cells_agg resK_one resK_nil resK_two rvK_t rvK_c rvsK_nil rvsK_cons iseq_nil iseq_cons gdA_true gdA_false gdA_undef istep_free istep_guard istepV_free istepV_guard dseq_nil dseq_pu dseq_rd dseq_ef chkAll_nil chkAll_cons andK_true pickK_true pickK_false pickK_tb pickK_fb bin2K_pl eqbK_eq eqbK_ne eqpK_eq eqpK_ne un1K_pl convK_int fillK_some fillA_cons fillA_nil cellsK_some needK_true needK_ok seeK_ep seeK_ptr oneK_agg oneK_one nilcK_ptr nilcK_ep fadrK_ptr fadrK_ep fldK_ag iadAK_ptr iadAK_ep iadSK_sl iadSK_vs extK_0 extK_1 extK_2 extK_3 lenK_pl lenK_sl lenK_vs lensK_pl boxK_some minmax1K_int storeK_ptr callvK_fn callvK_pl newsK_nil newsK_vs newsK_sl appK_nil appK_nil0 appK_sl appK_vs bnd1K_int bndK_none bndK_some slsK_vs slsK_nil slsK_sl0 slsK_sl slstrK_pl boolK_some eqsK_ag iop_eqs iop_sls iop_slstr seesK_some seesK_ro mapsK_some MAP_some findK_some findK_none plK_pl nmapK_none nmapK_some iop_mlook iop_mlen iop_mmk iop_mupd iop_mdel iop_mrng itK_none itK_some ptr0K_ptr iop_mnxt iop_ment it1K_some entK_some iop_mov iop_pick iop_bin iop_eqb iop_eqp iop_un iop_conv iop_build iop_load iop_nilc iop_fadr iop_fld iop_iadA iop_iadS iop_ext iop_mkf iop_len iop_lens iop_minmax iop_al iop_box iop_bsl iop_store iop_call iop_callv iop_app BIN_add BIN_sub BIN_mul BIN_and BIN_or BIN_xor BIN_andNot BIN_eql BIN_neq BIN_lss BIN_leq BIN_gtr BIN_geq BIN_quo BIN_rem BIN_shl BIN_shr BIN_sadd BIN_seql BIN_sneq BIN_slss BIN_sleq BIN_sgtr BIN_sgeq UN_neg UN_xor UN_not MM_nil MM_cons partsA argsA ptrA lessL eqL min2I slotN_int slotP_int slotI_int
attribute [local simp] en_len en_tt en_dd en_one en_ag en_t1 en_t2 en_d1 en_d2 opc_len opc_tt opc_dd opc_one opc_ag opc_t1 opc_t2 opc_d1 opc_d2

theorem rowIn_box {H : AH} {v : Nat} {c : AV} {out : AV} {L : List En} {X : AO} (hv : H v = some (.cells [c])) (h : RowIn H out (flat en L) L.length 3) : RowIn (upd H v X) out (flat en L) L.length 3 := by
  rcases h with ⟨hl, ⟨h0, rfl⟩ | ⟨r, f, rfl, hr⟩⟩
  · exact ⟨hl, .inl ⟨h0, rfl⟩⟩
  · refine ⟨hl, .inr ⟨r, f, rfl, ?_⟩⟩
    have : r ≠ v := by
      rintro rfl
      rw [hv] at hr
      injection hr with e; injection e with e
      have := congrArg List.length e
      rw [en_flat_len] at this
      simp at this; omega
    simp only [upd_apply, if_neg this]; exact hr
theorem c25 {H : AH} {K : AV → AH → Prop} {x : AV} (L : List En) (s : Int) (hx : RowIn H x (flat en L) L.length 3) (hl : L.length ≤ 1000000)
    (hk : Back H (wrelL L s) (wrelE L s) K) : @AC Try.prog 25 [.ag [x], vi s] H ⟨K⟩ := by
  have ox := hx.one
  refine AC_of (.forget ?_)
  refine call_c follows cf25_ok (by simp) ?_
  simp [ox]
  refine newK_of fun z hz => ?_
  simp
  refine newK_of fun v hv => ?_
  obtain ⟨n1, n2, hv'⟩ := upd_none'.1 hv
  simp [n2]
  have hS : Sub H (upd (upd H z (.cells [x])) v (.cells [vnil])) := ((Sub.refl H).upd hz).upd hv'
  have h2z : (upd (upd H z (.cells [x])) v (.cells [vnil])) z = some (.cells [x]) := by simp [upd_apply, n2]
  have h2v : (upd (upd H z (.cells [x])) v (.cells [vnil])) v = some (.cells [vnil]) := by simp [upd_apply]
  generalize upd (upd H z (.cells [x])) v (.cells [vnil]) = H2 at *
  have hx2 := hx.sub hS
  try simp [h2z, ox]
  refine c28 L s hx2 hl ?_
  simp
  unfold wrelE wrelL at hk
  generalize rfind L s = e at *
  obtain ⟨es, er, ea⟩ := e
  refine newK_of fun y hy => ?_
  have ny1 := free_ne hy v (by simp [h2v])
  have ny2 := free_ne hy z (by simp [h2z])
  simp [ny1, ny2]
  have hS3 : Sub H2 (upd H2 y (.cells (en ⟨es, er, ea⟩))) := (Sub.refl H2).upd hy
  have h3z := hS3.at h2z
  have h3v := hS3.at h2v
  have h3y : (upd H2 y (.cells (en ⟨es, er, ea⟩))) y = some (.cells (en ⟨es, er, ea⟩)) := by simp [upd_apply]
  generalize upd H2 y (.cells (en ⟨es, er, ea⟩)) = H3 at *
  cases ea with
  | false =>
    simp only [Bool.false_eq_true, if_false] at hk
    simp [h3y, h3z, h3v, ox]
    exact ⟨H, (hS.trans hS3).upd hv', hk x H (Sub.refl H) hx⟩
  | true =>
    simp only [if_true] at hk
    simp [h3y, h3z, h3v, ox]
    refine c33 L _ (hx2.sub hS3) hl fun out H' hrow => ?_
    obtain ⟨H1, h1, h2⟩ := hrow.out2 (H := H) (hS.trans hS3) hv' h3v (.cells [out])
    have h3 := hrow.sub.at h3v
    have h4 := hrow.one
    simp [h3, h4]
    exact ⟨H1, h1, hk out H1 h2.sub (h2.rin (en_flat_len _))⟩
theorem c26 {H : AH} {K : AV → AH → Prop} {x : AV} (L : List En) (s : Int) (hx : RowIn H x (flat en L) L.length 3) (hl : L.length ≤ 1000000)
    (hk : Back H (wdstL L s) (wdstE L s) K) : @AC Try.prog 26 [.ag [x], vi s] H ⟨K⟩ := by
  have ox := hx.one
  refine AC_of (.forget ?_)
  refine call_c follows cf26_ok (by simp) ?_
  simp [ox]
  refine newK_of fun z hz => ?_
  simp
  refine newK_of fun v hv => ?_
  obtain ⟨n1, n2, hv'⟩ := upd_none'.1 hv
  simp [n2]
  have hS : Sub H (upd (upd H z (.cells [x])) v (.cells [vnil])) := ((Sub.refl H).upd hz).upd hv'
  have h2z : (upd (upd H z (.cells [x])) v (.cells [vnil])) z = some (.cells [x]) := by simp [upd_apply, n2]
  have h2v : (upd (upd H z (.cells [x])) v (.cells [vnil])) v = some (.cells [vnil]) := by simp [upd_apply]
  generalize upd (upd H z (.cells [x])) v (.cells [vnil]) = H2 at *
  have hx2 := hx.sub hS
  unfold wdstL wdstE at hk
  by_cases c1 : s < 1
  · simp only [if_pos c1] at hk
    simp [c1, h2z, h2v, ox]
    exact ⟨H, hS.upd hv', hk x H (Sub.refl H) hx⟩
  simp only [if_neg c1] at hk
  simp [c1, h2z, h2v, ox]
  refine c28 L s hx2 hl ?_
  simp
  generalize rfind L s = e at *
  obtain ⟨es, er, ea⟩ := e
  cases ea with
  | true =>
    simp only [if_true] at hk
    simp [h2z, h2v, ox]
    exact ⟨H, hS.upd hv', hk x H (Sub.refl H) hx⟩
  | false =>
    simp only [Bool.false_eq_true, if_false, if_true] at hk
    simp [h2z, h2v, ox]
    refine c34 L s hx2 hl fun out H' hrow => ?_
    obtain ⟨H1, h1, h2⟩ := hrow.out2 (H := H) hS hv' h2v (.cells [out])
    have h3 := hrow.sub.at h2v
    have h4 := hrow.one
    simp [h3, h4]
    exact ⟨H1, h1, hk out H1 h2.sub (h2.rin (en_flat_len _))⟩
def wE (L : List En) (x : Op) : Int := if x.k = 0 then wasgE L x.s x.r else if x.k = 1 then wrelE L x.s else wdstE L x.s
def wL (L : List En) (x : Op) : List En := if x.k = 0 then wasgL L x.s x.r else if x.k = 1 then wrelL L x.s else wdstL L x.s
theorem c12 {H : AH} {K : AV → AH → Prop} {x : AV} (L : List En) (o : Op) (hx : RowIn H x (flat en L) L.length 3) (hl : L.length ≤ 1000000)
    (hk : Back H (wL L o) (wE L o) K) : @AC Try.prog 12 [.ag [x], .ag (opc o)] H ⟨K⟩ := by
  have ox := hx.one
  obtain ⟨ok, os, or⟩ := o
  refine AC_of (.forget ?_)
  refine call_c follows cf12_ok (by simp) ?_
  simp [ox]
  refine newK_of fun z hz => ?_
  simp
  refine newK_of fun zo hzo => ?_
  obtain ⟨n1, n2, hzo'⟩ := upd_none'.1 hzo
  simp [n2]
  refine newK_of fun v hv => ?_
  obtain ⟨n3, n4, hv1⟩ := upd_none'.1 hv
  obtain ⟨n5, n6, hv2⟩ := upd_none'.1 hv1
  simp [n2, n4, n6]
  have hS : Sub H (upd (upd (upd H z (.cells [x])) zo (.cells (opc ⟨ok, os, or⟩))) v (.cells [vnil])) := (((Sub.refl H).upd hz).upd hzo').upd hv2
  have h2z : (upd (upd (upd H z (.cells [x])) zo (.cells (opc ⟨ok, os, or⟩))) v (.cells [vnil])) z = some (.cells [x]) := by simp [upd_apply, n2, n6]
  have h2e : (upd (upd (upd H z (.cells [x])) zo (.cells (opc ⟨ok, os, or⟩))) v (.cells [vnil])) zo = some (.cells (opc ⟨ok, os, or⟩)) := by simp [upd_apply, n4]
  have h2v : (upd (upd (upd H z (.cells [x])) zo (.cells (opc ⟨ok, os, or⟩))) v (.cells [vnil])) v = some (.cells [vnil]) := by simp [upd_apply]
  generalize upd (upd (upd H z (.cells [x])) zo (.cells (opc ⟨ok, os, or⟩))) v (.cells [vnil]) = H2 at *
  have hx2 := hx.sub hS
  unfold wL wE at hk
  by_cases c1 : ok = 0
  · simp only [if_pos c1] at hk
    simp [c1, h2e, h2z, h2v, ox]
    refine c24 L os or hx2 hl fun out H' hs hr => ?_
    have h3 := hs.at h2v
    have h4 := hr.one
    simp [h3, h4]
    exact ⟨_, Sub.refl _, hk out _ ((hS.trans hs).upd hv2) (rowIn_box h3 hr)⟩
  simp only [if_neg c1] at hk
  by_cases c2 : ok = 1
  · simp only [if_pos c2] at hk
    simp [c2, h2e, h2z, h2v, ox]
    refine c25 L os hx2 hl fun out H' hs hr => ?_
    have h3 := hs.at h2v
    have h4 := hr.one
    simp [h3, h4]
    exact ⟨_, Sub.refl _, hk out _ ((hS.trans hs).upd hv2) (rowIn_box h3 hr)⟩
  · simp only [if_neg c2] at hk
    simp [c1, c2, h2e, h2z, h2v, ox]
    refine c26 L os hx2 hl fun out H' hs hr => ?_
    have h3 := hs.at h2v
    have h4 := hr.one
    simp [h3, h4]
    exact ⟨_, Sub.refl _, hk out _ ((hS.trans hs).upd hv2) (rowIn_box h3 hr)⟩
def wofF (n : Int) (e : En) : Bool := e.a && e.r == n
def wof (L : List En) (n : Int) : List Int := (L.filter (wofF n)).map (·.s)
theorem wof_len (L : List En) (n : Int) : (wof L n).length ≤ L.length := by rw [wof, List.length_map]; exact List.length_filter_le ..
theorem c20 {H : AH} {K : AV → AH → Prop} {x : AV} (L : List En) (r : Int) (hx : RowIn H x (flat en L) L.length 3) (hl : L.length ≤ 1000000)
    (hk : ∀ out H', Row H H' out ((wof L r).map vi) (wof L r).length 1 → K out H') : @AC Try.prog 20 [.ag [x], vi r] H ⟨K⟩ := by
  have ox := hx.one
  refine AC_of (.forget ?_)
  refine call_c follows cf20_ok (by simp) ?_
  simp [ox]
  refine newK_of fun z hz => ?_
  have hS := (Sub.refl H).upd hz (o := .cells [x])
  have h2z : upd H z (.cells [x]) z = some (.cells [x]) := by simp [upd_apply]
  simp
  generalize upd H z (.cells [x]) = H2 at *
  have hx2 := hx.sub hS
  have lx := fun k => hx.lenK (k := k)
  refine wpc_loop (fun s' => ∃ (i : Nat) (out : AV) (O : List Int), s'.n = 40 ∧ s'.t 1 = vi r ∧ s'.t 2 = pA z ∧ s'.t 5 = out ∧ s'.t 6 = vi i ∧ i ≤ L.length ∧ O = wof (L.take i) r ∧ Row H2 s'.H out (O.map vi) O.length 1) (fun s' => L.length - slotN (s'.t 6)) ?_ ?_
  · exact FgK.same ⟨0, vnil, [], by simp, by simp, by simp, by simp, by simp, by omega, by simp [wof], by simp; exact Row.nil _ 1⟩
  rintro s' ⟨i, out, O, hn, e1, e2, e5, e6, hi, hO, hrow⟩
  have w := IntWalk.i64_in ((i : Int) + 1) (by omega)
  have hsub := hrow.sub
  have hone := hrow.one
  have hz3 := hsub.at h2z
  by_cases hlt : i < L.length
  · obtain ⟨rest, hd⟩ := en_at hlt
    obtain ⟨m1, m2, m3, m4⟩ := en_bnd hlt
    have hsp := take_snoc hlt
    generalize L[i] = e at hd hsp
    obtain ⟨es, er, ea⟩ := e
    simp only at hd
    obtain ⟨q, f, rfl, hq⟩ := hx2.sl (by omega)
    have hq3 := hsub.at hq
    have hOl : O.length ≤ i := by
      have := wof_len (L.take i) r
      rw [hO]; simp at this; omega
    have no : wofF r ⟨es, er, ea⟩ = false → wof (L.take (i + 1)) r = O := fun e => by rw [hO, hsp, wof, List.filter_append]; simp [e, wof]
    have yes : wofF r ⟨es, er, ea⟩ = true → wof (L.take (i + 1)) r = O ++ [es] := fun e => by rw [hO, hsp, wof, List.filter_append]; simp [e, wof]
    clear hsp
    have hd1 : (flat en L).drop (i * 3 + 1) = vi er :: vb ea :: rest := by rw [← List.drop_drop, hd]; rfl
    have hd2 : (flat en L).drop (i * 3 + 2) = vb ea :: rest := by rw [← List.drop_drop, hd]; rfl
    cases ea with
    | false =>
      have no := (no rfl).symm
      clear yes
      simp (disch := omega) [hn, e1, e2, e5, e6, hz3, hq3, hd, hd1, hd2, m1, m2, m3, m4, hlt, w]
      exact FgK.same ⟨⟨i + 1, out, O, by simp [hn], by simp [e1], by simp [e2], by simp [e5], by simp, by omega, no, by simpa using hrow⟩, by simp [*]; omega⟩
    | true =>
      by_cases b1 : er = r
      · have yes := (yes (by simp [wofF, b1])).symm
        clear no
        simp (disch := omega) [hn, e1, e2, e5, e6, hz3, hq3, hd, hd1, hd2, m1, m2, m3, m4, hlt, b1]
        refine newK_of fun u hu => ?_
        have nq := free_ne hu q (by simp [hq3])
        have nz := free_ne hu z (by simp [hz3])
        have hsu : Sub s'.H (upd s'.H u (.cells [vi es])) := (Sub.refl _).upd hu
        try simp (disch := omega) [hn, e1, e2, e5, e6, hz3, hq3, nq, nz]
        refine hrow.app (by exact hsu) (by decide) rfl (by simp) (by omega) fun g H' hg hsg => ?_
        simp (disch := omega) [hn, e1, e2, e5, e6, w]
        refine FgK.of _ hsg ⟨⟨i + 1, .sl g 0 (O.length + 1) 1 false, O ++ [es], by simp [hn], by simp [e1], by simp [e2], by simp, by simp, by omega, yes, ?_⟩, by simp [*]; omega⟩
        have h9 := Row.mk (cs := O.map vi ++ [vi es]) (n := O.length + 1) (sz := 1) hg
        simpa using h9
      · have no := (no (by simp [wofF, b1])).symm
        clear yes
        simp (disch := omega) [hn, e1, e2, e5, e6, hz3, hq3, hd, hd1, hd2, m1, m2, m3, m4, hlt, w, b1]
        exact FgK.same ⟨⟨i + 1, out, O, by simp [hn], by simp [e1], by simp [e2], by simp [e5], by simp, by omega, no, by simpa using hrow⟩, by simp [*]; omega⟩
  · rw [List.take_of_length_le (by omega)] at hO
    subst hO
    simp (disch := omega) [hn, e1, e2, e5, e6, hz3, lx, hlt, hone]
    obtain ⟨H1, h3, h4⟩ := hrow.out hS
    exact ⟨H1, h3, hk _ _ h4⟩
end Go.Proofs.Ytnlckmkjhpaloaa
