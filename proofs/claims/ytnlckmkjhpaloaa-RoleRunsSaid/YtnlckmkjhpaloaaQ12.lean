/-
  The reference's roles: with. Conditions: as each lemma states them.
-/
import Derived.Test.YtnlckmkjhpaloaaQ11
namespace Go.Proofs.Ytnlckmkjhpaloaa
open Go Go.Ab Go.RowKit
set_option linter.unusedSimpArgs false
set_option linter.unusedVariables false
set_option linter.unnecessarySimpa false

attribute [local simp] condK_true condK_false condK_not wpc_skip wpc_ret wpc_exit wpc_seq wpc_reg wpc_regD testA_bool wpc_cond wpc_block thenA_normal thenA_ret thenA_exit blockA_normal blockA_ret blockA_exit blockA_other endA_normal endA_ret ev_tmp' ev_const ev_func ev_global cv_int cv_bool cv_string cv_pointer cv_slice cv_agg put_some put_none wH_s setE_apply setE_env less_eq env_cons env_nil upd_upd upd_apply del_apply startA_eq cells_ag cells_sl one_sl cells_vs one_vs cells_ep one_ep cells_fn one_fn cells_int one_int cells_bool one_bool cells_string one_string cells_pointer one_pointer cells_slice one_slice cells_map one_map cells_agg resK_one resK_nil resK_two rvK_t rvK_c rvsK_nil rvsK_cons iseq_nil iseq_cons gdA_true gdA_false gdA_undef istep_free istep_guard istepV_free istepV_guard dseq_nil dseq_pu dseq_rd dseq_ef chkAll_nil chkAll_cons andK_true pickK_true pickK_false pickK_tb pickK_fb bin2K_pl eqbK_eq eqbK_ne eqpK_eq eqpK_ne un1K_pl convK_int fillK_some fillA_cons fillA_nil cellsK_some needK_true needK_ok seeK_ep seeK_ptr oneK_agg oneK_one nilcK_ptr nilcK_ep fadrK_ptr fadrK_ep fldK_ag iadAK_ptr iadAK_ep iadSK_sl iadSK_vs extK_0 extK_1 extK_2 extK_3 lenK_pl lenK_sl lenK_vs lensK_pl boxK_some minmax1K_int storeK_ptr callvK_fn callvK_pl newsK_nil newsK_vs newsK_sl appK_nil appK_nil0 appK_sl appK_vs bnd1K_int bndK_none bndK_some slsK_vs slsK_nil slsK_sl0 slsK_sl slstrK_pl boolK_some eqsK_ag iop_eqs iop_sls iop_slstr seesK_some seesK_ro mapsK_some MAP_some findK_some findK_none plK_pl nmapK_none nmapK_some iop_mlook iop_mlen iop_mmk iop_mupd iop_mdel iop_mrng itK_none itK_some ptr0K_ptr iop_mnxt iop_ment it1K_some entK_some iop_mov iop_pick iop_bin iop_eqb iop_eqp iop_un iop_conv iop_build iop_load iop_nilc iop_fadr iop_fld iop_iadA iop_iadS iop_ext iop_mkf iop_len iop_lens iop_minmax iop_al iop_box iop_bsl iop_store iop_call iop_callv iop_app BIN_add BIN_sub BIN_mul BIN_and BIN_or BIN_xor BIN_andNot BIN_eql BIN_neq BIN_lss BIN_leq BIN_gtr BIN_geq BIN_quo BIN_rem BIN_shl BIN_shr BIN_sadd BIN_seql BIN_sneq BIN_slss BIN_sleq BIN_sgtr BIN_sgeq UN_neg UN_xor UN_not MM_nil MM_cons partsA argsA ptrA lessL eqL min2I slotN_int slotP_int slotI_int
attribute [local simp] en_len en_tt en_dd en_one en_ag en_t1 en_t2 en_d1 en_d2

def rins (e : En) : List En → List En
  | [] => [e]
  | x :: t => if e.s < x.s then e :: x :: t else x :: rins e t
theorem rins_len (e : En) : ∀ l, (rins e l).length = l.length + 1
  | [] => rfl
  | x :: t => by
    unfold rins
    split
    · rfl
    · simp [rins_len e t]
def rwith (L : List En) (e : En) : List En := rins e (rout L e.s)
theorem rwith_len (L : List En) (e : En) : (rwith L e).length ≤ L.length + 1 := by
  have := rout_len L e.s
  rw [rwith, rins_len]; omega
theorem c33 {H : AH} {K : AV → AH → Prop} {x : AV} (L : List En) (e : En) (hx : RowIn H x (flat en L) L.length 3) (hl : L.length ≤ 1000000)
    (hk : ∀ out H', Row H H' out (flat en (rwith L e)) (rwith L e).length 3 → K (.ag [out]) H') : @AC Try.prog 33 [.ag [x], .ag (en e)] H ⟨K⟩ := by
  refine AC_of (.forget ?_)
  have ox := hx.one
  have hRl := rout_len L e.s
  obtain ⟨es, er, ea⟩ := e
  simp only at hRl
  refine call_c follows cf33_ok (by simp) ?_
  simp [ox]
  refine newK_of fun z hz => ?_
  simp
  refine newK_of fun ze hze => ?_
  obtain ⟨n1, n2, hze'⟩ := upd_none'.1 hze
  simp
  refine newK_of fun v hv => ?_
  obtain ⟨n3, n4, hv1⟩ := upd_none'.1 hv
  obtain ⟨n5, n6, hv2⟩ := upd_none'.1 hv1
  simp [n2, n4, n6]
  have hS : Sub H (upd (upd (upd H z (.cells [x])) ze (.cells (en ⟨es, er, ea⟩))) v (.cells [vnil])) := (((Sub.refl H).upd hz).upd hze').upd hv2
  have h2e : (upd (upd (upd H z (.cells [x])) ze (.cells (en ⟨es, er, ea⟩))) v (.cells [vnil])) ze = some (.cells (en ⟨es, er, ea⟩)) := by simp [upd_apply, n4]
  have h2v : (upd (upd (upd H z (.cells [x])) ze (.cells (en ⟨es, er, ea⟩))) v (.cells [vnil])) v = some (.cells [vnil]) := by simp [upd_apply]
  generalize upd (upd (upd H z (.cells [x])) ze (.cells (en ⟨es, er, ea⟩))) v (.cells [vnil]) = H1 at *
  refine c34 L es (hx.sub hS) hl fun x2 H2 hr2 => ?_
  generalize hR : rout L es = R at *
  have h3e := hr2.sub.at h2e
  have h3v := hr2.sub.at h2v
  have hS3 := hS.trans hr2.sub
  have hx2 := hr2.rin (en_flat_len R)
  have ox2 := hx2.one
  simp [ox2]
  refine newK_of fun yr hyr => ?_
  have nz1 := free_ne hyr ze (by simp [h3e])
  have nz2 := free_ne hyr v (by simp [h3v])
  simp [ox2]
  refine newK_of fun y hy => ?_
  obtain ⟨n7, n8, hy1⟩ := upd_none'.1 hy
  have nz3 := free_ne hy1 ze (by simp [h3e])
  have nz4 := free_ne hy1 v (by simp [h3v])
  simp
  have hyr2 : H yr = none := hS3.none_of hyr
  have hS4 : Sub H (upd H2 yr (.cells [x2])) := hS3.upd hyr2
  have h4e : (upd H2 yr (.cells [x2])) ze = some (.cells (en ⟨es, er, ea⟩)) := by simp [upd_apply, nz1, h3e]
  have h4v : (upd H2 yr (.cells [x2])) v = some (.cells [vnil]) := by simp [upd_apply, nz2, h3v]
  have h4r : (upd H2 yr (.cells [x2])) yr = some (.cells [x2]) := by simp [upd_apply]
  have hx4 := hx2.sub ((Sub.refl H2).upd hyr : Sub H2 (upd H2 yr (.cells [x2])))
  generalize upd H2 yr (.cells [x2]) = H4 at *
  have lx := fun k => hx4.lenK (k := k)
  have up : ∀ o, Sub H4 (upd H4 y o) := fun o => (Sub.refl H4).upd hy
  refine wpc_loop (fun s' => ∃ (i : Nat) (out : AV) (O : List En) (d : Bool), s'.n = 58 ∧ s'.t 3 = pA ze ∧ s'.t 4 = pA v ∧ s'.t 5 = pA yr ∧ s'.t 6 = pA y ∧ s'.t 7 = vb d ∧ s'.t 8 = vi i ∧ i ≤ R.length ∧ O ++ (if d = true then R.drop i else rins ⟨es, er, ea⟩ (R.drop i)) = rins ⟨es, er, ea⟩ R ∧ Row (upd H4 y (.cells [out])) s'.H out (flat en O) O.length 3) (fun s' => R.length - slotN (s'.t 8)) ?_ ?_
  · exact FgK.same ⟨0, vnil, [], false, by simp, by simp, by simp, by simp, by simp, by simp, by simp, by omega, by simp, by simp [flat_nil]; exact Row.nil _ 3⟩
  rintro s' ⟨i, out, O, d, hn, e3, e4, e5, e6, e7, e8, hi, hO, hrow⟩
  have w := IntWalk.i64_in ((i : Int) + 1) (by omega)
  have hsub := hrow.sub
  have hone := hrow.one
  have he3 := hsub.at ((up _).at h4e)
  have hv3 := hsub.at ((up _).at h4v)
  have hr3 := hsub.at ((up _).at h4r)
  have hy3 : s'.H y = some (.cells [out]) := hsub.at (by simp [upd_apply])
  have hOl : O.length ≤ R.length + 1 := by
    have := congrArg List.length hO
    rw [rins_len] at this
    simp at this; omega
  by_cases hlt : i < R.length
  · obtain ⟨rest, hd⟩ := en_at hlt
    obtain ⟨m1, m2, m3, m4⟩ := en_bnd hlt
    have hdr := List.drop_eq_getElem_cons hlt
    generalize R[i] = e at hd hdr
    obtain ⟨fs, fr, fa⟩ := e
    simp only at hd
    obtain ⟨q, f, rfl, hq⟩ := (hx4.sub (up _)).sl (by omega)
    have hq3 := hsub.at hq
    have nqy : ¬ q = y ∧ ¬ y = q := ⟨by rintro rfl; simp [upd_apply] at hq; exact absurd hq (by intro h; have := congrArg List.length h; rw [en_flat_len] at this; simp at this; omega), by rintro rfl; simp [upd_apply] at hq; exact absurd hq (by intro h; have := congrArg List.length h; rw [en_flat_len] at this; simp at this; omega)⟩
    have hq4 : H4 q = some (.cells (flat en R)) := by simpa [upd_apply, nqy.1] using hq
    rw [hdr] at hO
    cases d with
    | true =>
      simp only [if_true] at hO
      simp (disch := omega) [hn, e3, e4, e5, e6, e7, e8, he3, hr3, hy3, hq3, hd, m1, m2, m3, m4, hlt]
      refine newK_of fun u hu => ?_
      have nu := free_ne hu y (by simp [hy3])
      have nq := free_ne hu q (by simp [hq3])
      have nr := free_ne hu yr (by simp [hr3])
      have hsu : Sub s'.H (upd s'.H u (.cells (en ⟨fs, fr, fa⟩))) := (Sub.refl _).upd hu
      simp (disch := omega) [hn, e3, e4, e5, e6, e7, e8, he3, hr3, hy3, hq3, hd, m1, m2, m3, m4, hlt, nu, nq, nr]
      refine hrow.app (by exact hsu) (by decide) rfl (by rw [en_flat_len]) (by omega) fun g H' hg hsg => ?_
      obtain ⟨t1, t2, t3, t4, t5, t6⟩ := sub_turn hg hsg (.cells [.sl g 0 (O.length + 1) 3 false])
      simp (disch := omega) [hn, e3, e4, e5, e6, e7, e8, t1, w]
      refine FgK.of _ t3 ⟨⟨i + 1, .sl g 0 (O.length + 1) 3 false, O ++ [⟨fs, fr, fa⟩], true, by simp [*], by simp [*], by simp [*], by simp [*], by simp [*], by simp [*], by simp [*], by omega, by simpa using hO, ?_⟩, by simp [*]; omega⟩
      rw [flat_snoc]
      simpa using Row.mk (cs := flat en (O ++ [⟨fs, fr, fa⟩])) (n := O.length + 1) (sz := 3) t2
    | false =>
      simp only [Bool.false_eq_true, if_false] at hO
      by_cases b1 : es < fs
      · rw [rins, if_pos b1] at hO
        simp (disch := omega) [hn, e3, e4, e5, e6, e7, e8, he3, hr3, hy3, hq3, hd, m1, m2, m3, m4, hlt, b1]
        refine newK_of fun u hu => ?_
        have nu := free_ne hu y (by simp [hy3])
        have hsu : Sub s'.H (upd s'.H u (.cells (en ⟨es, er, ea⟩))) := (Sub.refl _).upd hu
        try simp (disch := omega) [hn, e3, e4, e5, e6, e7, e8, hy3, nu]
        refine hrow.app (by exact hsu) (by decide) rfl (by rw [en_flat_len]) (by omega) fun g H' hg hsg => ?_
        obtain ⟨t1, t2, t3, t4, t5, t6⟩ := sub_turn hg hsg (.cells [.sl g 0 (O.length + 1) 3 false])
        have hsA := ((Sub.refl (upd H4 y (.cells [out]))).upd hg).trans hsg
        have he' := hsA.at ((up _).at h4e)
        have hr' := hsA.at ((up _).at h4r)
        have hq' := hsA.at hq
        simp (disch := omega) [hn, e3, e4, e5, e6, e7, e8, t1, he', hr', hq', nz3, n7, n8, nqy, hd, m1, m2, m3, m4, hlt]
        rw [flat_snoc] at t3
        have hrow2 := Row.mk (cs := flat en (O ++ [⟨es, er, ea⟩])) (n := O.length + 1) (sz := 3) t2
        have hs2 : Sub H4 (upd H' y (.cells [.sl g 0 (O.length + 1) 3 false])) := ((up _).trans hrow2.sub).trans t3
        have ge := hs2.at h4e
        have gr := hs2.at h4r
        have gq := hs2.at hq4
        have gy : (upd H' y (.cells [.sl g 0 (O.length + 1) 3 false])) y = some (.cells [.sl g 0 (O.length + 1) 3 false]) := by simp [upd_apply]
        generalize upd H' y (.cells [.sl g 0 (O.length + 1) 3 false]) = H5 at t3 hs2 ge gr gq gy ⊢
        generalize AV.sl g 0 (O.length + 1) 3 false = out2 at *
        have hone2 := hrow2.one
        refine newK_of fun u2 hu2 => ?_
        have nu2 := free_ne hu2 y (by simp [gy])
        have nq2 := free_ne hu2 q (by simp [gq])
        have nr2 := free_ne hu2 yr (by simp [gr])
        have hsu2 : Sub H5 (upd H5 u2 (.cells (en ⟨fs, fr, fa⟩))) := (Sub.refl _).upd hu2
        simp (disch := omega) [hn, e3, e4, e5, e6, e7, e8, ge, gr, gy, gq, hd, m1, m2, m3, m4, hlt, nu2, nq2, nr2]
        refine hrow2.app (by exact t3.trans hsu2) (by decide) rfl (by rw [en_flat_len]; simp) (by omega) fun g2 H6 hg2 hsg2 => ?_
        obtain ⟨r1, r2, r3, r4, r5, r6⟩ := sub_turn hg2 hsg2 (.cells [.sl g2 0 (O.length + 1 + 1) 3 false])
        simp (disch := omega) [hn, e3, e4, e5, e6, e7, e8, r1, w]
        refine FgK.of _ r3 ⟨⟨i + 1, .sl g2 0 (O.length + 1 + 1) 3 false, O ++ [⟨es, er, ea⟩] ++ [⟨fs, fr, fa⟩], true, by simp [*], by simp [*], by simp [*], by simp [*], by simp [*], by simp [*], by simp [*], by omega, by simpa using hO, ?_⟩, by simp [*]; omega⟩
        rw [flat_snoc]
        have h9 := Row.mk (cs := flat en (O ++ [⟨es, er, ea⟩] ++ [⟨fs, fr, fa⟩])) (n := O.length + 1 + 1) (sz := 3) r2
        have h8 : (O ++ [En.mk es er ea] ++ [En.mk fs fr fa]).length = O.length + 1 + 1 := by simp
        rw [h8]
        exact h9
      · rw [rins, if_neg b1] at hO
        simp (disch := omega) [hn, e3, e4, e5, e6, e7, e8, he3, hr3, hy3, hq3, hd, m1, m2, m3, m4, hlt, b1]
        refine newK_of fun u hu => ?_
        have nu := free_ne hu y (by simp [hy3])
        have nq := free_ne hu q (by simp [hq3])
        have nr := free_ne hu yr (by simp [hr3])
        have hsu : Sub s'.H (upd s'.H u (.cells (en ⟨fs, fr, fa⟩))) := (Sub.refl _).upd hu
        simp (disch := omega) [hn, e3, e4, e5, e6, e7, e8, he3, hr3, hy3, hq3, hd, m1, m2, m3, m4, hlt, nu, nq, nr]
        refine hrow.app (by exact hsu) (by decide) rfl (by rw [en_flat_len]) (by omega) fun g H' hg hsg => ?_
        obtain ⟨t1, t2, t3, t4, t5, t6⟩ := sub_turn hg hsg (.cells [.sl g 0 (O.length + 1) 3 false])
        simp (disch := omega) [hn, e3, e4, e5, e6, e7, e8, t1, w]
        refine FgK.of _ t3 ⟨⟨i + 1, .sl g 0 (O.length + 1) 3 false, O ++ [⟨fs, fr, fa⟩], false, by simp [*], by simp [*], by simp [*], by simp [*], by simp [*], by simp [*], by simp [*], by omega, by simpa using hO, ?_⟩, by simp [*]; omega⟩
        rw [flat_snoc]
        simpa using Row.mk (cs := flat en (O ++ [⟨fs, fr, fa⟩])) (n := O.length + 1) (sz := 3) t2
  · rw [List.drop_of_length_le (by omega)] at hO
    have hvH : H v = none := hv2
    have hk2 := hk
    rw [rwith] at hk2
    simp only [hR] at hk2
    rw [← hO] at hk2
    cases d with
    | true =>
      simp only [if_true, List.append_nil] at hk2
      simp (disch := omega) [hn, e3, e4, e5, e6, e7, e8, hr3, hy3, hv3, lx, hlt, hone]
      obtain ⟨H1, h3, h4⟩ := hrow.out2 (H := H) (hS4.trans (up _)) (y := v) hvH ((up _).at h4v) (.cells [out])
      exact ⟨H1, h3, hk2 _ _ h4⟩
    | false =>
      simp only [Bool.false_eq_true, if_false, rins] at hk2
      simp (disch := omega) [hn, e3, e4, e5, e6, e7, e8, he3, hr3, hy3, hv3, lx, hlt, hone]
      refine newK_of fun u hu => ?_
      have nu := free_ne hu y (by simp [hy3])
      have hsu : Sub s'.H (upd s'.H u (.cells (en ⟨es, er, ea⟩))) := (Sub.refl _).upd hu
      try simp (disch := omega) [hn, e3, e4, e5, e6, e7, e8, hy3, nu]
      refine hrow.app (by exact hsu) (by decide) rfl (by rw [en_flat_len]) (by omega) fun g H' hg hsg => ?_
      obtain ⟨t1, t2, t3, t4, t5, t6⟩ := sub_turn hg hsg (.cells [.sl g 0 (O.length + 1) 3 false])
      have hsA := ((Sub.refl (upd H4 y (.cells [out]))).upd hg).trans hsg
      have hv' := hsA.at ((up _).at h4v)
      simp (disch := omega) [hn, e3, e4, e5, e6, e7, e8, t1, hv', nz4]
      rw [flat_snoc] at t3
      have hrow2 := Row.mk (cs := flat en (O ++ [⟨es, er, ea⟩])) (n := O.length + 1) (sz := 3) t2
      have hs2 : Sub H4 (upd H' y (.cells [.sl g 0 (O.length + 1) 3 false])) := ((up _).trans hrow2.sub).trans t3
      have gv := hs2.at h4v
      obtain ⟨H1, h3, h4⟩ := hrow2.out2 (H := H) (hS4.trans (up _)) (y := v) hvH ((up _).at h4v) (.cells [.sl g 0 (O.length + 1) 3 false])
      exact ⟨H1, h3.trans (Sub.cong t3), hk2 _ _ (by simpa using h4)⟩
end Go.Proofs.Ytnlckmkjhpaloaa
