/-
  Several texts in one: C24; C25. Conditions: as each lemma states them.
-/
import Derived.Test.YtkjkolacnpknoaaMD
import Derived.Test.YtkjkolacnpknoaaXRow
import Derived.Test.YtkjkolacnpknoaaRows
import Derived.WalkKit
import Derived.ProofKit
/-! CodecCanonical, walked. Conditions: as each lemma states them. -/
section
namespace Go.Proofs.Ytkjkolacnpknoaa
open Go Go.Ab Go.RowKit
set_option linter.unusedSimpArgs false
set_option linter.unusedVariables false
set_option linter.unnecessarySimpa false

attribute [local simp] condK_true condK_false condK_not wpc_skip wpc_ret wpc_exit wpc_seq wpc_reg wpc_regD testA_bool wpc_cond wpc_block thenA_normal thenA_ret thenA_exit blockA_normal blockA_ret blockA_exit blockA_other endA_normal endA_ret ev_tmp' ev_const ev_func ev_global cv_int cv_bool cv_string cv_pointer cv_slice cv_agg cv_map put_some put_none wH_s setE_apply setE_env less_eq env_cons env_nil upd_upd upd_apply del_apply startA_eq cells_ag cells_sl one_sl cells_vs one_vs cells_ep one_ep cells_fn one_fn cells_int one_int cells_bool one_bool cells_string one_string cells_pointer one_pointer cells_slice one_slice cells_map one_map cells_agg resK_one resK_nil resK_two rvK_t rvK_c rvsK_nil rvsK_cons iseq_nil iseq_cons gdA_true gdA_false gdA_undef istep_free istep_guard istepV_free istepV_guard dseq_nil dseq_pu dseq_rd dseq_ef wpc_regT dtree_nil dtree_pu dtree_rd dtree_ef dtree_br chkAll_nil chkAll_cons andK_true pickK_true pickK_false pickK_tb pickK_fb bin2K_pl eqbK_eq eqbK_ne eqpK_eq eqpK_ne eqmK_eq eqmK_ne eqzK_eq eqzK_ne eqzK_sl eqzK_vs un1K_pl convK_int fillK_some fillA_cons fillA_nil cellsK_some needK_true needK_ok seeK_ep seeK_ptr oneK_agg oneK_one nilcK_ptr nilcK_ep fadrK_ptr fadrK_ep fldK_ag iadAK_ptr iadAK_ep iadSK_sl iadSK_vs extK_0 extK_1 extK_2 extK_3 lenK_pl lenK_sl lenK_vs lensK_pl boxK_some minmax1K_int storeK_ptr callvK_fn callvK_pl newsK_nil newsK_vs newsK_sl appK_nil appK_nil0 appK_sl appK_vs bnd1K_int bndK_none bndK_some slsK_vs slsK_nil slsK_sl0 slsK_sl slstrK_pl boolK_some eqsK_ag iop_eqs iop_sls iop_slstr seesK_some seesK_ro mapsK_some MAP_some findK_some findK_none plK_pl nmapK_none nmapK_some iop_mlook iop_mlen iop_mmk iop_mupd iop_mdel iop_mrng itK_none itK_some ptr0K_ptr iop_mnxt iop_ment it1K_some entK_some iop_mov iop_pick iop_bin iop_eqb iop_eqp iop_eqm iop_eqz iop_un capK_pl capK_sl capK_vs iop_cap iop_b2s b2sK_nil b2sK_sl b2sK_vs strK_some iop_idxv idxvK_ag atK_some apzK_nil iop_apz mksK_int iop_mks clrK_sl clrK_vs clrK_nil iop_clr iop_conv iop_build iop_load iop_nilc iop_fadr iop_fld iop_iadA iop_iadS iop_ext iop_mkf iop_len iop_lens iop_minmax iop_al iop_box iop_bsl iop_store iop_call iop_callv iop_app BIN_add BIN_sub BIN_mul BIN_and BIN_or BIN_xor BIN_andNot BIN_eql BIN_neq BIN_lss BIN_leq BIN_gtr BIN_geq BIN_quo BIN_rem BIN_shl BIN_shr BIN_sadd BIN_seql BIN_sneq BIN_slss BIN_sleq BIN_sgtr BIN_sgeq UN_neg UN_xor UN_not MM_nil MM_cons partsA argsA ptrA lessL eqL min2I slotN_int slotP_int slotI_int
attribute [local simp] rc_len rc_t4 rc_t1 rc_t2 rc_t3 rc_d1 rc_d2 rc_d3 rc_d4 rc_ag rc_one rc_eq

theorem dec_err {o n : Bf} {b : List Int} {e : Int} (h : decM o b = (n, e)) (he : e ≠ 0) : n = zB := by
  unfold decM at h
  split at h
  · split at h
    · injection h with h1 h2; exact h1.symm
    · unfold decR at h
      repeat' split at h
      all_goals (injection h with h1 h2; first | exact h1.symm | exact absurd h2.symm he)
  · injection h with h1 h2; exact h1.symm
theorem at_c {H : AH} {a : AV} {l : List Int} (h : Rw H a (l.map v8) l.length 1) {i c : Nat} {j : Int} (hj : j = (i : Int) + (c : Int)) (hi : i + c < l.length) : ∃ p, (∀ k : AV → Prop, @iadSK 1 a (vi j) ⟨k⟩ = k p) ∧ ∀ H', Sub H H' → ∀ k : List AV → Prop, @SEE H' p 1 ⟨k⟩ = k [v8 (l.getD (i + c) 0)] := by
  obtain ⟨p, h1, h2⟩ := Rw.at1 h hi
  have e : j = ((i + c : Nat) : Int) := by rw [hj]; omega
  refine ⟨p, by rw [e]; exact h1, fun H' hs k => ?_⟩
  rw [h2 H' hs, List.getD_eq_getElem?_getD, List.getElem?_eq_getElem hi]
  rfl
theorem pair_w {a b : Int} (ha : U8 a) (hb : U8 b) : IntKind.i64.wrap a = a ∧ IntKind.i64.wrap b = b ∧ IntKind.i64.wrap (256 * b) = 256 * b ∧ IntKind.i64.wrap (a + 256 * b) = v2 a b := by
  unfold U8 at *
  exact ⟨IntWalk.i64_in _ (by omega), IntWalk.i64_in _ (by omega), IntWalk.i64_in _ (by omega), IntWalk.i64_in (a + 256 * b) (by omega)⟩
set_option maxHeartbeats 4000000 in
theorem c5 {H : AH} {K : AV → AH → Prop} {ap ab : AV} {o : Bf} {b : List Int} (ho : Rw H ap (flat pxc o.px) o.px.length 4) (hb : Rw H ab (b.map v8) b.length 1) (bo : BB o) (h8 : ∀ x ∈ b, U8 x) (hk : K (vb true) H) :
    @AC Try.prog 5 [.ag (bfc o.w o.h ap), ab] H ⟨K⟩ := by
  have oap := Rw.one ho
  have lb := fun k => Rw.lenK hb (k := k)
  have cab := Rw.cells hb
  have bl : ∀ (w h : Int) (a : AV), (bfc w h a).length = 3 := fun _ _ _ => rfl
  have t3 : ∀ (w h : Int) (a : AV), (bfc w h a).take 3 = bfc w h a := fun _ _ _ => rfl
  have d0 : ∀ (w h : Int) (a : AV), (bfc w h a).take 1 = [vi w] := fun _ _ _ => rfl
  have d2 : ∀ (w h : Int) (a : AV), ((bfc w h a).drop 2).take 1 = [a] := fun _ _ _ => rfl
  refine AC_of (.forget ?_)
  refine call_c follows cf5_ok (by simp) ?_
  simp [bl]
  refine newK_of fun z hz => ?_
  have hsz : Sub H (upd H z (.cells (bfc o.w o.h ap))) := (Sub.refl H).upd hz
  have kz : upd H z (.cells (bfc o.w o.h ap)) z = some (.cells (bfc o.w o.h ap)) := by simp [upd_apply]
  generalize upd H z (.cells (bfc o.w o.h ap)) = H1 at *
  simp [kz, bl, t3]
  refine c14 (ho.sub hsz) ?_
  by_cases h1 : (400 : Int) < o.px.length
  · have h1n : 400 < o.px.length := by omega
    simp [h1, h1n]
    refine c8 ?_
    simp
    exact ⟨H, hsz, hk⟩
  have h1n : ¬ 400 < o.px.length := by omega
  by_cases h2 : (4000 : Int) < b.length
  · have h2n : 4000 < b.length := by omega
    simp [h1, h1n, lb, h2, h2n]
    refine c8 ?_
    simp
    exact ⟨H, hsz, hk⟩
  have h2n : ¬ 4000 < b.length := by omega
  simp [h1, h1n, lb, h2, h2n, kz, bl, t3, cab]
  refine c15 (ho.sub hsz) (hb.sub hsz) bo h8 (by omega) (by omega) fun y H2 hy => ?_
  obtain ⟨⟨n, e⟩, hD⟩ : ∃ q, decM o b = q := ⟨_, rfl⟩
  rw [hD] at hy ⊢
  simp only at hy ⊢
  have hyr : Rw H2 y (flat pxc n.px) n.px.length 4 := (hy.rin (flat_len pxc_l _)).rd
  have oy := Rw.one hyr
  have ly := fun k => Rw.lenK hyr (k := k)
  have hs2 := hsz.trans hy.sub
  have bo' : (∀ x ∈ bfc n.w n.h y, x.one = true) = True := eq_true (by simp [bfc, oy])
  simp
  refine newK_of fun z5 hz5 => ?_
  simp [bl, bo', t3]
  have k5 : upd H2 z5 (.cells (bfc n.w n.h y)) z5 = some (.cells (bfc n.w n.h y)) := by simp [upd_apply]
  have hs5 : Sub H2 (upd H2 z5 (.cells (bfc n.w n.h y))) := (Sub.refl H2).upd hz5
  have kz := (hy.sub.trans hs5) _ _ kz
  have hyr := hyr.sub hs5
  have hs3 := hs2.trans hs5
  by_cases he : e = 0
  case neg =>
    have hn := dec_err hD he
    subst hn
    have ly0 : ∀ k : AV → Prop, @lenK y ⟨k⟩ = k (vi 0) := ly
    have dz0 : (bfc zB.w zB.h y).take 1 = [vi 0] := rfl
    have dz2 : ((bfc zB.w zB.h y).drop 2).take 1 = [y] := rfl
    simp [he, bl, dz0, dz2, ly0]
    refine c8 ?_
    simp
    exact ⟨H, hs3, hk⟩
  subst he
  obtain ⟨hoo, L, rest, hR, ⟨r2, r3, r4⟩, hbL, hnn, bn, hwh, hcov⟩ := dec_inv h8 bo hD
  obtain ⟨_, _, _, _, x, y', t, hbt, hLp, hLl, hL8⟩ := rects_inv h8 hR
  have hen := enc_again hoo hnn hwh r2 r3 r4 hcov
  rw [← hbL] at hen
  obtain ⟨N, hN⟩ : ∃ N, (v2 x y').toNat = N := ⟨_, rfl⟩
  rw [hN] at hLp hLl hL8
  have hx8 := h8 x (by rw [hbt]; simp)
  have hy8 := h8 y' (by rw [hbt]; simp)
  have hvr : 0 ≤ v2 x y' ∧ v2 x y' < 65536 := by unfold v2 U8 at *; omega
  have hNv : v2 x y' = N := by omega
  have hblen : b.length = t.length + 2 := by rw [hbt]; simp
  obtain ⟨p0, hp0, hp0'⟩ := at_c (c := 0) (i := 0) (j := 0) hb (by simp) (by omega)
  obtain ⟨p1, hp1, hp1'⟩ := at_c (c := 1) (i := 0) (j := 1) hb (by simp) (by omega)
  have g0 : b.getD (0 + 0) 0 = x := by rw [hbt]; rfl
  have g1 : b.getD (0 + 1) 0 = y' := by rw [hbt]; rfl
  rw [g0] at hp0'
  rw [g1] at hp1'
  obtain ⟨w0, w1, w2, w3⟩ := pair_w hx8 hy8
  rw [hNv] at w3
  have w4 := IntWalk.i64_in (8 * (N : Int)) (by omega)
  have w5 := IntWalk.i64_in (2 + 8 * (N : Int)) (by omega)
  have c1 : ¬ (b.length : Int) < 2 := by omega
  have c1n : ¬ b.length < 2 := by omega
  have c2 : ¬ (b.length : Int) < 2 + 8 * (N : Int) := by omega
  simp [lb, c1, c1n, hp0, hp1, hp0' _ hs3, hp1' _ hs3, w0, w1, w2, w3, w4, w5, c2]
  generalize upd H2 z5 (.cells (bfc n.w n.h y)) = H3 at *
  have hpget := fun i hi => parse_get N t i hL8 hi
  rw [← hLp] at hpget
  refine wpc_loop (fun s => ∃ (j I : Nat) (ow : AV), I = 2 + 8 * j ∧ s.n = 161 ∧ s.t 1 = ab ∧ s.t 2 = pA z ∧ s.t 5 = pA z5 ∧ s.t 7 = ow ∧ s.t 8 = vi (I : Int) ∧ j ≤ N ∧ Row H3 s.H ow (flat rc (L.take j)) j 4) (fun s => 2 + 8 * N - slotN (s.t 8)) ?_ ?_
  · exact FgK.same ⟨0, 2, vnil, rfl, by simp, by simp, by simp, by simp, by simp, by simp, by omega, by simpa [flat] using Row.nil H3 4⟩
  rintro s ⟨j, I, ow, hI, hg, e1, e2, e5, e7, e8, hj, hrow⟩
  generalize hHeq : s.H = Hs at *
  have hsH := hs3.trans hrow.sub
  by_cases hjN : j < N
  · have hlt : (I : Int) < 2 + 8 * (N : Int) := by omega
    have hltL : j < L.length := by omega
    have hB : ∀ c, b.getD (I + c) 0 = t.getD (8 * j + c) 0 := fun c => by
      rw [hbt, show I + c = (8 * j + c) + 2 by omega]
      rfl
    have hU : ∀ c, U8 (b.getD (I + c) 0) := fun c => getD_u8 h8 _
    obtain ⟨q0, a0, b0⟩ := at_c (c := 0) (i := I) (j := (I : Int)) hb (by simp) (by omega)
    obtain ⟨q1, a1, b1⟩ := at_c (c := 1) (i := I) (j := (I : Int) + 1) hb (by simp) (by omega)
    obtain ⟨q2, a2, b2⟩ := at_c (c := 2) (i := I) (j := (I : Int) + 2) hb (by simp) (by omega)
    obtain ⟨q3, a3, b3⟩ := at_c (c := 3) (i := I) (j := (I : Int) + 3) hb (by simp) (by omega)
    obtain ⟨q4, a4, b4⟩ := at_c (c := 4) (i := I) (j := (I : Int) + 4) hb (by simp) (by omega)
    obtain ⟨q5, a5, b5⟩ := at_c (c := 5) (i := I) (j := (I : Int) + 5) hb (by simp) (by omega)
    obtain ⟨q6, a6, b6⟩ := at_c (c := 6) (i := I) (j := (I : Int) + 6) hb (by simp) (by omega)
    obtain ⟨q7, a7, b7⟩ := at_c (c := 7) (i := I) (j := (I : Int) + 7) hb (by simp) (by omega)
    obtain ⟨u0, u1, u2, u3⟩ := pair_w (hU 0) (hU 1)
    obtain ⟨u4, u5, u6, u7⟩ := pair_w (hU 2) (hU 3)
    obtain ⟨u8, u9, u10, u11⟩ := pair_w (hU 4) (hU 5)
    obtain ⟨u12, u13, u14, u15⟩ := pair_w (hU 6) (hU 7)
    have v1 := IntWalk.i64_in ((I : Int) + 1) (by omega)
    have v2' := IntWalk.i64_in ((I : Int) + 2) (by omega)
    have v3 := IntWalk.i64_in ((I : Int) + 3) (by omega)
    have v4 := IntWalk.i64_in ((I : Int) + 4) (by omega)
    have v5 := IntWalk.i64_in ((I : Int) + 5) (by omega)
    have v6 := IntWalk.i64_in ((I : Int) + 6) (by omega)
    have v7 := IntWalk.i64_in ((I : Int) + 7) (by omega)
    have v8' := IntWalk.i64_in ((I : Int) + 8) (by omega)
    have et := take_snoc' hltL
    have hgj := hpget j hjN
    rw [List.getElem?_eq_getElem hltL] at hgj
    injection hgj with hgj
    have hrect : L[j] = ⟨v2 (b.getD (I + 0) 0) (b.getD (I + 1) 0), v2 (b.getD (I + 2) 0) (b.getD (I + 3) 0), v2 (b.getD (I + 4) 0) (b.getD (I + 5) 0), v2 (b.getD (I + 6) 0) (b.getD (I + 7) 0)⟩ := by
      rw [hgj]
      simp only [hB]
      rfl
    generalize b.getD (I + 0) 0 = B0 at *
    generalize b.getD (I + 1) 0 = B1 at *
    generalize b.getD (I + 2) 0 = B2 at *
    generalize b.getD (I + 3) 0 = B3 at *
    generalize b.getD (I + 4) 0 = B4 at *
    generalize b.getD (I + 5) 0 = B5 at *
    generalize b.getD (I + 6) 0 = B6 at *
    generalize b.getD (I + 7) 0 = B7 at *
    generalize L[j] = r at *
    simp (disch := omega) [hg, hHeq, e1, e2, e5, e7, e8, hp0, hp1, hp0' _ hsH, hp1' _ hsH, w0, w1, w2, w3, w4, w5, hlt, a0, a1, a2, a3, a4, a5, a6, a7, b0 _ hsH, b1 _ hsH, b2 _ hsH, b3 _ hsH, b4 _ hsH, b5 _ hsH, b6 _ hsH, b7 _ hsH,
      u0, u1, u2, u3, u4, u5, u6, u7, u8, u9, u10, u11, u12, u13, u14, u15, v1, v2', v3, v4, v5, v6, v7, v8']
    refine newK_of fun y2 hy2 => ?_
    rw [← hrect]
    have hsy2 : Sub Hs (upd Hs y2 (.cells (rc r))) := (Sub.refl Hs).upd hy2
    generalize hx4 : AV.sl y2 0 1 4 true = x4
    have hnw : ∀ k : Nat → List AV → Prop, @NEWS (upd Hs y2 (.cells (rc r))) x4 4 ⟨k⟩ = k 1 (rc r) := by intro k; rw [← hx4]; simp
    simp [hnw]
    refine hrow.app hsy2 (by decide) rfl (by rw [flat_len rc_l, List.length_take]; omega) (by omega) fun q H' hq hsq => ?_
    simp (disch := omega) [e8, v8']
    refine FgK.of _ hsq ⟨⟨j + 1, I + 8, .sl q 0 (j + 1) 4 false, by omega, by simp, by simp [e1], by simp [e2], by simp [e5], by simp, by simp, by omega, ?_⟩, by simp [e8]; omega⟩
    have := Row.mk (cs := flat rc (L.take j ++ [r])) (n := j + 1) (sz := 4) hq
    rw [et]
    rw [← flat_snoc] at this ⊢
    exact this
  · have hjN' : j = N := by omega
    subst hjN'
    have hlt : ¬ (I : Int) < 2 + 8 * (j : Int) := by omega
    rw [List.take_of_length_le (by omega)] at hrow
    have hrr : Rr Hs ow L := by
      have := (hrow.rin (by rw [flat_len rc_l, hLl])).rd
      unfold Rr
      rw [hLl]
      exact this
    have cow := Rw.cells hrr
    have kzs := hrow.sub _ _ kz
    have k5s := hrow.sub _ _ k5
    have hyrs := hyr.sub hrow.sub
    simp (disch := omega) [hg, hHeq, e1, e2, e5, e7, e8, hp0, hp1, hp0' _ hsH, hp1' _ hsH, w0, w1, w2, w3, w4, w5, hlt, kzs, k5s, bl, t3, cow]
    refine c16 (o := o) (n := n) (dam := L) (ho.sub hsH) hyrs hrr bo bn (by omega) (by have := (bOk_iff.1 hnn).2.2.1; have := (bOk_iff.1 hoo).2.2.1; rw [← hwh.1, ← hwh.2] at *; omega) (by omega) fun g H5 hg2 => ?_
    rw [hen] at hg2 ⊢
    simp only at hg2 ⊢
    have hgr : Rw H5 g (b.map v8) b.length 1 := (hg2.rin (by simp)).rd
    have cg := Rw.cells hgr
    have hs5' := hg2.sub
    have k5t := hs5' _ _ k5s
    have hsF := hsH.trans hs5'
    have hst1 := fun k => Rw.str hgr (k := k)
    have hst2 := fun k => Rw.str (hb.sub hsF) (k := k)
    have hnl : n.px.length ≤ 10000000 := by
      have h1 := (bOk_iff.1 hnn).2.2.1
      have h2 := (bOk_iff.1 hoo).2.2.1
      rw [← hwh.1, ← hwh.2] at h1
      omega
    simp [cg, k5t, bl, t3]
    refine c17 (hyrs.sub hs5') hnl ?_
    rw [show bufOk n.w n.h n.px = true from hnn]
    simp [cow]
    refine c18 (hrr.sub hs5') r4 ?_
    simp [r2, hst1, hst2]
    refine c8 ?_
    simp
    exact ⟨H, hsF, hk⟩
end Go.Proofs.Ytkjkolacnpknoaa
end

/-! CodecCanonical: for every buffer and bytes the law returns true, and its arguments read as they did. No conditions: every input that the row admits. -/
section
namespace Go.Proofs.Ytkjkolacnpknoaa
open Go Go.Ab Go.RowKit Go.ChangeShapes Go.WideShapes Go.ChangeAt
set_option linter.unusedSimpArgs false
set_option linter.unusedVariables false
set_option linter.unnecessarySimpa false

attribute [local simp] condK_true condK_false condK_not wpc_skip wpc_ret wpc_exit wpc_seq wpc_reg wpc_regD testA_bool wpc_cond wpc_block thenA_normal thenA_ret thenA_exit blockA_normal blockA_ret blockA_exit blockA_other endA_normal endA_ret ev_tmp' ev_const ev_func ev_global cv_int cv_bool cv_string cv_pointer cv_slice cv_agg cv_map put_some put_none wH_s setE_apply setE_env less_eq env_cons env_nil upd_upd upd_apply del_apply startA_eq cells_ag cells_sl one_sl cells_vs one_vs cells_ep one_ep cells_fn one_fn cells_int one_int cells_bool one_bool cells_string one_string cells_pointer one_pointer cells_slice one_slice cells_map one_map cells_agg resK_one resK_nil resK_two rvK_t rvK_c rvsK_nil rvsK_cons iseq_nil iseq_cons gdA_true gdA_false gdA_undef istep_free istep_guard istepV_free istepV_guard dseq_nil dseq_pu dseq_rd dseq_ef wpc_regT dtree_nil dtree_pu dtree_rd dtree_ef dtree_br chkAll_nil chkAll_cons andK_true pickK_true pickK_false pickK_tb pickK_fb bin2K_pl eqbK_eq eqbK_ne eqpK_eq eqpK_ne eqmK_eq eqmK_ne eqzK_eq eqzK_ne eqzK_sl eqzK_vs un1K_pl convK_int fillK_some fillA_cons fillA_nil cellsK_some needK_true needK_ok seeK_ep seeK_ptr oneK_agg oneK_one nilcK_ptr nilcK_ep fadrK_ptr fadrK_ep fldK_ag iadAK_ptr iadAK_ep iadSK_sl iadSK_vs extK_0 extK_1 extK_2 extK_3 lenK_pl lenK_sl lenK_vs lensK_pl boxK_some minmax1K_int storeK_ptr callvK_fn callvK_pl newsK_nil newsK_vs newsK_sl appK_nil appK_nil0 appK_sl appK_vs bnd1K_int bndK_none bndK_some slsK_vs slsK_nil slsK_sl0 slsK_sl slstrK_pl boolK_some eqsK_ag iop_eqs iop_sls iop_slstr seesK_some seesK_ro mapsK_some MAP_some findK_some findK_none plK_pl nmapK_none nmapK_some iop_mlook iop_mlen iop_mmk iop_mupd iop_mdel iop_mrng itK_none itK_some ptr0K_ptr iop_mnxt iop_ment it1K_some entK_some iop_mov iop_pick iop_bin iop_eqb iop_eqp iop_eqm iop_eqz iop_un capK_pl capK_sl capK_vs iop_cap iop_b2s b2sK_nil b2sK_sl b2sK_vs strK_some iop_idxv idxvK_ag atK_some apzK_nil iop_apz mksK_int iop_mks clrK_sl clrK_vs clrK_nil iop_clr iop_conv iop_build iop_load iop_nilc iop_fadr iop_fld iop_iadA iop_iadS iop_ext iop_mkf iop_len iop_lens iop_minmax iop_al iop_box iop_bsl iop_store iop_call iop_callv iop_app BIN_add BIN_sub BIN_mul BIN_and BIN_or BIN_xor BIN_andNot BIN_eql BIN_neq BIN_lss BIN_leq BIN_gtr BIN_geq BIN_quo BIN_rem BIN_shl BIN_shr BIN_sadd BIN_seql BIN_sneq BIN_slss BIN_sleq BIN_sgtr BIN_sgeq UN_neg UN_xor UN_not MM_nil MM_cons partsA argsA ptrA lessL eqL min2I slotN_int slotP_int slotI_int

theorem law_CodecCanonical (xs : List AV) (hf : FitsT [(true, bfL), (false, [.sl [.i .u8]])] xs) : ACall Try.prog 5 xs (fun _ => none) (fun v _ => v = vb true) := by
  obtain ⟨a, r, rfl, h1, hf⟩ := hf.cons
  obtain ⟨b, rfl, h2⟩ := hf.one
  obtain ⟨o, p, rfl, g1, g2⟩ := fitBf h1
  obtain ⟨bs, g3, g4, _⟩ := fitU (P := U8) (fun n h => u8_of h) (fitOne (ls := []) h2)
  exact c5 (g1 _) (g3 _) g2 g4 rfl
set_option maxRecDepth 100000

theorem codecCanonical_lifted (os : Os) (started : os.Started) (H : Type) (enc : TypeId × Value → H) :
    ReturnsInHanded {} Try.checked os 5 .any (Rows.codecCanonicalSpec.pre6 enc Try.prog Try.f5 Rows.codecCanonicalRow.domain false) (Rows.codecCanonicalSpec.post enc Try.prog Try.f5 false true false false) := by
  refine returnsInHanded_of_change_sized (C := Try.checked) own started (by kernel_rfl) Try.func5
    (ChangeSpec.witness6 (enc := enc) (C := Try.checked) false ⟨#[], #[.agg #[.int .i64 0, .int .i64 0, .slice none 0 0], .slice none 0 0], []⟩ 8 (by kernel_rfl) (by kernel_rfl) (by kernel_rfl) (by kernel_rfl)) ?_
  intro W base args ds gs before hval hW _ _ _
  refine law_contract (L := [(true, bfL), (false, [.sl [.i .u8]])]) laidOut (by kernel_rfl) rfl (fun ds hd => ?_) ⟨_, rfl, by kernel_rfl⟩ ?_ (fun xs hf => law_CodecCanonical xs hf) W base args ds gs before hval hW
  · match ds, hd with
    | [d0, d1], _ => exact ⟨rfl, rfl, rfl⟩
  · exact of_decide_eq_true (by kernel_rfl)

theorem codecCanonical_holds : Rows.CodecCanonicalSaid :=
  OpenClaim.holds_of_wide 5 Try.f5 rfl rfl rfl rfl rfl rfl rfl ⟨rfl, rfl, rfl, rfl, rfl⟩ rfl rfl rfl rfl rfl (by kernel_rfl) Try.func5 (by kernel_rfl)
    (of_decide_eq_true (by kernel_rfl)) (by unfold Func.isWrapper; first | (rw [if_pos (by decide +kernel)]; kernel_rfl) | (rw [if_neg (by decide +kernel)]; exact ⟨rfl, rfl⟩))
    (fun os started H enc _ => codecCanonical_lifted os started H enc)
end Go.Proofs.Ytkjkolacnpknoaa
end
