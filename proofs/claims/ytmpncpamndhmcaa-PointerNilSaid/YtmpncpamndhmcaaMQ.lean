/-
  Several texts in one: P24; P25; P26; P27; P28; P29. Conditions: as each lemma states them.
-/
import Derived.Test.YtmpncpamndhmcaaMP
import Derived.Test.YtmpncpamndhmcaaMW
/-! Light scenes, walked: what the guard of the law lets in. Conditions: as each lemma states them. -/
section
namespace Go.Proofs.Ytmpncpamndhmcaa
open Go Go.Ab Go.RowKit
set_option linter.unusedSimpArgs false
set_option linter.unusedVariables false
set_option linter.unnecessarySimpa false

attribute [local simp] condK_true condK_false condK_not wpc_skip wpc_ret wpc_exit wpc_seq wpc_reg wpc_regD testA_bool wpc_cond wpc_block thenA_normal thenA_ret thenA_exit blockA_normal blockA_ret blockA_exit blockA_other endA_normal endA_ret ev_tmp' ev_const ev_func ev_global cv_int cv_bool cv_string cv_pointer cv_slice cv_agg cv_map put_some put_none wH_s setE_apply setE_env less_eq env_cons env_nil upd_upd upd_apply del_apply startA_eq cells_ag cells_sl one_sl cells_vs one_vs cells_ep one_ep cells_fn one_fn cells_int one_int cells_bool one_bool cells_string one_string cells_pointer one_pointer cells_slice one_slice cells_map one_map cells_agg resK_one resK_nil resK_two rvK_t rvK_c rvsK_nil rvsK_cons iseq_nil iseq_cons gdA_true gdA_false gdA_undef istep_free istep_guard istepV_free istepV_guard dseq_nil dseq_pu dseq_rd dseq_ef wpc_regT dtree_nil dtree_pu dtree_rd dtree_ef dtree_br chkAll_nil chkAll_cons andK_true pickK_true pickK_false pickK_tb pickK_fb bin2K_pl eqbK_eq eqbK_ne eqpK_eq eqpK_ne eqmK_eq eqmK_ne eqzK_eq eqzK_ne eqzK_sl eqzK_vs un1K_pl convK_int fillK_some fillA_cons fillA_nil cellsK_some needK_true needK_ok seeK_ep seeK_ptr oneK_agg oneK_one nilcK_ptr nilcK_ep fadrK_ptr fadrK_ep fldK_ag iadAK_ptr iadAK_ep iadSK_sl iadSK_vs extK_0 extK_1 extK_2 extK_3 lenK_pl lenK_sl lenK_vs lensK_pl boxK_some minmax1K_int storeK_ptr callvK_fn callvK_pl newsK_nil newsK_vs newsK_sl appK_nil appK_nil0 appK_sl appK_vs bnd1K_int bndK_none bndK_some slsK_vs slsK_nil slsK_sl0 slsK_sl slstrK_pl boolK_some eqsK_ag iop_eqs iop_sls iop_slstr seesK_some seesK_ro mapsK_some MAP_some findK_some findK_none plK_pl nmapK_none nmapK_some iop_mlook iop_mlen iop_mmk iop_mupd iop_mdel iop_mrng itK_none itK_some ptr0K_ptr iop_mnxt iop_ment it1K_some entK_some iop_mov iop_pick iop_bin iop_eqb iop_eqp iop_eqm iop_eqz iop_un capK_pl capK_sl capK_vs iop_cap apzK_nil iop_apz mksK_int iop_mks clrK_sl clrK_vs clrK_nil iop_clr iop_conv iop_build iop_load iop_nilc iop_fadr iop_fld iop_iadA iop_iadS iop_ext iop_mkf iop_len iop_lens iop_minmax iop_al iop_box iop_bsl iop_store iop_call iop_callv iop_app BIN_add BIN_sub BIN_mul BIN_and BIN_or BIN_xor BIN_andNot BIN_eql BIN_neq BIN_lss BIN_leq BIN_gtr BIN_geq BIN_quo BIN_rem BIN_shl BIN_shr BIN_sadd BIN_seql BIN_sneq BIN_slss BIN_sleq BIN_sgtr BIN_sgeq UN_neg UN_xor UN_not MM_nil MM_cons partsA argsA ptrA lessL eqL min2I slotN_int slotP_int slotI_int
attribute [local simp] rc_len rc_t4 rc_t1 rc_t2 rc_t3 rc_d1 rc_d2 rc_d3 rc_d4 rc_ag rc_one rc_eq

structure It0 (H : AH) (i : It) : Prop where
  px : Rw H i.ap (flat pxc i.px) i.px.length 4
  ao : Rr H i.ao i.lo
  ai : Rr H i.ai i.li
theorem It0.sub {H H' : AH} {i : It} (h : It0 H i) (hs : Sub H H') : It0 H' i := ⟨h.px.sub hs, h.ao.sub hs, h.ai.sub hs⟩
theorem It0.one {H : AH} {i : It} (h : It0 H i) : (itc i).all AV.one = true := by
  have h1 := Rw.one h.px
  have h2 := Rw.one h.ao
  have h3 := Rw.one h.ai
  simp [itc, h1, h2, h3]
def Its0 (H : AH) (a : AV) (L : List It) : Prop := Rw H a (flat itc L) L.length 9 ∧ ∀ i ∈ L, It0 H i
theorem Its0.sub {H H' : AH} {a : AV} {L : List It} (h : Its0 H a L) (hs : Sub H H') : Its0 H' a L := ⟨h.1.sub hs, fun i hi => (h.2 i hi).sub hs⟩
theorem iat {H : AH} {a : AV} {L : List It} (h : Rw H a (flat itc L) L.length 9) {i : Nat} (hi : i < L.length) : ∃ p, (∀ k : AV → Prop, @iadSK 9 a (vi i) ⟨k⟩ = k p) ∧ (∀ k : List AV → Prop, @SEE H p 9 ⟨k⟩ = k (itc L[i])) ∧
    (∃ q, (∀ k : AV → Prop, @fadrK 0 p ⟨k⟩ = k q) ∧ ∀ k : List AV → Prop, @SEE H q 1 ⟨k⟩ = k [vi L[i].sf]) ∧ (∃ q, (∀ k : AV → Prop, @fadrK 7 p ⟨k⟩ = k q) ∧ ∀ k : List AV → Prop, @SEE H q 1 ⟨k⟩ = k [L[i].ao]) ∧
    (∃ q, (∀ k : AV → Prop, @fadrK 8 p ⟨k⟩ = k q) ∧ ∀ k : List AV → Prop, @SEE H q 1 ⟨k⟩ = k [L[i].ai]) ∧ ∃ q q2, (∀ k : AV → Prop, @fadrK 4 p ⟨k⟩ = k q) ∧ (∀ k : AV → Prop, @fadrK 2 q ⟨k⟩ = k q2) ∧ ∀ k : List AV → Prop, @SEE H q2 1 ⟨k⟩ = k [L[i].ap] := by
  obtain ⟨p, h1, h2⟩ := h.idx hi
  have e := flat_drop itc_l L i hi
  rw [e] at h2
  have hl : (itc L[i]).length = 9 := rfl
  have g : ∀ off v, off < 9 → (itc L[i])[off]? = some v → ∃ q, (∀ kk : AV → Prop, @fadrK off p ⟨kk⟩ = kk q) ∧ ∀ kk : List AV → Prop, @SEE H q 1 ⟨kk⟩ = kk [v] := fun off v ho hv => by
    obtain ⟨q, h3, h4⟩ := h2.fadr (off := off) (by rw [List.length_append]; omega)
    refine ⟨q, h3, fun kk => ?_⟩
    rw [h4.see (by rw [List.length_drop, List.length_append]; omega), List.drop_append_of_le_length (by omega), List.drop_eq_getElem_cons (by omega)]
    have : (itc L[i])[off] = v := (List.getElem?_eq_some_iff.1 hv).2
    subst this
    rfl
  refine ⟨p, h1, fun k => ?_, g 0 _ (by decide) rfl, g 7 _ (by decide) rfl, g 8 _ (by decide) rfl, ?_⟩
  · rw [h2.see (by rw [List.length_append]; omega), List.take_append_of_le_length (by omega), List.take_of_length_le (by omega)]
  · obtain ⟨q, h3, h4⟩ := h2.fadr (off := 4) (by rw [List.length_append]; omega)
    obtain ⟨q2, h5, h6⟩ := h4.fadr (off := 2) (by rw [List.length_drop, List.length_append]; omega)
    refine ⟨q, q2, h3, h5, fun k => ?_⟩
    rw [h6.see (by simp only [List.length_drop, List.length_append]; omega)]
    rfl
theorem c21 {H : AH} {K : AV → AH → Prop} {a : AV} {L : List It} (ha : Its0 H a L) (hm : L.length ≤ maxLen) (hk : ∀ b : Bool, (b = true → L.length ≤ 140 ∧ ∀ i ∈ L, i.lo.length ≤ 12 ∧ i.li.length ≤ 12) → K (vb b) H) : @AC Try.prog 21 [a] H ⟨K⟩ := by
  have la := fun k => Rw.lenK ha.1 (k := k)
  refine AC_of (.forget ?_)
  refine call_c follows cf21_ok (by simp) ?_
  have hf : K (vb false) H := hk false fun h => by cases h
  by_cases h140 : 140 < L.length
  · have : (140 : Int) < L.length := by omega
    simp [la, this]
    exact ⟨H, Sub.refl _, hf⟩
  have h140' : ¬ (140 : Int) < L.length := by omega
  simp [la, h140']
  refine wpc_loop (fun s => ∃ (i : Nat) (n : Int), s.n = 43 ∧ s.H = H ∧ s.t 0 = a ∧ s.t 3 = vi n ∧ s.t 4 = vi i ∧ i ≤ L.length ∧ ∀ x ∈ L.take i, x.lo.length ≤ 12 ∧ x.li.length ≤ 12) (fun s => L.length - slotN (s.t 4)) ?_ ?_
  · exact FgK.same ⟨0, 0, by simp, by simp, by simp, by simp, by simp, by omega, by simp⟩
  rintro s ⟨i, n, hn, hH, e0, e3, e4, hi, hall⟩
  by_cases hlt : i < L.length
  · have wr := IntWalk.i64_in ((i : Int) + 1) (by omega)
    obtain ⟨p, hp1, hp2, ⟨_, _, _⟩, ⟨p7, p71, p72⟩, ⟨p8, p81, p82⟩, p4, p6, p41, p61, p62⟩ := iat ha.1 hlt
    have hit := ha.2 _ (List.getElem_mem hlt)
    have et := take_snoc' hlt
    generalize L[i] = x at *
    have lp := fun k => Rw.lenK hit.px (k := k)
    have lo := fun k => Rw.lenK hit.ao (k := k)
    have li := fun k => Rw.lenK hit.ai (k := k)
    have cp := Rw.one hit.px
    have co := Rw.one hit.ao
    have ci := Rw.one hit.ai
    by_cases d1 : 12 < x.lo.length
    · have d1' : (12 : Int) < x.lo.length := by omega
      simp (disch := omega) [hn, hH, e0, e3, e4, la, hlt, hp1, p41, p61, p62, p71, p72, lp, lo, d1']
      exact ⟨H, Sub.refl _, hf⟩
    have d1' : ¬ (12 : Int) < x.lo.length := by omega
    by_cases d2 : 12 < x.li.length
    · have d2' : (12 : Int) < x.li.length := by omega
      simp (disch := omega) [hn, hH, e0, e3, e4, la, hlt, hp1, p41, p61, p62, p71, p72, p81, p82, lp, lo, li, d1', d2']
      exact ⟨H, Sub.refl _, hf⟩
    have d2' : ¬ (12 : Int) < x.li.length := by omega
    simp (disch := omega) [hn, hH, e0, e3, e4, la, hlt, hp1, p41, p61, p62, p71, p72, p81, p82, lp, lo, li, d1', d2']
    generalize IntKind.i64.wrap (n + x.px.length) = n2
    by_cases d3 : 1500 < n2
    · simp [d3]
      exact ⟨H, Sub.refl _, hf⟩
    · simp [d3, wr]
      refine FgK.same ⟨⟨i + 1, n2, by simp, by simp, by simp, by simp, by simp, by omega, ?_⟩, by simp [e4]; omega⟩
      rw [et]
      intro y hy
      rcases List.mem_append.1 hy with hy | hy
      · exact hall y hy
      · rw [List.mem_singleton.1 hy]; omega
  · rw [List.take_of_length_le (by omega)] at hall
    simp (disch := omega) [hn, hH, e0, e4, la, hlt]
    exact ⟨H, Sub.refl _, hk true fun _ => ⟨by omega, hall⟩⟩
end Go.Proofs.Ytmpncpamndhmcaa
end

/-! Valid scenes, walked: buffers, positions, bounds, regions inside. Conditions: as each lemma states them. -/
section
namespace Go.Proofs.Ytmpncpamndhmcaa
open Go Go.Ab Go.RowKit
set_option linter.unusedSimpArgs false
set_option linter.unusedVariables false
set_option linter.unnecessarySimpa false

attribute [local simp] condK_true condK_false condK_not wpc_skip wpc_ret wpc_exit wpc_seq wpc_reg wpc_regD testA_bool wpc_cond wpc_block thenA_normal thenA_ret thenA_exit blockA_normal blockA_ret blockA_exit blockA_other endA_normal endA_ret ev_tmp' ev_const ev_func ev_global cv_int cv_bool cv_string cv_pointer cv_slice cv_agg cv_map put_some put_none wH_s setE_apply setE_env less_eq env_cons env_nil upd_upd upd_apply del_apply startA_eq cells_ag cells_sl one_sl cells_vs one_vs cells_ep one_ep cells_fn one_fn cells_int one_int cells_bool one_bool cells_string one_string cells_pointer one_pointer cells_slice one_slice cells_map one_map cells_agg resK_one resK_nil resK_two rvK_t rvK_c rvsK_nil rvsK_cons iseq_nil iseq_cons gdA_true gdA_false gdA_undef istep_free istep_guard istepV_free istepV_guard dseq_nil dseq_pu dseq_rd dseq_ef wpc_regT dtree_nil dtree_pu dtree_rd dtree_ef dtree_br chkAll_nil chkAll_cons andK_true pickK_true pickK_false pickK_tb pickK_fb bin2K_pl eqbK_eq eqbK_ne eqpK_eq eqpK_ne eqmK_eq eqmK_ne eqzK_eq eqzK_ne eqzK_sl eqzK_vs un1K_pl convK_int fillK_some fillA_cons fillA_nil cellsK_some needK_true needK_ok seeK_ep seeK_ptr oneK_agg oneK_one nilcK_ptr nilcK_ep fadrK_ptr fadrK_ep fldK_ag iadAK_ptr iadAK_ep iadSK_sl iadSK_vs extK_0 extK_1 extK_2 extK_3 lenK_pl lenK_sl lenK_vs lensK_pl boxK_some minmax1K_int storeK_ptr callvK_fn callvK_pl newsK_nil newsK_vs newsK_sl appK_nil appK_nil0 appK_sl appK_vs bnd1K_int bndK_none bndK_some slsK_vs slsK_nil slsK_sl0 slsK_sl slstrK_pl boolK_some eqsK_ag iop_eqs iop_sls iop_slstr seesK_some seesK_ro mapsK_some MAP_some findK_some findK_none plK_pl nmapK_none nmapK_some iop_mlook iop_mlen iop_mmk iop_mupd iop_mdel iop_mrng itK_none itK_some ptr0K_ptr iop_mnxt iop_ment it1K_some entK_some iop_mov iop_pick iop_bin iop_eqb iop_eqp iop_eqm iop_eqz iop_un capK_pl capK_sl capK_vs iop_cap apzK_nil iop_apz mksK_int iop_mks clrK_sl clrK_vs clrK_nil iop_clr iop_conv iop_build iop_load iop_nilc iop_fadr iop_fld iop_iadA iop_iadS iop_ext iop_mkf iop_len iop_lens iop_minmax iop_al iop_box iop_bsl iop_store iop_call iop_callv iop_app BIN_add BIN_sub BIN_mul BIN_and BIN_or BIN_xor BIN_andNot BIN_eql BIN_neq BIN_lss BIN_leq BIN_gtr BIN_geq BIN_quo BIN_rem BIN_shl BIN_shr BIN_sadd BIN_seql BIN_sneq BIN_slss BIN_sleq BIN_sgtr BIN_sgeq UN_neg UN_xor UN_not MM_nil MM_cons partsA argsA ptrA lessL eqL min2I slotN_int slotP_int slotI_int
attribute [local simp] rc_len rc_t4 rc_t1 rc_t2 rc_t3 rc_d1 rc_d2 rc_d3 rc_d4 rc_ag rc_one rc_eq min2_t min2_f

theorem szOk_iff (n : Int) : szOk n = true ↔ 1 ≤ n ∧ n ≤ 256 := by simp [szOk]
theorem c79 (w h : Int) : PC Try.prog 79 [vi w, vi h] (vb (szOk w && szOk h)) := by
  refine .tell fun H => ?_
  refine call_c follows cf79_ok (by simp) ?_
  unfold szOk
  by_cases h1 : 1 ≤ w <;> by_cases h2 : w ≤ 256 <;> by_cases h3 : 1 ≤ h <;> by_cases h4 : h ≤ 256 <;> simp [h1, h2, h3, h4]
  all_goals exact Sub.refl _
def posB (x y : Int) : Bool := (decide (-16384 ≤ x) && decide (x ≤ 16128)) && (decide (-16384 ≤ y) && decide (y ≤ 16128))
theorem posB_eq (x y : Int) : posB x y = posOk x y := by
  unfold posB posOk
  cases h : (decide (-16384 ≤ min x y) && decide (max x y ≤ 16128)) with
  | true => simp at h; simp; omega
  | false => simp at h; simp; omega
theorem c58 (x y : Int) : PC Try.prog 58 [vi x, vi y] (vb (posOk x y)) := by
  rw [← posB_eq]
  refine .tell fun H => ?_
  refine call_c follows cf58_ok (by simp) ?_
  unfold posB
  by_cases h1 : -16384 ≤ x <;> by_cases h2 : x ≤ 16128 <;> by_cases h3 : -16384 ≤ y <;> by_cases h4 : y ≤ 16128 <;> simp [h1, h2, h3, h4]
  all_goals exact Sub.refl _
theorem c59 {H : AH} {K : AV → AH → Prop} {a : AV} {w h : Int} {l : List Px} (ha : Rw H a (flat pxc l) l.length 4) (hk : K (vb (bufOk w h l)) H) : @AC Try.prog 59 [.ag (bfc w h a)] H ⟨K⟩ := by
  have la := fun k => Rw.lenK ha (k := k)
  have ca := Rw.cells ha
  refine AC_of (.forget ?_)
  refine call_c follows cf59_ok (by simp) ?_
  have hbl : (bfc w h a).length = 3 := rfl
  simp [hbl]
  refine newK_of fun z hz => ?_
  have hzz : upd H z (.cells (bfc w h a)) z = some (.cells [vi w, vi h, a]) := by simp [upd_apply, bfc]
  have hS : Sub H (upd H z (.cells (bfc w h a))) := (Sub.refl H).upd hz
  generalize upd H z (.cells (bfc w h a)) = G at *
  simp [hzz]
  refine (c79 w h).ac ?_
  cases hs : (szOk w && szOk h) with
  | false =>
    have e : bufOk w h l = false := by
      unfold bufOk
      cases h1 : szOk w <;> cases h2 : szOk h <;> simp_all
    rw [e] at hk
    simp
    exact ⟨H, hS, hk⟩
  | true =>
    simp at hs
    obtain ⟨hs1, hs2⟩ := hs
    have r1 := (szOk_iff w).1 hs1
    have r2 := (szOk_iff h).1 hs2
    have hmul : 0 ≤ w * h ∧ w * h ≤ 256 * 256 := ⟨Int.mul_nonneg (by omega) (by omega), Int.mul_le_mul (by omega) (by omega) (by omega) (by omega)⟩
    have wm := IntWalk.i64_in (w * h) (by omega)
    by_cases hlen : (l.length : Int) = w * h
    · have e : bufOk w h l = l.all pxOk := by simp [bufOk, hs1, hs2, hlen]
      rw [e] at hk
      simp [hzz, la, wm, hlen]
      refine wpc_loop (fun s => ∃ (i : Nat), s.n = 53 ∧ s.H = G ∧ s.t 1 = pA z ∧ s.t 3 = vi i ∧ i ≤ l.length ∧ (l.take i).all pxOk = true) (fun s => l.length - slotN (s.t 3)) ?_ ?_
      · exact FgK.same ⟨0, by simp, by simp, by simp, by simp, by omega, by simp⟩
      rintro s ⟨i, hn, hH, e1, e3, hi, hall⟩
      by_cases hlt : i < l.length
      · have wr := IntWalk.i64_in ((i : Int) + 1) (by omega)
        obtain ⟨p, hp1, hp2⟩ := fsee pxc_l (ha.sub hS) hlt
        have et := take_snoc' hlt
        have hfa : pxOk l[i] = false → l.all pxOk = false := fun h => List.all_eq_false.2 ⟨l[i], List.getElem_mem hlt, by simp [h]⟩
        generalize l[i] = x at *
        have hlt' : (i : Int) < w * h := by omega
        simp (disch := omega) [hn, hH, e1, e3, hzz, la, hlt, hp1, hp2 _ (Sub.refl _)]
        refine newK_of fun y hy => ?_
        have nyz := free_ne hy z (by rw [hzz]; simp)
        have hSy := hS.upd (hS.none_of hy) (o := .cells (pxc x))
        have hyy : upd G y (.cells (pxc x)) y = some (.cells [v8 x.r, v8 x.g, v8 x.b, v8 x.a]) := by simp [upd_apply, pxc]
        have hGy : Sub G (upd G y (.cells (pxc x))) := (Sub.refl G).upd hy
        have hfin : pxOk x = false → ∃ H0, Sub H0 (upd G y (.cells (pxc x))) ∧ K (vb false) H0 := fun h => ⟨H, hSy, by rw [hfa h] at hk; exact hk⟩
        by_cases d1 : x.a < x.r
        · simp [pxc, d1]
          exact hfin (by simp [pxOk]; omega)
        by_cases d2 : x.a < x.g
        · simp [pxc, d1, d2]
          exact hfin (by simp [pxOk]; omega)
        by_cases d3 : x.a < x.b
        · simp [pxc, d1, d2, d3]
          exact hfin (by simp [pxOk]; omega)
        simp [pxc, d1, d2, d3, wr]
        refine FgK.of G hGy ⟨⟨i + 1, by simp, by simp, by simp, by simp, by omega, ?_⟩, by simp [e3]; omega⟩
        rw [et, List.all_append, hall]
        simp [pxOk]; omega
      · rw [List.take_of_length_le (by omega)] at hall
        rw [hall] at hk
        simp (disch := omega) [hn, hH, e1, e3, hzz, la, hlt]
        exact ⟨H, hS, hk⟩
    · have e : bufOk w h l = false := by simp [bufOk, hlen]
      rw [e] at hk
      simp [hzz, la, wm, hlen]
      exact ⟨H, hS, hk⟩
end Go.Proofs.Ytmpncpamndhmcaa
end

/-! Valid scenes, walked: bounds, regions inside, the whole. Conditions: as each lemma states them. -/
section
namespace Go.Proofs.Ytmpncpamndhmcaa
open Go Go.Ab Go.RowKit
set_option linter.unusedSimpArgs false
set_option linter.unusedVariables false
set_option linter.unnecessarySimpa false

attribute [local simp] condK_true condK_false condK_not wpc_skip wpc_ret wpc_exit wpc_seq wpc_reg wpc_regD testA_bool wpc_cond wpc_block thenA_normal thenA_ret thenA_exit blockA_normal blockA_ret blockA_exit blockA_other endA_normal endA_ret ev_tmp' ev_const ev_func ev_global cv_int cv_bool cv_string cv_pointer cv_slice cv_agg cv_map put_some put_none wH_s setE_apply setE_env less_eq env_cons env_nil upd_upd upd_apply del_apply startA_eq cells_ag cells_sl one_sl cells_vs one_vs cells_ep one_ep cells_fn one_fn cells_int one_int cells_bool one_bool cells_string one_string cells_pointer one_pointer cells_slice one_slice cells_map one_map cells_agg resK_one resK_nil resK_two rvK_t rvK_c rvsK_nil rvsK_cons iseq_nil iseq_cons gdA_true gdA_false gdA_undef istep_free istep_guard istepV_free istepV_guard dseq_nil dseq_pu dseq_rd dseq_ef wpc_regT dtree_nil dtree_pu dtree_rd dtree_ef dtree_br chkAll_nil chkAll_cons andK_true pickK_true pickK_false pickK_tb pickK_fb bin2K_pl eqbK_eq eqbK_ne eqpK_eq eqpK_ne eqmK_eq eqmK_ne eqzK_eq eqzK_ne eqzK_sl eqzK_vs un1K_pl convK_int fillK_some fillA_cons fillA_nil cellsK_some needK_true needK_ok seeK_ep seeK_ptr oneK_agg oneK_one nilcK_ptr nilcK_ep fadrK_ptr fadrK_ep fldK_ag iadAK_ptr iadAK_ep iadSK_sl iadSK_vs extK_0 extK_1 extK_2 extK_3 lenK_pl lenK_sl lenK_vs lensK_pl boxK_some minmax1K_int storeK_ptr callvK_fn callvK_pl newsK_nil newsK_vs newsK_sl appK_nil appK_nil0 appK_sl appK_vs bnd1K_int bndK_none bndK_some slsK_vs slsK_nil slsK_sl0 slsK_sl slstrK_pl boolK_some eqsK_ag iop_eqs iop_sls iop_slstr seesK_some seesK_ro mapsK_some MAP_some findK_some findK_none plK_pl nmapK_none nmapK_some iop_mlook iop_mlen iop_mmk iop_mupd iop_mdel iop_mrng itK_none itK_some ptr0K_ptr iop_mnxt iop_ment it1K_some entK_some iop_mov iop_pick iop_bin iop_eqb iop_eqp iop_eqm iop_eqz iop_un capK_pl capK_sl capK_vs iop_cap apzK_nil iop_apz mksK_int iop_mks clrK_sl clrK_vs clrK_nil iop_clr iop_conv iop_build iop_load iop_nilc iop_fadr iop_fld iop_iadA iop_iadS iop_ext iop_mkf iop_len iop_lens iop_minmax iop_al iop_box iop_bsl iop_store iop_call iop_callv iop_app BIN_add BIN_sub BIN_mul BIN_and BIN_or BIN_xor BIN_andNot BIN_eql BIN_neq BIN_lss BIN_leq BIN_gtr BIN_geq BIN_quo BIN_rem BIN_shl BIN_shr BIN_sadd BIN_seql BIN_sneq BIN_slss BIN_sleq BIN_sgtr BIN_sgeq UN_neg UN_xor UN_not MM_nil MM_cons partsA argsA ptrA lessL eqL min2I slotN_int slotP_int slotI_int
attribute [local simp] rc_len rc_t4 rc_t1 rc_t2 rc_t3 rc_d1 rc_d2 rc_d3 rc_d4 rc_ag rc_one rc_eq min2_t min2_f

def bndR (i : It) : R := if posOk i.x i.y = true ∧ bufOk i.w i.h i.px = true then ⟨i.x, i.y, i.x + i.w, i.y + i.h⟩ else ⟨0, 0, 0, 0⟩
theorem c43 {H : AH} {K : AV → AH → Prop} {i : It} (hi : It0 H i) (hk : K (.ag (rc (bndR i))) H) : @AC Try.prog 43 [.ag (itc i)] H ⟨K⟩ := by
  refine AC_of (.forget ?_)
  refine call_c follows cf43_ok (by simp) ?_
  have hl : (itc i).length = 9 := rfl
  simp [hl]
  refine newK_of fun b hb => ?_
  have hS : Sub H (upd H b (.cells (itc i))) := (Sub.refl H).upd hb
  simp
  refine newK_of fun z hz => ?_
  have nzb := free_ne hz b (by simp [upd_apply])
  have hzH : H z = none := hS.none_of hz
  have hS2 := hS.upd hzH (o := .cells [vi 0, vi 0, vi 0, vi 0])
  have hbb : upd (upd H b (.cells (itc i))) z (.cells [vi 0, vi 0, vi 0, vi 0]) b = some (.cells (itc i)) := by simp [upd_apply, nzb]
  have hzz : upd (upd H b (.cells (itc i))) z (.cells [vi 0, vi 0, vi 0, vi 0]) z = some (.cells [vi 0, vi 0, vi 0, vi 0]) := by simp [upd_apply]
  have hGz : ∀ r : R, Sub H (upd (upd (upd H b (.cells (itc i))) z (.cells [vi 0, vi 0, vi 0, vi 0])) z (.cells (rc r))) := fun r => by rw [upd_twice]; exact hS.upd hzH
  generalize upd (upd H b (.cells (itc i))) z (.cells [vi 0, vi 0, vi 0, vi 0]) = G at *
  have hi' := hi.sub hS2
  simp [nzb, hbb, itc]
  refine (c58 i.x i.y).ac ?_
  have eb : AV.ag [AV.pl (.int .i64 i.w), AV.pl (.int .i64 i.h), i.ap] = .ag (bfc i.w i.h i.ap) := rfl
  unfold bndR at hk
  cases hp : posOk i.x i.y with
  | false =>
    rw [if_neg (by simp [hp])] at hk
    simp [hzz]
    exact ⟨H, hGz ⟨0, 0, 0, 0⟩, hk⟩
  | true =>
    simp [hbb, itc]
    refine c59 (w := i.w) (h := i.h) hi'.px ?_
    cases hv : bufOk i.w i.h i.px with
    | false =>
      rw [if_neg (by simp [hv])] at hk
      simp [hzz]
      exact ⟨H, hGz ⟨0, 0, 0, 0⟩, hk⟩
    | true =>
      rw [if_pos ⟨hp, hv⟩] at hk
      have r1 := bufOk_rng hv
      have r2 := posOk_rng hp
      have w1 := IntWalk.i64_in (i.x + i.w) (by omega)
      have w2 := IntWalk.i64_in (i.y + i.h) (by omega)
      simp [hbb, itc, hzz, w1, w2, nzb]
      exact ⟨H, hGz ⟨i.x, i.y, i.x + i.w, i.y + i.h⟩, hk⟩
theorem c61 {H : AH} {K : AV → AH → Prop} (w h : Int) (hk : ∀ out H', Sub H H' → Rr H' out [⟨0, 0, w, h⟩] → K out H') : @AC Try.prog 61 [vi w, vi h] H ⟨K⟩ := by
  refine call_c follows cf61_ok (by simp) ?_
  simp
  refine newK_of fun z hz => ?_
  simp
  exact hk _ _ ((Sub.refl H).upd hz) (Rw.sl rfl (by simp [upd_apply]; rfl))
theorem same05 {H : AH} {K : AV → AH → Prop} {a b : AV} {l l2 : List R} (ha : Rr H a l) (hb : Rr H b l2) (hl : l.length ≤ 1000000) (hk : ∀ bb : Bool, (bb = true → l = l2) → K (vb bb) H) : @AC Try.prog 63 [a, b] H ⟨K⟩ := by
  have q1 := fun k => Rw.lenK ha (k := k)
  have q2 := fun k => Rw.lenK hb (k := k)
  have hf : K (vb false) H := hk false fun h => by cases h
  refine AC_of (.forget ?_)
  refine call_c follows cf63_ok (by simp) ?_
  by_cases hlen : l.length = l2.length
  · have hlen' : (l.length : Int) = l2.length := by omega
    simp [q1, q2, hlen']
    refine wpc_loop (fun s => ∃ (i : Nat), s.n = 26 ∧ s.H = H ∧ s.t 0 = a ∧ s.t 1 = b ∧ s.t 5 = vi i ∧ i ≤ l.length ∧ l.take i = l2.take i) (fun s => l.length - slotN (s.t 5)) ?_ ?_
    · exact FgK.same ⟨0, by simp, by simp, by simp, by simp, by simp, by omega, by simp⟩
    rintro s ⟨i, hn, hH, e0, e1, e5, hi, hc⟩
    by_cases hlt : i < l.length
    · have hlt2 : i < l2.length := by omega
      have wr := IntWalk.i64_in ((i : Int) + 1) (by omega)
      obtain ⟨p, hp1, hp2⟩ := fsee rc_l ha hlt
      obtain ⟨q, hq1, hq2⟩ := fsee rc_l hb hlt2
      have et := take_snoc' hlt
      have et2 := take_snoc' hlt2
      generalize l[i] = x at *
      generalize l2[i] = y at *
      cases hxy : req x y with
      | true =>
        have := (req_iff x y).1 hxy
        subst this
        simp (disch := omega) [hn, hH, e0, e1, e5, q1, hlt, hp1, hp2 _ (Sub.refl _), hq1, hq2 _ (Sub.refl _), hxy, wr]
        exact FgK.same ⟨⟨i + 1, by simp, by simp [hH], by simp [e0], by simp [e1], by simp, by omega, by rw [et, et2, hc]⟩, by simp [e5]; omega⟩
      | false =>
        simp (disch := omega) [hn, hH, e0, e1, e5, q1, hlt, hp1, hp2 _ (Sub.refl _), hq1, hq2 _ (Sub.refl _), hxy]
        exact ⟨H, Sub.refl _, hf⟩
    · simp (disch := omega) [hn, hH, e0, e1, e5, q1, hlt]
      rw [List.take_of_length_le (by omega), List.take_of_length_le (by omega)] at hc
      exact ⟨H, Sub.refl _, hk true fun _ => hc⟩
  · have hlen' : ¬ (l.length : Int) = l2.length := by omega
    simp [q1, q2, hlen']
    exact ⟨H, Sub.refl _, hf⟩
theorem isCan05 {H : AH} {K : AV → AH → Prop} {a : AV} {l : List R} (ha : Rr H a l) (hl : l.length ≤ 256) (hk : ∀ bb : Bool, (bb = true → canonF l = l) → K (vb bb) H) : @AC Try.prog 62 [a] H ⟨K⟩ := by
  have l1 := fun k => Rw.lenK ha (k := k)
  have h' : (l.length : Int) ≤ 256 := by omega
  refine AC_of (.forget ?_)
  refine call_c follows cf62_ok (by simp) ?_
  simp [l1, h']
  refine c81 (lb := []) ha (Rw.nil _ _) (by omega) (by simp) fun out H' hro => ?_
  rw [kM1] at hro
  have hro : Row H H' out (flat rc (canonF l)) (canonF l).length 4 := hro
  simp
  refine same05 (Rw.sub ha hro.sub) ((hro.rin (flat_len rc_l _)).rd) (by omega) fun bb hbb => ?_
  simp
  exact ⟨H, hro.sub, hk bb fun h => (hbb h).symm⟩
theorem c44 {H : AH} {K : AV → AH → Prop} {i : It} {a : AV} {l : List R} (hi : It0 H i) (ha : Rr H a l) (hl : l.length ≤ 256) (hk : ∀ bb : Bool, (bb = true → canonF l = l ∧ modF 2 l [⟨0, 0, i.w, i.h⟩] = l) → K (vb bb) H) : @AC Try.prog 44 [.ag (itc i), a] H ⟨K⟩ := by
  have ca := Rw.cells ha
  have oa := Rw.one ha
  have hf : K (vb false) H := hk false fun h => by cases h
  refine AC_of (.forget ?_)
  refine call_c follows cf44_ok (by simp) ?_
  have hil : (itc i).length = 9 := rfl
  simp [hil, oa, ca]
  refine newK_of fun b hb => ?_
  have hS : Sub H (upd H b (.cells (itc i))) := (Sub.refl H).upd hb
  have hbb : upd H b (.cells (itc i)) b = some (.cells [vi i.sf, vi i.cl, vi i.x, vi i.y, vi i.w, vi i.h, i.ap, i.ao, i.ai]) := by simp [upd_apply, itc]
  generalize upd H b (.cells (itc i)) = G at *
  simp [hbb, oa, ca]
  refine c61 i.w i.h fun o1 H1 hs1 ho1 => ?_
  have o1c := Rw.cells ho1
  simp [oa, ca, o1c]
  refine c60 ((ha.sub hS).sub hs1) ho1 (by omega) (by simp) (fun h256 o2 H2 ho2 => ?_) fun h256 => ?_
  · have hr2 : Rr H2 o2 (modF 2 l [⟨0, 0, i.w, i.h⟩]) := (ho2.rin (flat_len rc_l _)).rd
    have hS2 : Sub H H2 := (hS.trans hs1).trans ho2.sub
    have o2c := Rw.cells hr2
    simp [o2c, ca, oa]
    refine isCan05 (ha.sub hS2) hl fun b1 hb1 => ?_
    cases b1 with
    | false =>
      simp
      exact ⟨H, hS2, hf⟩
    | true =>
      simp [o2c, ca, oa]
      refine same05 (ha.sub hS2) hr2 (by omega) fun b2 hb2 => ?_
      simp
      exact ⟨H, hS2, hk b2 fun h => ⟨hb1 rfl, (hb2 h).symm⟩⟩
  · simp
    exact ⟨H, hS.trans hs1, hf⟩

/-- What a valid item is. -/
structure VI (i : It) : Prop where
  sf : 1 ≤ i.sf
  cl : 1 ≤ i.cl
  pos : posOk i.x i.y = true
  buf : bufOk i.w i.h i.px = true
  co : canonF i.lo = i.lo
  mo : modF 2 i.lo [⟨0, 0, i.w, i.h⟩] = i.lo
  ci : canonF i.li = i.li
  mi : modF 2 i.li [⟨0, 0, i.w, i.h⟩] = i.li
theorem c22 {H : AH} {K : AV → AH → Prop} {a : AV} {L : List It} (ha : Its0 H a L) (hl : L.length ≤ 128) (hr : ∀ i ∈ L, i.lo.length ≤ 12 ∧ i.li.length ≤ 12)
    (hk : ∀ b : Bool, (b = true → (∀ i ∈ L, VI i) ∧ L.Pairwise fun x y => x.sf ≠ y.sf) → K (vb b) H) : @AC Try.prog 22 [a] H ⟨K⟩ := by
  have la := fun k => Rw.lenK ha.1 (k := k)
  refine AC_of (.forget ?_)
  refine call_c follows cf22_ok (by simp) ?_
  have hf : K (vb false) H := hk false fun h => by cases h
  have h128 : ¬ (128 : Int) < L.length := by omega
  simp [la, h128]
  refine wpc_loop (fun s => ∃ (i : Nat), s.n = 60 ∧ s.H = H ∧ s.t 0 = a ∧ s.t 3 = vi i ∧ i ≤ L.length ∧ (∀ x ∈ L.take i, VI x) ∧ (L.take i).Pairwise fun x y => x.sf ≠ y.sf) (fun s => L.length - slotN (s.t 3)) ?_ ?_
  · exact FgK.same ⟨0, by simp, by simp, by simp, by simp, by omega, by simp, by simp⟩
  rintro s ⟨i, hn, hH, e0, e3, hi, hall, hpw⟩
  by_cases hlt : i < L.length
  · have wr := IntWalk.i64_in ((i : Int) + 1) (by omega)
    obtain ⟨p, hp1, hp2, _⟩ := iat ha.1 hlt
    have hit := ha.2 _ (List.getElem_mem hlt)
    have hrr := hr _ (List.getElem_mem hlt)
    have et := take_snoc' hlt
    generalize L[i] = x at *
    have hxl : (itc x).length = 9 := rfl
    have hxt : (itc x).take 9 = itc x := rfl
    have hxo : ∀ v ∈ itc x, v.one = true := List.all_eq_true.1 hit.one
    simp (disch := omega) [hn, hH, e0, e3, la, hlt, hp1, hp2]
    refine newK_of fun z hz => ?_
    have hS : Sub H (upd H z (.cells (itc x))) := (Sub.refl H).upd hz
    have cao := Rw.one hit.ao
    have cai := Rw.one hit.ai
    have cap := Rw.one hit.px
    have xao := Rw.cells hit.ao
    have xai := Rw.cells hit.ai
    by_cases d1 : x.sf < 1
    · simp [itc, cao, cai, cap, d1]
      exact ⟨H, hS, hf⟩
    by_cases d2 : x.cl < 1
    · simp [itc, cao, cai, cap, d1, d2]
      exact ⟨H, hS, hf⟩
    simp [itc, cao, cai, cap, d1, d2]
    have hzz : upd H z (.cells (itc x)) z = some (.cells [vi x.sf, vi x.cl, vi x.x, vi x.y, vi x.w, vi x.h, x.ap, x.ao, x.ai]) := by simp [upd_apply, itc]
    have eG : upd H z (.cells [AV.pl (.int .i64 x.sf), AV.pl (.int .i64 x.cl), AV.pl (.int .i64 x.x), AV.pl (.int .i64 x.y), AV.pl (.int .i64 x.w), AV.pl (.int .i64 x.h), x.ap, x.ao, x.ai]) = upd H z (.cells (itc x)) := rfl
    rw [eG]
    clear eG
    generalize upd H z (.cells (itc x)) = G at *
    have hitG := hit.sub hS
    refine c43 hitG ?_
    have hpb : (posOk x.x x.y = true ∧ bufOk x.w x.h x.px = true) ∨ req (bndR x) ⟨0, 0, 0, 0⟩ = true := by
      by_cases h : posOk x.x x.y = true ∧ bufOk x.w x.h x.px = true
      · exact .inl h
      · right; unfold bndR; rw [if_neg h]; rfl
    generalize bndR x = bx at *
    have hz0 : AV.ag [AV.pl (.int .i64 0), AV.pl (.int .i64 0), AV.pl (.int .i64 0), AV.pl (.int .i64 0)] = .ag (rc ⟨0, 0, 0, 0⟩) := rfl
    cases hb0 : req bx ⟨0, 0, 0, 0⟩ with
    | true =>
      simp [hz0, hb0]
      exact ⟨H, hS, hf⟩
    | false =>
      have hpb : posOk x.x x.y = true ∧ bufOk x.w x.h x.px = true := hpb.resolve_right (by simp [hb0])
      simp [hz0, hb0, hzz, cao, cai, cap, xao]
      refine c44 hitG hitG.ao (by omega) fun b1 hb1 => ?_
      cases b1 with
      | false =>
        simp
        exact ⟨H, hS, hf⟩
      | true =>
        simp [hzz, cao, cai, cap, xai]
        refine c44 hitG hitG.ai (by omega) fun b2 hb2 => ?_
        cases b2 with
        | false =>
          simp
          exact ⟨H, hS, hf⟩
        | true =>
          obtain ⟨g1, g2⟩ := hb1 rfl
          obtain ⟨g3, g4⟩ := hb2 rfl
          have hvi : VI x := ⟨by omega, by omega, hpb.1, hpb.2, g1, g2, g3, g4⟩
          simp
          refine wpc_loop (fun s2 => ∃ (k : Nat), s2.n = 60 ∧ s2.H = G ∧ s2.t 0 = a ∧ s2.t 3 = vi i ∧ s2.t 4 = pA z ∧ s2.t 5 = vi k ∧ k ≤ i ∧ ∀ y ∈ L.take k, y.sf ≠ x.sf) (fun s2 => i - slotN (s2.t 5)) ?_ ?_
          · exact FgK.same ⟨0, by simp, by simp, by simp, by simp, by simp, by simp, by omega, by simp⟩
          rintro s2 ⟨k, hn2, hH2, f0, f3, f4, f5, hki, hne⟩
          by_cases hk2 : k < i
          · have hk2' : (k : Int) < i := by omega
            have wk := IntWalk.i64_in ((k : Int) + 1) (by omega)
            have hkL : k < L.length := by omega
            obtain ⟨q, hq1, hq2, ⟨q0, hq3, hq4⟩, _⟩ := iat (ha.1.sub hS) hkL
            have et2 := take_snoc' hkL
            generalize L[k] = y at *
            by_cases hyx : y.sf = x.sf
            · simp (disch := omega) [hn2, hH2, f0, f3, f4, f5, hk2', hq1, hq3, hq4, hzz, hyx]
              exact ⟨H, hS, hf⟩
            · simp (disch := omega) [hn2, hH2, f0, f3, f4, f5, hk2', hq1, hq3, hq4, hzz, hyx, wk]
              refine FgK.same ⟨⟨k + 1, by simp, by simp, by simp, by simp, by simp, by simp, by omega, ?_⟩, by simp [f5]; omega⟩
              rw [et2]
              intro w hw
              rcases List.mem_append.1 hw with hw | hw
              · exact hne w hw
              · rw [List.mem_singleton.1 hw]; exact hyx
          · have hk2' : ¬ (k : Int) < i := by omega
            obtain rfl : k = i := by omega
            simp (disch := omega) [hn2, hH2, f0, f3, f4, f5, hk2', wr]
            refine FgK.of H hS ⟨⟨k + 1, by simp, by simp, by simp, by simp, by omega, ?_, ?_⟩, by simp [e3]; omega⟩
            · rw [et]
              intro w hw
              rcases List.mem_append.1 hw with hw | hw
              · exact hall w hw
              · rw [List.mem_singleton.1 hw]; exact hvi
            · rw [et, List.pairwise_append]
              exact ⟨hpw, List.pairwise_singleton .., fun w hw u hu => by rw [List.mem_singleton.1 hu]; exact hne w hw⟩
  · rw [List.take_of_length_le (by omega)] at hall hpw
    simp (disch := omega) [hn, hH, e0, e3, la, hlt]
    exact ⟨H, Sub.refl _, hk true fun _ => ⟨hall, hpw⟩⟩
end Go.Proofs.Ytmpncpamndhmcaa
end

/-! The guard of the law, walked. Conditions: as each lemma states them. -/
section
namespace Go.Proofs.Ytmpncpamndhmcaa
open Go Go.Ab Go.RowKit
set_option linter.unusedSimpArgs false
set_option linter.unusedVariables false
set_option linter.unnecessarySimpa false

attribute [local simp] condK_true condK_false condK_not wpc_skip wpc_ret wpc_exit wpc_seq wpc_reg wpc_regD testA_bool wpc_cond wpc_block thenA_normal thenA_ret thenA_exit blockA_normal blockA_ret blockA_exit blockA_other endA_normal endA_ret ev_tmp' ev_const ev_func ev_global cv_int cv_bool cv_string cv_pointer cv_slice cv_agg cv_map put_some put_none wH_s setE_apply setE_env less_eq env_cons env_nil upd_upd upd_apply del_apply startA_eq cells_ag cells_sl one_sl cells_vs one_vs cells_ep one_ep cells_fn one_fn cells_int one_int cells_bool one_bool cells_string one_string cells_pointer one_pointer cells_slice one_slice cells_map one_map cells_agg resK_one resK_nil resK_two rvK_t rvK_c rvsK_nil rvsK_cons iseq_nil iseq_cons gdA_true gdA_false gdA_undef istep_free istep_guard istepV_free istepV_guard dseq_nil dseq_pu dseq_rd dseq_ef wpc_regT dtree_nil dtree_pu dtree_rd dtree_ef dtree_br chkAll_nil chkAll_cons andK_true pickK_true pickK_false pickK_tb pickK_fb bin2K_pl eqbK_eq eqbK_ne eqpK_eq eqpK_ne eqmK_eq eqmK_ne eqzK_eq eqzK_ne eqzK_sl eqzK_vs un1K_pl convK_int fillK_some fillA_cons fillA_nil cellsK_some needK_true needK_ok seeK_ep seeK_ptr oneK_agg oneK_one nilcK_ptr nilcK_ep fadrK_ptr fadrK_ep fldK_ag iadAK_ptr iadAK_ep iadSK_sl iadSK_vs extK_0 extK_1 extK_2 extK_3 lenK_pl lenK_sl lenK_vs lensK_pl boxK_some minmax1K_int storeK_ptr callvK_fn callvK_pl newsK_nil newsK_vs newsK_sl appK_nil appK_nil0 appK_sl appK_vs bnd1K_int bndK_none bndK_some slsK_vs slsK_nil slsK_sl0 slsK_sl slstrK_pl boolK_some eqsK_ag iop_eqs iop_sls iop_slstr seesK_some seesK_ro mapsK_some MAP_some findK_some findK_none plK_pl nmapK_none nmapK_some iop_mlook iop_mlen iop_mmk iop_mupd iop_mdel iop_mrng itK_none itK_some ptr0K_ptr iop_mnxt iop_ment it1K_some entK_some iop_mov iop_pick iop_bin iop_eqb iop_eqp iop_eqm iop_eqz iop_un capK_pl capK_sl capK_vs iop_cap apzK_nil iop_apz mksK_int iop_mks clrK_sl clrK_vs clrK_nil iop_clr iop_conv iop_build iop_load iop_nilc iop_fadr iop_fld iop_iadA iop_iadS iop_ext iop_mkf iop_len iop_lens iop_minmax iop_al iop_box iop_bsl iop_store iop_call iop_callv iop_app BIN_add BIN_sub BIN_mul BIN_and BIN_or BIN_xor BIN_andNot BIN_eql BIN_neq BIN_lss BIN_leq BIN_gtr BIN_geq BIN_quo BIN_rem BIN_shl BIN_shr BIN_sadd BIN_seql BIN_sneq BIN_slss BIN_sleq BIN_sgtr BIN_sgeq UN_neg UN_xor UN_not MM_nil MM_cons partsA argsA ptrA lessL eqL min2I slotN_int slotP_int slotI_int
attribute [local simp] rc_len rc_t4 rc_t1 rc_t2 rc_t3 rc_d1 rc_d2 rc_d3 rc_d4 rc_ag rc_one rc_eq

def Sc0 (H : AH) (a : AV) (Ls : List (List It)) : Prop := ∃ cs : List AV, Rw H a cs Ls.length 1 ∧ ∀ i (h : i < cs.length) (h2 : i < Ls.length), Its0 H cs[i] Ls[i] ∧ Ls[i].length ≤ maxLen
theorem Sc0.sub {H H' : AH} {a : AV} {Ls : List (List It)} (h : Sc0 H a Ls) (hs : Sub H H') : Sc0 H' a Ls := by
  obtain ⟨cs, h1, h2⟩ := h
  exact ⟨cs, h1.sub hs, fun i a b => ⟨(h2 i a b).1.sub hs, (h2 i a b).2⟩⟩
/-- A scene that the guard lets in. -/
structure LiS (L : List It) : Prop where
  len : L.length ≤ 8
  vi : ∀ i ∈ L, VI i
  sm : ∀ i ∈ L, i.lo.length ≤ 12 ∧ i.li.length ≤ 12
  nd : L.Pairwise fun x y => x.sf ≠ y.sf
theorem LiS.pos {L : List It} (h : LiS L) : PosL L := fun i hi => ⟨(h.vi i hi).sf, (h.vi i hi).cl⟩
theorem LiS.nil : LiS [] := ⟨by simp, by simp, by simp, by simp⟩
theorem VI.px {i : It} (h : VI i) : i.px.length ≤ 65536 := by
  have h1 := h.buf
  have r := bufOk_rng h1
  unfold bufOk at h1
  simp only [Bool.and_eq_true, decide_eq_true_eq] at h1
  have hm : i.w * i.h ≤ 256 * 256 := Int.mul_le_mul (by omega) (by omega) (by omega) (by omega)
  omega
theorem LiS.its {H : AH} {a : AV} {L : List It} (h : LiS L) (ha : Its0 H a L) : ItsR H a L :=
  ⟨ha.1, fun i hi => ⟨(ha.2 i hi).px, (ha.2 i hi).ao, (ha.2 i hi).ai, by have := (h.vi i hi).px; omega, by have := (h.sm i hi).2; omega⟩⟩
theorem Sc0.ok {H : AH} {a : AV} {Ls : List (List It)} (h : Sc0 H a Ls) (hl : ∀ L ∈ Ls, LiS L) : ScR H a Ls := by
  obtain ⟨cs, h1, h2⟩ := h
  exact ⟨cs, h1, fun i a b => (hl _ (List.getElem_mem b)).its (h2 i a b).1⟩
theorem c7 {H : AH} {K : AV → AH → Prop} {a b : AV} {Ls : List (List It)} {ops : List Op} (ha : Sc0 H a Ls) (hb : Rw H b (flat opc ops) ops.length 11)
    (hk : ∀ bb : Bool, (bb = true → Ls.length ≤ 4 ∧ ops.length ≤ 40 ∧ ∀ L ∈ Ls, LiS L) → K (vb bb) H) : @AC Try.prog 7 [.ag [a, b]] H ⟨K⟩ := by
  obtain ⟨cs, hr, hi⟩ := ha
  have hf : K (vb false) H := hk false fun h => by cases h
  have la := fun k => Rw.lenK hr (k := k)
  have lb := fun k => Rw.lenK hb (k := k)
  have ca := Rw.cells hr
  have cb := Rw.cells hb
  refine AC_of (.forget ?_)
  refine call_c follows cf7_ok (by simp) ?_
  simp [ca, cb]
  refine newK_of fun z hz => ?_
  have hzz : upd H z (.cells [a, b]) z = some (.cells [a, b]) := by simp [upd_apply]
  have hS : Sub H (upd H z (.cells [a, b])) := (Sub.refl H).upd hz
  generalize upd H z (.cells [a, b]) = G at *
  by_cases c1 : Ls.length < 1
  · have c1' : (Ls.length : Int) < 1 := by omega
    simp [hzz, la, c1']
    exact ⟨H, hS, hf⟩
  have c1' : ¬ (Ls.length : Int) < 1 := by omega
  by_cases c2 : 4 < Ls.length
  · have c2' : (4 : Int) < Ls.length := by omega
    simp [hzz, la, c1', c2']
    exact ⟨H, hS, hf⟩
  have c2' : ¬ (4 : Int) < Ls.length := by omega
  by_cases c3 : 40 < ops.length
  · have c3' : (40 : Int) < ops.length := by omega
    simp [hzz, la, lb, c1', c2', c3']
    exact ⟨H, hS, hf⟩
  have c3' : ¬ (40 : Int) < ops.length := by omega
  simp [hzz, la, lb, c1', c2', c3']
  refine wpc_loop (fun s => ∃ (i : Nat), s.n = 52 ∧ s.H = G ∧ s.t 1 = pA z ∧ s.t 3 = vi i ∧ i ≤ Ls.length ∧ ∀ L ∈ Ls.take i, LiS L) (fun s => Ls.length - slotN (s.t 3)) ?_ ?_
  · exact FgK.same ⟨0, by simp, by simp, by simp, by simp, by omega, by simp⟩
  rintro s ⟨i, hn, hH, e1, e3, hil, hall⟩
  by_cases hlt : i < Ls.length
  · have wr := IntWalk.i64_in ((i : Int) + 1) (by omega)
    obtain ⟨p, hp1, hp2⟩ := Rw.see hr hlt
    have hcl : cs.length = Ls.length := by have := hr.1; omega
    have hone : (cs.drop (i * 1)).take 1 = [cs[i]] := by rw [Nat.mul_one, List.drop_eq_getElem_cons (by omega)]; rfl
    have hp3 := hp2 G hS
    rw [hone] at hp3
    obtain ⟨hits, hml⟩ := hi i (by omega) hlt
    have et := take_snoc' hlt
    generalize cs[i] = v at *
    generalize Ls[i] = L at *
    have lv := fun k => Rw.lenK hits.1 (k := k)
    have cv := Rw.cells hits.1
    have ov := Rw.one hits.1
    by_cases d1 : 8 < L.length
    · have d1' : (8 : Int) < L.length := by omega
      simp (disch := omega) [hn, hH, e1, e3, hzz, la, hlt, hp1, hp3, ov, lv, d1']
      exact ⟨H, hS, hf⟩
    have d1' : ¬ (8 : Int) < L.length := by omega
    simp (disch := omega) [hn, hH, e1, e3, hzz, la, hlt, hp1, hp3, ov, cv, lv, d1']
    refine c21 (hits.sub hS) hml fun b1 hb1 => ?_
    cases b1 with
    | false =>
      simp
      exact ⟨H, hS, hf⟩
    | true =>
      obtain ⟨g1, g2⟩ := hb1 rfl
      simp (disch := omega) [hn, hH, e1, e3, hzz, la, hlt, hp1, hp3, ov, cv]
      refine c22 (hits.sub hS) (by omega) g2 fun b2 hb2 => ?_
      cases b2 with
      | false =>
        simp
        exact ⟨H, hS, hf⟩
      | true =>
        obtain ⟨g3, g4⟩ := hb2 rfl
        simp [wr]
        refine FgK.same ⟨⟨i + 1, by simp, by simp, by simp, by simp, by omega, ?_⟩, by simp [e3]; omega⟩
        rw [et]
        intro y hy
        rcases List.mem_append.1 hy with hy | hy
        · exact hall y hy
        · rw [List.mem_singleton.1 hy]; exact ⟨by omega, g3, g2, g4⟩
  · rw [List.take_of_length_le (by omega)] at hall
    simp (disch := omega) [hn, hH, e1, e3, hzz, la, hlt]
    exact ⟨H, hS, hk true fun _ => ⟨by omega, by omega, hall⟩⟩
end Go.Proofs.Ytmpncpamndhmcaa
end

/-! PointerFrames, walked. Conditions: as each lemma states them. -/
section
namespace Go.Proofs.Ytmpncpamndhmcaa
open Go Go.Ab Go.RowKit
set_option linter.unusedSimpArgs false
set_option linter.unusedVariables false
set_option linter.unnecessarySimpa false

attribute [local simp] condK_true condK_false condK_not wpc_skip wpc_ret wpc_exit wpc_seq wpc_reg wpc_regD testA_bool wpc_cond wpc_block thenA_normal thenA_ret thenA_exit blockA_normal blockA_ret blockA_exit blockA_other endA_normal endA_ret ev_tmp' ev_const ev_func ev_global cv_int cv_bool cv_string cv_pointer cv_slice cv_agg cv_map put_some put_none wH_s setE_apply setE_env less_eq env_cons env_nil upd_upd upd_apply del_apply startA_eq cells_ag cells_sl one_sl cells_vs one_vs cells_ep one_ep cells_fn one_fn cells_int one_int cells_bool one_bool cells_string one_string cells_pointer one_pointer cells_slice one_slice cells_map one_map cells_agg resK_one resK_nil resK_two rvK_t rvK_c rvsK_nil rvsK_cons iseq_nil iseq_cons gdA_true gdA_false gdA_undef istep_free istep_guard istepV_free istepV_guard dseq_nil dseq_pu dseq_rd dseq_ef wpc_regT dtree_nil dtree_pu dtree_rd dtree_ef dtree_br chkAll_nil chkAll_cons andK_true pickK_true pickK_false pickK_tb pickK_fb bin2K_pl eqbK_eq eqbK_ne eqpK_eq eqpK_ne eqmK_eq eqmK_ne eqzK_eq eqzK_ne eqzK_sl eqzK_vs un1K_pl convK_int fillK_some fillA_cons fillA_nil cellsK_some needK_true needK_ok seeK_ep seeK_ptr oneK_agg oneK_one nilcK_ptr nilcK_ep fadrK_ptr fadrK_ep fldK_ag iadAK_ptr iadAK_ep iadSK_sl iadSK_vs extK_0 extK_1 extK_2 extK_3 lenK_pl lenK_sl lenK_vs lensK_pl boxK_some minmax1K_int storeK_ptr callvK_fn callvK_pl newsK_nil newsK_vs newsK_sl appK_nil appK_nil0 appK_sl appK_vs bnd1K_int bndK_none bndK_some slsK_vs slsK_nil slsK_sl0 slsK_sl slstrK_pl boolK_some eqsK_ag iop_eqs iop_sls iop_slstr seesK_some seesK_ro mapsK_some MAP_some findK_some findK_none plK_pl nmapK_none nmapK_some iop_mlook iop_mlen iop_mmk iop_mupd iop_mdel iop_mrng itK_none itK_some ptr0K_ptr iop_mnxt iop_ment it1K_some entK_some iop_mov iop_pick iop_bin iop_eqb iop_eqp iop_eqm iop_eqz iop_un capK_pl capK_sl capK_vs iop_cap apzK_nil iop_apz mksK_int iop_mks clrK_sl clrK_vs clrK_nil iop_clr iop_conv iop_build iop_load iop_nilc iop_fadr iop_fld iop_iadA iop_iadS iop_ext iop_mkf iop_len iop_lens iop_minmax iop_al iop_box iop_bsl iop_store iop_call iop_callv iop_app BIN_add BIN_sub BIN_mul BIN_and BIN_or BIN_xor BIN_andNot BIN_eql BIN_neq BIN_lss BIN_leq BIN_gtr BIN_geq BIN_quo BIN_rem BIN_shl BIN_shr BIN_sadd BIN_seql BIN_sneq BIN_slss BIN_sleq BIN_sgtr BIN_sgeq UN_neg UN_xor UN_not MM_nil MM_cons partsA argsA ptrA lessL eqL min2I slotN_int slotP_int slotI_int
attribute [local simp] rc_len rc_t4 rc_t1 rc_t2 rc_t3 rc_d1 rc_d2 rc_d3 rc_d4 rc_ag rc_one rc_eq

theorem items_li {Ls : List (List It)} (h : ∀ L ∈ Ls, LiS L) (o : Op) : LiS (itemsM Ls o) := by
  unfold itemsM
  split
  · exact LiS.nil
  · rename_i hn
    have hlt : o.sc.toNat < Ls.length := by omega
    rw [List.getD_eq_getElem?_getD, List.getElem?_eq_getElem hlt]
    exact h _ (List.getElem_mem hlt)
theorem call_inv {m : PS} {L : List It} (hi : InvF m) (hL : PosL L) (o : Op) : InvF (callM m L o).1 := by
  unfold callM
  repeat' split
  all_goals first | exact hi | exact (feed_Alt hi hL o.e).1 | exact (gone_fs m o.sf hi).1
theorem inv0 : InvF m0 := .inl ⟨rfl, rfl⟩
theorem feed_len (m : PS) (L : List It) (e : Ev) : (feedM m L e).2.1.length ≤ 6 := by
  by_cases h : chkM m e = 0
  · rw [feed_raw h]
    have h1 := rawM_len m L e
    have h2 := grp_len (rawM m L e).2
    simp only
    omega
  · rw [feed_bad h]; simp
theorem call_feed {m : PS} {L : List It} {o : Op} (h : o.kd = 0) : callM m L o = feedM m L o.e := by unfold callM; rw [if_pos h]
theorem samD_iff (a b : Dl) : samD a b = true ↔ a.cl = b.cl ∧ a.sf = b.sf := by simp [samD]
theorem opat {H : AH} {b : AV} {ops : List Op} (h : Rw H b (flat opc ops) ops.length 11) {i : Nat} (hi : i < ops.length) : ∃ p, (∀ k : AV → Prop, @iadSK 11 b (vi i) ⟨k⟩ = k p) ∧ (∀ H', Sub H H' → ∀ k : List AV → Prop, @SEE H' p 11 ⟨k⟩ = k (opc ops[i])) ∧
    (∃ q, (∀ k : AV → Prop, @fadrK 0 p ⟨k⟩ = k q) ∧ ∀ H', Sub H H' → ∀ k : List AV → Prop, @SEE H' q 1 ⟨k⟩ = k [vi ops[i].kd]) ∧ (∃ q, (∀ k : AV → Prop, @fadrK 3 p ⟨k⟩ = k q) ∧ ∀ H', Sub H H' → ∀ k : List AV → Prop, @SEE H' q 1 ⟨k⟩ = k [vi ops[i].sf]) := by
  obtain ⟨p, h1, h2, h3⟩ := fat opc_l h hi
  exact ⟨p, h1, h2, h3 0 _ rfl, h3 3 _ rfl⟩
set_option maxRecDepth 20000 in
theorem c3 {H : AH} {K : AV → AH → Prop} {a b : AV} {Ls : List (List It)} {ops : List Op} (ha : Sc0 H a Ls) (hb : Rw H b (flat opc ops) ops.length 11) (hk : K (vb true) H) :
    @AC Try.prog 3 [.ag [a, b]] H ⟨K⟩ := by
  have oa : a.one = true := by obtain ⟨cs, h1, _⟩ := ha; exact Rw.one h1
  have ob := Rw.one hb
  have ca : a.cells = some [a] := by obtain ⟨cs, h1, _⟩ := ha; exact Rw.cells h1
  have cb := Rw.cells hb
  have lb := fun k => Rw.lenK hb (k := k)
  refine AC_of (.forget ?_)
  refine call_c follows cf3_ok (by simp) ?_
  simp [ca, cb]
  refine newK_of fun z hz => ?_
  have hzz : upd H z (.cells [a, b]) z = some (.cells [a, b]) := by simp [upd_apply]
  have hS : Sub H (upd H z (.cells [a, b])) := (Sub.refl H).upd hz
  simp
  generalize upd H z (.cells [a, b]) = H1 at *
  refine c6 fun B0 hB0 => ?_
  have hz1 := PV_sub hB0 _ _ hzz
  simp [hz1, oa, ob, ca, cb]
  have hS1 := hS.trans (PV_sub hB0)
  refine c7 (ha.sub hS1) (hb.sub hS1) fun bb hbb => ?_
  cases bb with
  | false =>
    simp
    refine c8 ?_
    simp
    exact ⟨H, hS1, hk⟩
  | true =>
    obtain ⟨h4, h40, hli⟩ := hbb rfl
    simp
    refine wpc_loop (fun s => ∃ (i : Nat) (c : Option (Nat × Bool × List AV)) (G : AH) (m : PS), s.n = 143 ∧ s.H = PV G { B0 with ch := c } m ∧ BOk G { B0 with ch := c } m ∧ Sub H1 G ∧ s.t 1 = pA z ∧ s.t 3 = pA B0.p ∧ s.t 5 = vi i ∧ i ≤ ops.length ∧ InvF m) (fun s => ops.length - slotN (s.t 5)) ?_ ?_
    · exact FgK.same ⟨0, B0.ch, H1, m0, by simp, by simp, hB0, Sub.refl _, by simp, by simp, by simp, by omega, inv0⟩
    rintro s ⟨i, c, G, m, hn, hH, hB, hG, e1, e3, e5, hil, hinv⟩
    have hzG : G z = some (.cells [a, b]) := hG _ _ hzz
    have kz := PV_sub hB _ _ hzG
    have hSG : Sub H (PV G { B0 with ch := c } m) := (hS.trans hG).trans (PV_sub hB)
    by_cases hlt : i < ops.length
    · have wr := IntWalk.i64_in ((i : Int) + 1) (by omega)
      obtain ⟨p, hp1, hp2, ⟨p0, hp3, hp4⟩, _⟩ := opat hb hlt
      generalize ops[i] = o at *
      have hol : (opc o).length = 11 := rfl
      simp (disch := omega) [hn, hH, e1, e3, e5, kz, lb, hlt, oa, ob, ca, cb, hp1, hp2 _ hSG]
      refine c10 (ha.ok hli) hSG cb (by omega) fun v hv => ?_
      have hLi := items_li hli o
      generalize itemsM Ls o = L at *
      have ov := Rw.one hv.1
      have cv := Rw.cells hv.1
      simp [ov, cv, kz, ob, hp1, hp2 _ hSG]
      refine c9 (o := o) hB (hv.sub (hS.trans hG)) (by have := hLi.len; omega) fun c2 G2 out h2 hr2 => ?_
      have hinv2 := call_inv hinv hLi.pos o
      have hcf := @call_feed m L o
      have hfg := feed_grp hinv hLi.pos o.e
      have hfl := feed_len m L o.e
      have oc := Rw.cells hr2.rd
      have oo := Rw.one hr2.rd
      have kz2 := PV_sub h2 _ _ (hr2.1 _ _ hzG)
      have hS2 : Sub H (PV G2 { B0 with ch := c2 } (callM m L o).1) := ((hS.trans hG).trans hr2.1).trans (PV_sub h2)
      have hrd := hr2.rd.sub (PV_sub h2)
      have nxt : ∀ s' : ASt, s'.n = 143 → s'.H = PV G2 { B0 with ch := c2 } (callM m L o).1 → s'.t 1 = pA z → s'.t 3 = pA B0.p → s'.t 5 = vi ((i : Int) + 1) → (∃ (i : Nat) (c : Option (Nat × Bool × List AV)) (G : AH) (m : PS), s'.n = 143 ∧ s'.H = PV G { B0 with ch := c } m ∧ BOk G { B0 with ch := c } m ∧ Sub H1 G ∧ s'.t 1 = pA z ∧ s'.t 3 = pA B0.p ∧ s'.t 5 = vi i ∧ i ≤ ops.length ∧ InvF m) :=
        fun s' g1 g2 g3 g4 g5 => ⟨i + 1, c2, G2, _, g1, g2, h2, hG.trans hr2.1, g3, g4, by rw [g5]; rfl, by omega, hinv2⟩
      generalize (callM m L o).1 = M2 at *
      have hres : o.kd = 0 → ∃ l : List Dl, (callM m L o).2.1 = grpL l ∧ (∀ d ∈ l, d.kd ≠ 6) ∧ (grpL l).length ≤ 6 := fun h => by
        obtain ⟨l, q1, q2⟩ := hfg
        rw [hcf h, q1]
        rw [q1] at hfl
        exact ⟨l, rfl, q2, hfl⟩
      generalize (callM m L o).2.1 = O2 at *
      generalize PV G2 { B0 with ch := c2 } M2 = HH at *
      have hp4' := hp4 HH hS2
      simp [oc, oo, kz2, ob, hp1, hp3, hp4']
      by_cases hk0 : o.kd = 0
      · have key : (∀ k (h : k + 1 < O2.length), PairOk O2[k] O2[k + 1]) ∧ (∀ h : 0 < O2.length, O2[0].kd ≠ 6) ∧ (∀ k (h : k < O2.length), k + 1 = O2.length → O2[k].kd = 6) ∧ O2.length ≤ 6 := by
          obtain ⟨l, hOl, hl6, hlen6⟩ := hres hk0
          subst hOl
          exact ⟨fun k h => grp_pairs l hl6 k h, fun h => grp_first l hl6 h, fun k h => grp_last l k h, hlen6⟩
        obtain ⟨hpair, hfirst, hlast, hlen6⟩ := key
        have lo := fun k => Rw.lenK hrd (k := k)
        simp [hk0]
        refine wpc_loop (fun s2 => ∃ (k : Nat), s2.n = 143 ∧ s2.H = HH ∧ s2.t 1 = pA z ∧ s2.t 3 = pA B0.p ∧ s2.t 5 = vi i ∧ s2.t 6 = out ∧ s2.t 8 = vi k ∧ k ≤ O2.length) (fun s2 => O2.length - slotN (s2.t 8)) ?_ ?_
        · exact FgK.same ⟨0, by simp, by simp, by simp, by simp, by simp, by simp, by simp, by omega⟩
        rintro s2 ⟨k, hn2, hH2, f1, f3, f5, f6, f8, hko⟩
        by_cases hk2 : k < O2.length
        · have wk := IntWalk.i64_in ((k : Int) + 1) (by omega)
          have wk0 := IntWalk.i64_in (k : Int) (by omega)
          have wk1 := IntWalk.i64_in ((k : Int) - 1) (by omega)
          have wo1 := IntWalk.i64_in ((O2.length : Int) - 1) (by omega)
          obtain ⟨q, q1, q2, ⟨q3, q4, q5⟩, ⟨q6, q7, q8⟩, ⟨q9, q10, q11⟩, _⟩ := dread hrd hk2 (n := (k : Int)) rfl
          have hprev : O2[k].kd = 6 → k ≠ 0 ∧ ∃ e r, e.kd ≠ 6 ∧ O2[k] = frD e ∧ (∀ kk : AV → Prop, @iadSK 9 out (vi ((k : Int) - 1)) ⟨kk⟩ = kk r) ∧
              (∃ q, (∀ k : AV → Prop, @fadrK 0 r ⟨k⟩ = k q) ∧ ∀ k : List AV → Prop, @SEE HH q 1 ⟨k⟩ = k [vi e.cl]) ∧ (∃ q, (∀ k : AV → Prop, @fadrK 1 r ⟨k⟩ = k q) ∧ ∀ k : List AV → Prop, @SEE HH q 1 ⟨k⟩ = k [vi e.sf]) ∧
              (∃ q, (∀ k : AV → Prop, @fadrK 2 r ⟨k⟩ = k q) ∧ ∀ k : List AV → Prop, @SEE HH q 1 ⟨k⟩ = k [vi e.kd]) := fun hd6 => by
            have hk0' : k ≠ 0 := by
              rintro rfl
              exact hfirst (by omega) hd6
            obtain ⟨g1, g2⟩ := hpair (k - 1) (by omega)
            have hpk : O2[k - 1 + 1] = O2[k] := by congr 1; omega
            rw [hpk] at g1
            obtain ⟨g3, g4⟩ := g1 hd6
            obtain ⟨r, r1, r2, r3, r6, r9, _⟩ := dread hrd (i := k - 1) (by omega) (n := (k : Int) - 1) (by omega)
            exact ⟨hk0', O2[k - 1], r, g3, g4, r1, r3, r6, r9⟩
          have hcase : (O2[k].kd = 6 ∧ k + 1 = O2.length) ∨ (O2[k].kd = 6 ∧ k + 1 ≠ O2.length) ∨ O2[k].kd ≠ 6 := by
            by_cases h1 : O2[k].kd = 6
            · by_cases h2 : k + 1 = O2.length
              · exact .inl ⟨h1, h2⟩
              · exact .inr (.inl ⟨h1, h2⟩)
            · exact .inr (.inr h1)
          rcases hcase with ⟨hd6, hlastk⟩ | ⟨hd6, hlastk⟩ | hd6
          case' inl =>
            obtain ⟨hk0', e, r, g3, g4, r1, ⟨r3, r4, r5⟩, ⟨r6, r7, r8⟩, r9, r10, r11⟩ := hprev hd6
            have hk00 : ¬ (k : Int) = 0 := by omega
            have hl1 : (k : Int) = (O2.length : Int) - 1 := by omega
            clear hprev
            generalize O2[k] = d at *
            subst g4
            simp (disch := omega) [hn2, hH2, f1, f3, f5, f6, f8, lo, hk2, q1, q10, q11, wo1, hd6, ← hl1, hk00, hk0', wk0, wk1, r1, r10, r11, g3, q2, r4, r5, r7, r8, dlc, frD, wk]
          case' inr.inl =>
            obtain ⟨hk0', e, r, g3, g4, r1, ⟨r3, r4, r5⟩, ⟨r6, r7, r8⟩, r9, r10, r11⟩ := hprev hd6
            have hk00 : ¬ (k : Int) = 0 := by omega
            have hl1 : ¬ (k : Int) = (O2.length : Int) - 1 := by omega
            have hkn : k + 1 < O2.length := by omega
            have hsn : ¬ (O2[k].cl = O2[k + 1].cl ∧ O2[k].sf = O2[k + 1].sf) := fun h => (hpair k hkn).2.1 ((samD_iff _ _).2 h) hd6
            obtain ⟨t, t1, t2, ⟨t3, t4, t5⟩, ⟨t6, t7, t8⟩, ⟨t9, t10, t11⟩, _⟩ := dread hrd hkn (n := (k : Int) + 1) (by omega)
            clear hprev
            generalize O2[k + 1] = n at *
            generalize O2[k] = d at *
            subst g4
            simp (disch := omega) [hn2, hH2, f1, f3, f5, f6, f8, lo, hk2, q1, q10, q11, wo1, hd6, hl1, hk00, hk0', wk0, wk1, wk, r1, r10, r11, g3, q2, r4, r5, r7, r8, q4, q5, q7, q8, t1, t4, t5, t7, t8, dlc, frD]
            have hsn' : ¬ (e.cl = n.cl ∧ e.sf = n.sf) := hsn
            by_cases hc : e.cl = n.cl
            case' pos =>
              have hsf : ¬ e.sf = n.sf := fun h => hsn' ⟨hc, h⟩
              simp [hc, hsf, q1, q7, q8, t1, t7, t8, frD, wk]
            case' neg =>
              simp [hc, wk]
          case' inr.inr =>
            have hlk : k + 1 ≠ O2.length := fun h => hd6 (hlast k hk2 h)
            have hl1 : ¬ (k : Int) = (O2.length : Int) - 1 := by omega
            have hkn : k + 1 < O2.length := by omega
            obtain ⟨hs1, hs2⟩ := (samD_iff _ _).1 ((hpair k hkn).2.2 hd6)
            obtain ⟨t, t1, t2, ⟨t3, t4, t5⟩, ⟨t6, t7, t8⟩, ⟨t9, t10, t11⟩, _⟩ := dread hrd hkn (n := (k : Int) + 1) (by omega)
            clear hprev
            generalize O2[k + 1] = n at *
            generalize O2[k] = d at *
            simp (disch := omega) [hn2, hH2, f1, f3, f5, f6, f8, lo, hk2, q1, q10, q11, wo1, hd6, hl1, wk, q4, q5, q7, q8, t1, t4, t5, t7, t8, hs1, hs2]
          all_goals
            exact FgK.same ⟨⟨k + 1, by simp, by simp, by simp, by simp, by simp, by simp, by simp, by omega⟩, by simp [f8]; omega⟩
        · simp (disch := omega) [hn2, hH2, f1, f3, f5, f6, f8, lo, hk2, wr]
          refine FgK.same ⟨nxt _ ?_ ?_ ?_ ?_ ?_, ?_⟩ <;> simp [e5]
          omega
      · simp [hk0, wr]
        refine FgK.same ⟨nxt _ ?_ ?_ ?_ ?_ ?_, ?_⟩ <;> simp [e5]
        omega
    · simp (disch := omega) [hn, hH, e1, e3, e5, kz, lb, hlt, oa, ob]
      refine c8 ?_
      simp
      exact ⟨H, hSG, hk⟩
end Go.Proofs.Ytmpncpamndhmcaa
end

/-! The rows' argument: scenes and calls. No conditions. -/
section
namespace Go.Proofs.Ytmpncpamndhmcaa
open Go Go.Ab Go.RowKit
set_option linter.unusedSimpArgs false
set_option linter.unusedVariables false
set_option linter.unnecessarySimpa false

attribute [local simp] condK_true condK_false condK_not wpc_skip wpc_ret wpc_exit wpc_seq wpc_reg wpc_regD testA_bool wpc_cond wpc_block thenA_normal thenA_ret thenA_exit blockA_normal blockA_ret blockA_exit blockA_other endA_normal endA_ret ev_tmp' ev_const ev_func ev_global cv_int cv_bool cv_string cv_pointer cv_slice cv_agg cv_map put_some put_none wH_s setE_apply setE_env less_eq env_cons env_nil upd_upd upd_apply del_apply startA_eq cells_ag cells_sl one_sl cells_vs one_vs cells_ep one_ep cells_fn one_fn cells_int one_int cells_bool one_bool cells_string one_string cells_pointer one_pointer cells_slice one_slice cells_map one_map cells_agg resK_one resK_nil resK_two rvK_t rvK_c rvsK_nil rvsK_cons iseq_nil iseq_cons gdA_true gdA_false gdA_undef istep_free istep_guard istepV_free istepV_guard dseq_nil dseq_pu dseq_rd dseq_ef wpc_regT dtree_nil dtree_pu dtree_rd dtree_ef dtree_br chkAll_nil chkAll_cons andK_true pickK_true pickK_false pickK_tb pickK_fb bin2K_pl eqbK_eq eqbK_ne eqpK_eq eqpK_ne eqmK_eq eqmK_ne eqzK_eq eqzK_ne eqzK_sl eqzK_vs un1K_pl convK_int fillK_some fillA_cons fillA_nil cellsK_some needK_true needK_ok seeK_ep seeK_ptr oneK_agg oneK_one nilcK_ptr nilcK_ep fadrK_ptr fadrK_ep fldK_ag iadAK_ptr iadAK_ep iadSK_sl iadSK_vs extK_0 extK_1 extK_2 extK_3 lenK_pl lenK_sl lenK_vs lensK_pl boxK_some minmax1K_int storeK_ptr callvK_fn callvK_pl newsK_nil newsK_vs newsK_sl appK_nil appK_nil0 appK_sl appK_vs bnd1K_int bndK_none bndK_some slsK_vs slsK_nil slsK_sl0 slsK_sl slstrK_pl boolK_some eqsK_ag iop_eqs iop_sls iop_slstr seesK_some seesK_ro mapsK_some MAP_some findK_some findK_none plK_pl nmapK_none nmapK_some iop_mlook iop_mlen iop_mmk iop_mupd iop_mdel iop_mrng itK_none itK_some ptr0K_ptr iop_mnxt iop_ment it1K_some entK_some iop_mov iop_pick iop_bin iop_eqb iop_eqp iop_eqm iop_eqz iop_un capK_pl capK_sl capK_vs iop_cap apzK_nil iop_apz mksK_int iop_mks clrK_sl clrK_vs clrK_nil iop_clr iop_conv iop_build iop_load iop_nilc iop_fadr iop_fld iop_iadA iop_iadS iop_ext iop_mkf iop_len iop_lens iop_minmax iop_al iop_box iop_bsl iop_store iop_call iop_callv iop_app BIN_add BIN_sub BIN_mul BIN_and BIN_or BIN_xor BIN_andNot BIN_eql BIN_neq BIN_lss BIN_leq BIN_gtr BIN_geq BIN_quo BIN_rem BIN_shl BIN_shr BIN_sadd BIN_seql BIN_sneq BIN_slss BIN_sleq BIN_sgtr BIN_sgeq UN_neg UN_xor UN_not MM_nil MM_cons partsA argsA ptrA lessL eqL min2I slotN_int slotP_int slotI_int

abbrev pxL : List Lf := [.i .u8, .i .u8, .i .u8, .i .u8]
abbrev rcL : List Lf := [.i .i64, .i .i64, .i .i64, .i .i64]
abbrev itL : List Lf := [.i .i64, .i .i64, .i .i64, .i .i64, .i .i64, .i .i64, .sl pxL, .sl rcL, .sl rcL]
abbrev opL : List Lf := [.i .i64, .i .i64, .i .i64, .i .i64, .i .i64, .i .i64, .i .i64, .i .i64, .i .i64, .i .i64, .i .i64]
theorem flat_sing {E : Type} (f : E → AV) (l : List E) : (l.map fun p => [f p]).flatten = l.map f := by
  induction l with
  | nil => rfl
  | cons p l ih => simp only [List.map_cons, List.flatten_cons, ih]; rfl
theorem fitPx {a : AV} (h : Fit (.sl pxL) a) : ∃ l : List Px, ∀ H, Rw H a (flat pxc l) l.length 4 := by
  obtain ⟨n, cs, rfl, hn, hl, hf⟩ := h.sl_inv
  obtain ⟨l, h1, h2⟩ := FitL.elems (enc := pxc) (by decide) (fun cs h => by
    obtain ⟨_, _, rfl, h0, h⟩ := h.cons_inv
    obtain ⟨_, _, rfl, h1, h⟩ := h.cons_inv
    obtain ⟨_, _, rfl, h2, h⟩ := h.cons_inv
    obtain ⟨_, _, rfl, h3, h⟩ := h.cons_inv
    obtain rfl := h.nil_inv
    obtain ⟨a, rfl, _⟩ := h0.i_inv
    obtain ⟨b, rfl, _⟩ := h1.i_inv
    obtain ⟨c, rfl, _⟩ := h2.i_inv
    obtain ⟨d, rfl, _⟩ := h3.i_inv
    exact ⟨⟨a, b, c, d⟩, rfl⟩) n cs hl hf
  subst h1; subst h2
  exact ⟨l, fun H => Rw.vs H (flat_len pxc_l l)⟩
theorem fitRs {a : AV} (h : Fit (.sl rcL) a) : ∃ l : List R, ∀ H, Rr H a l := by
  obtain ⟨n, cs, rfl, hn, hl, hf⟩ := h.sl_inv
  obtain ⟨l, h1, h2⟩ := FitL.elems (enc := rc) (by decide) (fun cs h => by
    obtain ⟨_, _, rfl, h0, h⟩ := h.cons_inv
    obtain ⟨_, _, rfl, h1, h⟩ := h.cons_inv
    obtain ⟨_, _, rfl, h2, h⟩ := h.cons_inv
    obtain ⟨_, _, rfl, h3, h⟩ := h.cons_inv
    obtain rfl := h.nil_inv
    obtain ⟨a, rfl, _⟩ := h0.i_inv
    obtain ⟨b, rfl, _⟩ := h1.i_inv
    obtain ⟨c, rfl, _⟩ := h2.i_inv
    obtain ⟨d, rfl, _⟩ := h3.i_inv
    exact ⟨⟨a, b, c, d⟩, rfl⟩) n cs hl hf
  subst h1; subst h2
  exact ⟨l, fun H => Rw.vs H (flat_len rc_l l)⟩
theorem fitIts {a : AV} (h : Fit (.sl itL) a) : ∃ L : List It, (∀ H, Its0 H a L) ∧ L.length ≤ maxLen := by
  obtain ⟨n, cs, rfl, hn, hl, hf⟩ := h.sl_inv
  obtain ⟨l, h1, h2⟩ := FitL.elems (E := { i : It // ∀ H, It0 H i }) (enc := fun i => itc i.1) (by decide) (fun cs h => by
    obtain ⟨_, _, rfl, h0, h⟩ := h.cons_inv
    obtain ⟨_, _, rfl, h1, h⟩ := h.cons_inv
    obtain ⟨_, _, rfl, h2, h⟩ := h.cons_inv
    obtain ⟨_, _, rfl, h3, h⟩ := h.cons_inv
    obtain ⟨_, _, rfl, h4, h⟩ := h.cons_inv
    obtain ⟨_, _, rfl, h5, h⟩ := h.cons_inv
    obtain ⟨ap, _, rfl, h6, h⟩ := h.cons_inv
    obtain ⟨ao, _, rfl, h7, h⟩ := h.cons_inv
    obtain ⟨ai, _, rfl, h8, h⟩ := h.cons_inv
    obtain rfl := h.nil_inv
    obtain ⟨a0, rfl, _⟩ := h0.i_inv
    obtain ⟨a1, rfl, _⟩ := h1.i_inv
    obtain ⟨a2, rfl, _⟩ := h2.i_inv
    obtain ⟨a3, rfl, _⟩ := h3.i_inv
    obtain ⟨a4, rfl, _⟩ := h4.i_inv
    obtain ⟨a5, rfl, _⟩ := h5.i_inv
    obtain ⟨px, hpx⟩ := fitPx h6
    obtain ⟨lo, hlo⟩ := fitRs h7
    obtain ⟨li, hli⟩ := fitRs h8
    exact ⟨⟨⟨a0, a1, a2, a3, a4, a5, ap, ao, ai, px, lo, li⟩, fun H => ⟨hpx H, hlo H, hli H⟩⟩, rfl⟩) n cs hl hf
  subst h1; subst h2
  refine ⟨l.map (·.1), fun H => ⟨?_, fun i hi => ?_⟩, by simpa using hn⟩
  · have e : flat itc (l.map (·.1)) = (l.map fun i => itc i.1).flatten := by simp [flat, Function.comp_def]
    rw [e]
    have := Rw.vs H (n := l.length) (sz := 9) (f := false) (cs := (l.map fun i => itc i.1).flatten) (by rw [← e, flat_len itc_l, List.length_map])
    simpa using this
  · obtain ⟨x, _, rfl⟩ := List.mem_map.1 hi
    exact x.2 H
theorem fitScs {a : AV} (h : Fit (.sl [.sl itL]) a) : ∃ Ls : List (List It), ∀ H, Sc0 H a Ls := by
  obtain ⟨n, cs, rfl, hn, hl, hf⟩ := h.sl_inv
  obtain ⟨l, h1, h2⟩ := FitL.elems (E := { p : AV × List It // (∀ H, Its0 H p.1 p.2) ∧ p.2.length ≤ maxLen }) (enc := fun p => [p.1.1]) (by decide) (fun cs h => by
    obtain ⟨v, _, rfl, h0, h⟩ := h.cons_inv
    obtain rfl := h.nil_inv
    obtain ⟨L, hL, hm⟩ := fitIts h0
    exact ⟨⟨(v, L), hL, hm⟩, rfl⟩) n cs hl hf
  subst h1; subst h2
  have e : (l.map fun p => [p.1.1]).flatten = l.map fun p => p.1.1 := flat_sing (fun p => p.1.1) l
  refine ⟨l.map (·.1.2), fun H => ⟨l.map fun p => p.1.1, ?_, fun i h1 h2 => ?_⟩⟩
  · rw [← e]
    have := Rw.vs H (n := l.length) (sz := 1) (f := false) (cs := (l.map fun p => [p.1.1]).flatten) (by rw [e]; simp)
    simpa using this
  · simp only [List.getElem_map]
    exact ⟨(l[i]'(by simpa using h1)).2.1 H, (l[i]'(by simpa using h1)).2.2⟩
theorem fitOps {a : AV} (h : Fit (.sl opL) a) : ∃ l : List Op, ∀ H, Rw H a (flat opc l) l.length 11 := by
  obtain ⟨n, cs, rfl, hn, hl, hf⟩ := h.sl_inv
  obtain ⟨l, h1, h2⟩ := FitL.elems (enc := opc) (by decide) (fun cs h => by
    obtain ⟨_, _, rfl, h0, h⟩ := h.cons_inv
    obtain ⟨_, _, rfl, h1, h⟩ := h.cons_inv
    obtain ⟨_, _, rfl, h2, h⟩ := h.cons_inv
    obtain ⟨_, _, rfl, h3, h⟩ := h.cons_inv
    obtain ⟨_, _, rfl, h4, h⟩ := h.cons_inv
    obtain ⟨_, _, rfl, h5, h⟩ := h.cons_inv
    obtain ⟨_, _, rfl, h6, h⟩ := h.cons_inv
    obtain ⟨_, _, rfl, h7, h⟩ := h.cons_inv
    obtain ⟨_, _, rfl, h8, h⟩ := h.cons_inv
    obtain ⟨_, _, rfl, h9, h⟩ := h.cons_inv
    obtain ⟨_, _, rfl, h10, h⟩ := h.cons_inv
    obtain rfl := h.nil_inv
    obtain ⟨a0, rfl, _⟩ := h0.i_inv
    obtain ⟨a1, rfl, _⟩ := h1.i_inv
    obtain ⟨a2, rfl, _⟩ := h2.i_inv
    obtain ⟨a3, rfl, _⟩ := h3.i_inv
    obtain ⟨a4, rfl, _⟩ := h4.i_inv
    obtain ⟨a5, rfl, _⟩ := h5.i_inv
    obtain ⟨a6, rfl, _⟩ := h6.i_inv
    obtain ⟨a7, rfl, _⟩ := h7.i_inv
    obtain ⟨a8, rfl, _⟩ := h8.i_inv
    obtain ⟨a9, rfl, _⟩ := h9.i_inv
    obtain ⟨a10, rfl, _⟩ := h10.i_inv
    exact ⟨⟨a0, a1, a2, a3, a4, ⟨a5, a6, a7, a8, a9, a10⟩⟩, rfl⟩) n cs hl hf
  subst h1; subst h2
  exact ⟨l, fun H => Rw.vs H (flat_len opc_l l)⟩
theorem fitSet {a : AV} (h : FitT true [.sl [.sl itL], .sl opL] a) : ∃ (v w : AV) (Ls : List (List It)) (ops : List Op), a = .ag [v, w] ∧ (∀ H, Sc0 H v Ls) ∧ ∀ H, Rw H w (flat opc ops) ops.length 11 := by
  obtain ⟨cs, rfl, h⟩ := h
  obtain ⟨v, _, rfl, h0, h⟩ := h.cons_inv
  obtain ⟨w, _, rfl, h1, h⟩ := h.cons_inv
  obtain rfl := h.nil_inv
  obtain ⟨Ls, hLs⟩ := fitScs h0
  obtain ⟨ops, hops⟩ := fitOps h1
  exact ⟨v, w, Ls, ops, rfl, hLs, hops⟩
theorem law_PointerFrames (xs : List AV) (hf : FitsT [(true, [.sl [.sl itL], .sl opL])] xs) : ACall Try.prog 3 xs (fun _ => none) (fun v _ => v = vb true) := by
  obtain ⟨a, rfl, h⟩ := hf.one
  obtain ⟨v, w, Ls, ops, rfl, h1, h2⟩ := fitSet h
  exact c3 (h1 _) (h2 _) rfl
end Go.Proofs.Ytmpncpamndhmcaa
end
