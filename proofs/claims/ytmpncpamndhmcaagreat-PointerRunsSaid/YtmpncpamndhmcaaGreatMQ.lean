/-
  Several texts in one: P24; P25; P26; P27; P28; P29; P31; P36; P37; P40; P35; P39. Conditions: as each lemma states them.
-/
import Derived.Test.YtmpncpamndhmcaaGreatMP
import Derived.Test.YtmpncpamndhmcaaGreatMW
import Derived.Test.YtmpncpamndhmcaaGreatShelf
import Derived.Test.YtmpncpamndhmcaaGreatAbS
open Go Go.Ab Go.RowKit
set_option linter.unusedSimpArgs false
set_option linter.unusedVariables false
set_option linter.unnecessarySimpa false
attribute [local simp] condK_true condK_false condK_not wpc_skip wpc_ret wpc_exit wpc_seq wpc_reg wpc_regD testA_bool wpc_cond wpc_block thenA_normal thenA_ret thenA_exit blockA_normal blockA_ret blockA_exit blockA_other endA_normal endA_ret ev_tmp' ev_const ev_func ev_global cv_int cv_bool cv_string cv_pointer cv_slice cv_agg cv_map put_some put_none wH_s setE_apply setE_env less_eq env_cons env_nil upd_upd upd_apply del_apply startA_eq cells_ag cells_sl one_sl cells_vs one_vs cells_ep one_ep cells_fn one_fn cells_int one_int cells_bool one_bool cells_string one_string cells_pointer one_pointer cells_slice one_slice cells_map one_map cells_agg resK_one resK_nil resK_two rvK_t rvK_c rvsK_nil rvsK_cons iseq_nil iseq_cons gdA_true gdA_false gdA_undef istep_free istep_guard istepV_free istepV_guard dseq_nil dseq_pu dseq_rd dseq_ef wpc_regT dtree_nil dtree_pu dtree_rd dtree_ef dtree_br chkAll_nil chkAll_cons andK_true pickK_true pickK_false pickK_tb pickK_fb bin2K_pl eqbK_eq eqbK_ne eqpK_eq eqpK_ne eqmK_eq eqmK_ne eqzK_eq eqzK_ne eqzK_sl eqzK_vs un1K_pl convK_int fillK_some fillA_cons fillA_nil cellsK_some needK_true needK_ok seeK_ep seeK_ptr oneK_agg oneK_one nilcK_ptr nilcK_ep fadrK_ptr fadrK_ep fldK_ag iadAK_ptr iadAK_ep iadSK_sl iadSK_vs extK_0 extK_1 extK_2 extK_3 lenK_pl lenK_sl lenK_vs lensK_pl boxK_some minmax1K_int storeK_ptr callvK_fn callvK_pl newsK_nil newsK_vs newsK_sl appK_nil appK_nil0 appK_sl appK_vs bnd1K_int bndK_none bndK_some slsK_vs slsK_nil slsK_sl0 slsK_sl slstrK_pl boolK_some eqsK_ag iop_eqs iop_sls iop_slstr seesK_some seesK_ro mapsK_some MAP_some findK_some findK_none plK_pl nmapK_none nmapK_some iop_mlook iop_mlen iop_mmk iop_mupd iop_mdel iop_mrng itK_none itK_some ptr0K_ptr iop_mnxt iop_ment it1K_some entK_some iop_mov iop_pick iop_bin iop_eqb iop_eqp iop_eqm iop_eqz iop_un capK_pl capK_sl capK_vs iop_cap apzK_nil iop_apz mksK_int iop_mks clrK_sl clrK_vs clrK_nil iop_clr iop_conv iop_build iop_load iop_nilc iop_fadr iop_fld iop_iadA iop_iadS iop_ext iop_mkf iop_len iop_lens iop_minmax iop_al iop_box iop_bsl iop_store iop_call iop_callv iop_app BIN_add BIN_sub BIN_mul BIN_and BIN_or BIN_xor BIN_andNot BIN_eql BIN_neq BIN_lss BIN_leq BIN_gtr BIN_geq BIN_quo BIN_rem BIN_shl BIN_shr BIN_sadd BIN_seql BIN_sneq BIN_slss BIN_sleq BIN_sgtr BIN_sgeq UN_neg UN_xor UN_not MM_nil MM_cons partsA argsA ptrA lessL eqL min2I slotN_int slotP_int slotI_int
/-! Light scenes, walked: what the guard of the law lets in. Conditions: as each lemma states them. -/
section
namespace Go.Proofs.YtmpncpamndhmcaaGreat
open Go Go.Ab Go.RowKit

attribute [local simp] rc_len rc_t4 rc_t1 rc_t2 rc_t3 rc_d1 rc_d2 rc_d3 rc_d4 rc_ag rc_one rc_eq

structure It0 (H : AH) (i : It) : Prop where
  px : Rw H i.ap (flat pxc i.px) i.px.length 4
  ao : Rr H i.ao i.lo
  ai : Rr H i.ai i.li
theorem It0.sub {H H' : AH} {i : It} (h : It0 H i) (hs : Sub H H') : It0 H' i := ⟨h.px.sub hs, h.ao.sub hs, h.ai.sub hs⟩
theorem It0.one {H : AH} {i : It} (h : It0 H i) : (itc i).all AV.one = true := by
  have h1 := Rw.one h.px
  have h2 := Rw.one h.ao
  have h3 := Rw.one h.ai
  simp [itc, h1, h2, h3]
def Its0 (H : AH) (a : AV) (L : List It) : Prop := Rw H a (flat itc L) L.length 9 ∧ ∀ i ∈ L, It0 H i
theorem Its0.sub {H H' : AH} {a : AV} {L : List It} (h : Its0 H a L) (hs : Sub H H') : Its0 H' a L := ⟨h.1.sub hs, fun i hi => (h.2 i hi).sub hs⟩
theorem iat {H : AH} {a : AV} {L : List It} (h : Rw H a (flat itc L) L.length 9) {i : Nat} (hi : i < L.length) : ∃ p, (∀ k : AV → Prop, @iadSK 9 a (vi i) ⟨k⟩ = k p) ∧ (∀ k : List AV → Prop, @SEE H p 9 ⟨k⟩ = k (itc L[i])) ∧
    (∃ q, (∀ k : AV → Prop, @fadrK 0 p ⟨k⟩ = k q) ∧ ∀ k : List AV → Prop, @SEE H q 1 ⟨k⟩ = k [vi L[i].sf]) ∧ (∃ q, (∀ k : AV → Prop, @fadrK 7 p ⟨k⟩ = k q) ∧ ∀ k : List AV → Prop, @SEE H q 1 ⟨k⟩ = k [L[i].ao]) ∧
    (∃ q, (∀ k : AV → Prop, @fadrK 8 p ⟨k⟩ = k q) ∧ ∀ k : List AV → Prop, @SEE H q 1 ⟨k⟩ = k [L[i].ai]) ∧ ∃ q q2, (∀ k : AV → Prop, @fadrK 4 p ⟨k⟩ = k q) ∧ (∀ k : AV → Prop, @fadrK 2 q ⟨k⟩ = k q2) ∧ ∀ k : List AV → Prop, @SEE H q2 1 ⟨k⟩ = k [L[i].ap] := by
  obtain ⟨p, h1, h2⟩ := h.idx hi
  have e := flat_drop itc_l L i hi
  rw [e] at h2
  have hl : (itc L[i]).length = 9 := rfl
  have g : ∀ off v, off < 9 → (itc L[i])[off]? = some v → ∃ q, (∀ kk : AV → Prop, @fadrK off p ⟨kk⟩ = kk q) ∧ ∀ kk : List AV → Prop, @SEE H q 1 ⟨kk⟩ = kk [v] := fun off v ho hv => by
    obtain ⟨q, h3, h4⟩ := h2.fadr (off := off) (by rw [List.length_append]; omega)
    refine ⟨q, h3, fun kk => ?_⟩
    rw [h4.see (by rw [List.length_drop, List.length_append]; omega), List.drop_append_of_le_length (by omega), List.drop_eq_getElem_cons (by omega)]
    have : (itc L[i])[off] = v := (List.getElem?_eq_some_iff.1 hv).2
    subst this
    rfl
  refine ⟨p, h1, fun k => ?_, g 0 _ (by decide) rfl, g 7 _ (by decide) rfl, g 8 _ (by decide) rfl, ?_⟩
  · rw [h2.see (by rw [List.length_append]; omega), List.take_append_of_le_length (by omega), List.take_of_length_le (by omega)]
  · obtain ⟨q, h3, h4⟩ := h2.fadr (off := 4) (by rw [List.length_append]; omega)
    obtain ⟨q2, h5, h6⟩ := h4.fadr (off := 2) (by rw [List.length_drop, List.length_append]; omega)
    refine ⟨q, q2, h3, h5, fun k => ?_⟩
    rw [h6.see (by simp only [List.length_drop, List.length_append]; omega)]
    rfl
theorem c29 {H : AH} {K : AV → AH → Prop} {a : AV} {L : List It} (ha : Its0 H a L) (hm : L.length ≤ maxLen) (hk : ∀ b : Bool, (b = true → L.length ≤ 140 ∧ ∀ i ∈ L, i.lo.length ≤ 12 ∧ i.li.length ≤ 12) → K (vb b) H) : @AC Tryz.prog 29 [a] H ⟨K⟩ := by
  have la := fun k => Rw.lenK ha.1 (k := k)
  refine AC_of (.forget ?_)
  refine call_c follows cf29_ok (by simp) ?_
  have hf : K (vb false) H := hk false fun h => by cases h
  by_cases h140 : 140 < L.length
  · have : (140 : Int) < L.length := by omega
    simp [la, this]
    exact ⟨H, Sub.refl _, hf⟩
  have h140' : ¬ (140 : Int) < L.length := by omega
  simp [la, h140']
  refine wpc_loop (fun s => ∃ (i : Nat) (n : Int), s.n = 43 ∧ s.H = H ∧ s.t 0 = a ∧ s.t 3 = vi n ∧ s.t 4 = vi i ∧ i ≤ L.length ∧ ∀ x ∈ L.take i, x.lo.length ≤ 12 ∧ x.li.length ≤ 12) (fun s => L.length - slotN (s.t 4)) ?_ ?_
  · exact FgK.same ⟨0, 0, by simp, by simp, by simp, by simp, by simp, by omega, by simp⟩
  rintro s ⟨i, n, hn, hH, e0, e3, e4, hi, hall⟩
  by_cases hlt : i < L.length
  · have wr := IntWalk.i64_in ((i : Int) + 1) (by omega)
    obtain ⟨p, hp1, hp2, ⟨_, _, _⟩, ⟨p7, p71, p72⟩, ⟨p8, p81, p82⟩, p4, p6, p41, p61, p62⟩ := iat ha.1 hlt
    have hit := ha.2 _ (List.getElem_mem hlt)
    have et := take_snoc' hlt
    generalize L[i] = x at *
    have lp := fun k => Rw.lenK hit.px (k := k)
    have lo := fun k => Rw.lenK hit.ao (k := k)
    have li := fun k => Rw.lenK hit.ai (k := k)
    have cp := Rw.one hit.px
    have co := Rw.one hit.ao
    have ci := Rw.one hit.ai
    by_cases d1 : 12 < x.lo.length
    · have d1' : (12 : Int) < x.lo.length := by omega
      simp (disch := omega) [hn, hH, e0, e3, e4, la, hlt, hp1, p41, p61, p62, p71, p72, lp, lo, d1']
      exact ⟨H, Sub.refl _, hf⟩
    have d1' : ¬ (12 : Int) < x.lo.length := by omega
    by_cases d2 : 12 < x.li.length
    · have d2' : (12 : Int) < x.li.length := by omega
      simp (disch := omega) [hn, hH, e0, e3, e4, la, hlt, hp1, p41, p61, p62, p71, p72, p81, p82, lp, lo, li, d1', d2']
      exact ⟨H, Sub.refl _, hf⟩
    have d2' : ¬ (12 : Int) < x.li.length := by omega
    simp (disch := omega) [hn, hH, e0, e3, e4, la, hlt, hp1, p41, p61, p62, p71, p72, p81, p82, lp, lo, li, d1', d2']
    generalize IntKind.i64.wrap (n + x.px.length) = n2
    by_cases d3 : 1500 < n2
    · simp [d3]
      exact ⟨H, Sub.refl _, hf⟩
    · simp [d3, wr]
      refine FgK.same ⟨⟨i + 1, n2, by simp, by simp, by simp, by simp, by simp, by omega, ?_⟩, by simp [e4]; omega⟩
      rw [et]
      intro y hy
      rcases List.mem_append.1 hy with hy | hy
      · exact hall y hy
      · rw [List.mem_singleton.1 hy]; omega
  · rw [List.take_of_length_le (by omega)] at hall
    simp (disch := omega) [hn, hH, e0, e4, la, hlt]
    exact ⟨H, Sub.refl _, hk true fun _ => ⟨by omega, hall⟩⟩
end Go.Proofs.YtmpncpamndhmcaaGreat
end

/-! Valid scenes, walked: buffers, positions, bounds, regions inside. Conditions: as each lemma states them. -/
section
namespace Go.Proofs.YtmpncpamndhmcaaGreat
open Go Go.Ab Go.RowKit

attribute [local simp] rc_len rc_t4 rc_t1 rc_t2 rc_t3 rc_d1 rc_d2 rc_d3 rc_d4 rc_ag rc_one rc_eq min2_t min2_f

theorem szOk_iff (n : Int) : szOk n = true ↔ 1 ≤ n ∧ n ≤ 256 := by simp [szOk]
theorem c118 (w h : Int) : PC Tryz.prog 118 [vi w, vi h] (vb (szOk w && szOk h)) := by
  refine .tell fun H => ?_
  refine call_c follows cf118_ok (by simp) ?_
  unfold szOk
  by_cases h1 : 1 ≤ w <;> by_cases h2 : w ≤ 256 <;> by_cases h3 : 1 ≤ h <;> by_cases h4 : h ≤ 256 <;> simp [h1, h2, h3, h4]
  all_goals exact Sub.refl _
def posB (x y : Int) : Bool := (decide (-16384 ≤ x) && decide (x ≤ 16128)) && (decide (-16384 ≤ y) && decide (y ≤ 16128))
theorem posB_eq (x y : Int) : posB x y = posOk x y := by
  unfold posB posOk
  cases h : (decide (-16384 ≤ min x y) && decide (max x y ≤ 16128)) with
  | true => simp at h; simp; omega
  | false => simp at h; simp; omega
theorem c83 (x y : Int) : PC Tryz.prog 83 [vi x, vi y] (vb (posOk x y)) := by
  rw [← posB_eq]
  refine .tell fun H => ?_
  refine call_c follows cf83_ok (by simp) ?_
  unfold posB
  by_cases h1 : -16384 ≤ x <;> by_cases h2 : x ≤ 16128 <;> by_cases h3 : -16384 ≤ y <;> by_cases h4 : y ≤ 16128 <;> simp [h1, h2, h3, h4]
  all_goals exact Sub.refl _
theorem c84 {H : AH} {K : AV → AH → Prop} {a : AV} {w h : Int} {l : List Px} (ha : Rw H a (flat pxc l) l.length 4) (hk : K (vb (bufOk w h l)) H) : @AC Tryz.prog 84 [.ag (bfc w h a)] H ⟨K⟩ := by
  have la := fun k => Rw.lenK ha (k := k)
  have ca := Rw.cells ha
  refine AC_of (.forget ?_)
  refine call_c follows cf84_ok (by simp) ?_
  have hbl : (bfc w h a).length = 3 := rfl
  simp [hbl]
  refine newK_of fun z hz => ?_
  have hzz : upd H z (.cells (bfc w h a)) z = some (.cells [vi w, vi h, a]) := by simp [upd_apply, bfc]
  have hS : Sub H (upd H z (.cells (bfc w h a))) := (Sub.refl H).upd hz
  generalize upd H z (.cells (bfc w h a)) = G at *
  simp [hzz]
  refine (c118 w h).ac ?_
  cases hs : (szOk w && szOk h) with
  | false =>
    have e : bufOk w h l = false := by
      unfold bufOk
      cases h1 : szOk w <;> cases h2 : szOk h <;> simp_all
    rw [e] at hk
    simp
    exact ⟨H, hS, hk⟩
  | true =>
    simp at hs
    obtain ⟨hs1, hs2⟩ := hs
    have r1 := (szOk_iff w).1 hs1
    have r2 := (szOk_iff h).1 hs2
    have hmul : 0 ≤ w * h ∧ w * h ≤ 256 * 256 := ⟨Int.mul_nonneg (by omega) (by omega), Int.mul_le_mul (by omega) (by omega) (by omega) (by omega)⟩
    have wm := IntWalk.i64_in (w * h) (by omega)
    by_cases hlen : (l.length : Int) = w * h
    · have e : bufOk w h l = l.all pxOk := by simp [bufOk, hs1, hs2, hlen]
      rw [e] at hk
      simp [hzz, la, wm, hlen]
      refine wpc_loop (fun s => ∃ (i : Nat), s.n = 53 ∧ s.H = G ∧ s.t 1 = pA z ∧ s.t 3 = vi i ∧ i ≤ l.length ∧ (l.take i).all pxOk = true) (fun s => l.length - slotN (s.t 3)) ?_ ?_
      · exact FgK.same ⟨0, by simp, by simp, by simp, by simp, by omega, by simp⟩
      rintro s ⟨i, hn, hH, e1, e3, hi, hall⟩
      by_cases hlt : i < l.length
      · have wr := IntWalk.i64_in ((i : Int) + 1) (by omega)
        obtain ⟨p, hp1, hp2⟩ := fsee pxc_l (ha.sub hS) hlt
        have et := take_snoc' hlt
        have hfa : pxOk l[i] = false → l.all pxOk = false := fun h => List.all_eq_false.2 ⟨l[i], List.getElem_mem hlt, by simp [h]⟩
        generalize l[i] = x at *
        have hlt' : (i : Int) < w * h := by omega
        simp (disch := omega) [hn, hH, e1, e3, hzz, la, hlt, hp1, hp2 _ (Sub.refl _)]
        refine newK_of fun y hy => ?_
        have nyz := free_ne hy z (by rw [hzz]; simp)
        have hSy := hS.upd (hS.none_of hy) (o := .cells (pxc x))
        have hyy : upd G y (.cells (pxc x)) y = some (.cells [v8 x.r, v8 x.g, v8 x.b, v8 x.a]) := by simp [upd_apply, pxc]
        have hGy : Sub G (upd G y (.cells (pxc x))) := (Sub.refl G).upd hy
        have hfin : pxOk x = false → ∃ H0, Sub H0 (upd G y (.cells (pxc x))) ∧ K (vb false) H0 := fun h => ⟨H, hSy, by rw [hfa h] at hk; exact hk⟩
        by_cases d1 : x.a < x.r
        · simp [pxc, d1]
          exact hfin (by simp [pxOk]; omega)
        by_cases d2 : x.a < x.g
        · simp [pxc, d1, d2]
          exact hfin (by simp [pxOk]; omega)
        by_cases d3 : x.a < x.b
        · simp [pxc, d1, d2, d3]
          exact hfin (by simp [pxOk]; omega)
        simp [pxc, d1, d2, d3, wr]
        refine FgK.of G hGy ⟨⟨i + 1, by simp, by simp, by simp, by simp, by omega, ?_⟩, by simp [e3]; omega⟩
        rw [et, List.all_append, hall]
        simp [pxOk]; omega
      · rw [List.take_of_length_le (by omega)] at hall
        rw [hall] at hk
        simp (disch := omega) [hn, hH, e1, e3, hzz, la, hlt]
        exact ⟨H, hS, hk⟩
    · have e : bufOk w h l = false := by simp [bufOk, hlen]
      rw [e] at hk
      simp [hzz, la, wm, hlen]
      exact ⟨H, hS, hk⟩
end Go.Proofs.YtmpncpamndhmcaaGreat
end

/-! Valid scenes, walked: bounds, regions inside, the whole. Conditions: as each lemma states them. -/
section
namespace Go.Proofs.YtmpncpamndhmcaaGreat
open Go Go.Ab Go.RowKit

attribute [local simp] rc_len rc_t4 rc_t1 rc_t2 rc_t3 rc_d1 rc_d2 rc_d3 rc_d4 rc_ag rc_one rc_eq min2_t min2_f

def bndR (i : It) : R := if posOk i.x i.y = true ∧ bufOk i.w i.h i.px = true then ⟨i.x, i.y, i.x + i.w, i.y + i.h⟩ else ⟨0, 0, 0, 0⟩
theorem c56 {H : AH} {K : AV → AH → Prop} {i : It} (hi : It0 H i) (hk : K (.ag (rc (bndR i))) H) : @AC Tryz.prog 56 [.ag (itc i)] H ⟨K⟩ := by
  refine AC_of (.forget ?_)
  refine call_c follows cf56_ok (by simp) ?_
  have hl : (itc i).length = 9 := rfl
  simp [hl]
  refine newK_of fun b hb => ?_
  have hS : Sub H (upd H b (.cells (itc i))) := (Sub.refl H).upd hb
  simp
  refine newK_of fun z hz => ?_
  have nzb := free_ne hz b (by simp [upd_apply])
  have hzH : H z = none := hS.none_of hz
  have hS2 := hS.upd hzH (o := .cells [vi 0, vi 0, vi 0, vi 0])
  have hbb : upd (upd H b (.cells (itc i))) z (.cells [vi 0, vi 0, vi 0, vi 0]) b = some (.cells (itc i)) := by simp [upd_apply, nzb]
  have hzz : upd (upd H b (.cells (itc i))) z (.cells [vi 0, vi 0, vi 0, vi 0]) z = some (.cells [vi 0, vi 0, vi 0, vi 0]) := by simp [upd_apply]
  have hGz : ∀ r : R, Sub H (upd (upd (upd H b (.cells (itc i))) z (.cells [vi 0, vi 0, vi 0, vi 0])) z (.cells (rc r))) := fun r => by rw [upd_twice]; exact hS.upd hzH
  generalize upd (upd H b (.cells (itc i))) z (.cells [vi 0, vi 0, vi 0, vi 0]) = G at *
  have hi' := hi.sub hS2
  simp [hbb, itc]
  refine (c83 i.x i.y).ac ?_
  have eb : AV.ag [AV.pl (.int .i64 i.w), AV.pl (.int .i64 i.h), i.ap] = .ag (bfc i.w i.h i.ap) := rfl
  unfold bndR at hk
  cases hp : posOk i.x i.y with
  | false =>
    rw [if_neg (by simp [hp])] at hk
    simp [hzz]
    exact ⟨H, hGz ⟨0, 0, 0, 0⟩, hk⟩
  | true =>
    simp [hbb, itc]
    refine c84 (w := i.w) (h := i.h) hi'.px ?_
    cases hv : bufOk i.w i.h i.px with
    | false =>
      rw [if_neg (by simp [hv])] at hk
      simp [hzz]
      exact ⟨H, hGz ⟨0, 0, 0, 0⟩, hk⟩
    | true =>
      rw [if_pos ⟨hp, hv⟩] at hk
      have r1 := bufOk_rng hv
      have r2 := posOk_rng hp
      have w1 := IntWalk.i64_in (i.x + i.w) (by omega)
      have w2 := IntWalk.i64_in (i.y + i.h) (by omega)
      simp [hbb, itc, hzz, w1, w2]
      exact ⟨H, hGz ⟨i.x, i.y, i.x + i.w, i.y + i.h⟩, hk⟩
theorem c86 {H : AH} {K : AV → AH → Prop} (w h : Int) (hk : ∀ out H', Sub H H' → Rr H' out [⟨0, 0, w, h⟩] → K out H') : @AC Tryz.prog 86 [vi w, vi h] H ⟨K⟩ := by
  refine call_c follows cf86_ok (by simp) ?_
  simp
  refine newK_of fun z hz => ?_
  simp
  exact hk _ _ ((Sub.refl H).upd hz) (Rw.sl rfl (by simp [upd_apply]; rfl))
theorem same05 {H : AH} {K : AV → AH → Prop} {a b : AV} {l l2 : List R} (ha : Rr H a l) (hb : Rr H b l2) (hl : l.length ≤ 1000000) (hk : ∀ bb : Bool, (bb = true → l = l2) → K (vb bb) H) : @AC Tryz.prog 88 [a, b] H ⟨K⟩ := by
  have q1 := fun k => Rw.lenK ha (k := k)
  have q2 := fun k => Rw.lenK hb (k := k)
  have hf : K (vb false) H := hk false fun h => by cases h
  refine AC_of (.forget ?_)
  refine call_c follows cf88_ok (by simp) ?_
  by_cases hlen : l.length = l2.length
  · have hlen' : (l.length : Int) = l2.length := by omega
    simp [q1, q2, hlen']
    refine wpc_loop (fun s => ∃ (i : Nat), s.n = 26 ∧ s.H = H ∧ s.t 0 = a ∧ s.t 1 = b ∧ s.t 5 = vi i ∧ i ≤ l.length ∧ l.take i = l2.take i) (fun s => l.length - slotN (s.t 5)) ?_ ?_
    · exact FgK.same ⟨0, by simp, by simp, by simp, by simp, by simp, by omega, by simp⟩
    rintro s ⟨i, hn, hH, e0, e1, e5, hi, hc⟩
    by_cases hlt : i < l.length
    · have hlt2 : i < l2.length := by omega
      have wr := IntWalk.i64_in ((i : Int) + 1) (by omega)
      obtain ⟨p, hp1, hp2⟩ := fsee rc_l ha hlt
      obtain ⟨q, hq1, hq2⟩ := fsee rc_l hb hlt2
      have et := take_snoc' hlt
      have et2 := take_snoc' hlt2
      generalize l[i] = x at *
      generalize l2[i] = y at *
      cases hxy : req x y with
      | true =>
        have := (req_iff x y).1 hxy
        subst this
        simp (disch := omega) [hn, hH, e0, e1, e5, q1, hlt, hp1, hp2 _ (Sub.refl _), hq1, hq2 _ (Sub.refl _), hxy, wr]
        exact FgK.same ⟨⟨i + 1, by simp, by simp, by simp, by simp, by simp, by omega, by rw [et, et2, hc]⟩, by simp [e5]; omega⟩
      | false =>
        simp (disch := omega) [hn, hH, e0, e1, e5, q1, hlt, hp1, hp2 _ (Sub.refl _), hq1, hq2 _ (Sub.refl _), hxy]
        exact ⟨H, Sub.refl _, hf⟩
    · simp (disch := omega) [hn, hH, e0, e1, e5, q1, hlt]
      rw [List.take_of_length_le (by omega), List.take_of_length_le (by omega)] at hc
      exact ⟨H, Sub.refl _, hk true fun _ => hc⟩
  · have hlen' : ¬ (l.length : Int) = l2.length := by omega
    simp [q1, q2, hlen']
    exact ⟨H, Sub.refl _, hf⟩
theorem isCan05 {H : AH} {K : AV → AH → Prop} {a : AV} {l : List R} (ha : Rr H a l) (hl : l.length ≤ 256) (hk : ∀ bb : Bool, (bb = true → canonF l = l) → K (vb bb) H) : @AC Tryz.prog 87 [a] H ⟨K⟩ := by
  have l1 := fun k => Rw.lenK ha (k := k)
  have h' : (l.length : Int) ≤ 256 := by omega
  refine AC_of (.forget ?_)
  refine call_c follows cf87_ok (by simp) ?_
  simp [l1, h']
  refine c120 (lb := []) ha (Rw.nil _ _) (by omega) (by simp) fun out H' hro => ?_
  rw [kM1] at hro
  have hro : Row H H' out (flat rc (canonF l)) (canonF l).length 4 := hro
  simp
  refine same05 (Rw.sub ha hro.sub) ((hro.rin (flat_len rc_l _)).rd) (by omega) fun bb hbb => ?_
  simp
  exact ⟨H, hro.sub, hk bb fun h => (hbb h).symm⟩
theorem c57 {H : AH} {K : AV → AH → Prop} {i : It} {a : AV} {l : List R} (hi : It0 H i) (ha : Rr H a l) (hl : l.length ≤ 256) (hk : ∀ bb : Bool, (bb = true → canonF l = l ∧ modF 2 l [⟨0, 0, i.w, i.h⟩] = l) → K (vb bb) H) : @AC Tryz.prog 57 [.ag (itc i), a] H ⟨K⟩ := by
  have ca := Rw.cells ha
  have oa := Rw.one ha
  have hf : K (vb false) H := hk false fun h => by cases h
  refine AC_of (.forget ?_)
  refine call_c follows cf57_ok (by simp) ?_
  have hil : (itc i).length = 9 := rfl
  simp [hil]
  refine newK_of fun b hb => ?_
  have hS : Sub H (upd H b (.cells (itc i))) := (Sub.refl H).upd hb
  have hbb : upd H b (.cells (itc i)) b = some (.cells [vi i.sf, vi i.cl, vi i.x, vi i.y, vi i.w, vi i.h, i.ap, i.ao, i.ai]) := by simp [upd_apply, itc]
  generalize upd H b (.cells (itc i)) = G at *
  simp [hbb]
  refine c86 i.w i.h fun o1 H1 hs1 ho1 => ?_
  have o1c := Rw.cells ho1
  simp
  refine c85 ((ha.sub hS).sub hs1) ho1 (by omega) (by simp) (fun h256 o2 H2 ho2 => ?_) fun h256 => ?_
  · have hr2 : Rr H2 o2 (modF 2 l [⟨0, 0, i.w, i.h⟩]) := (ho2.rin (flat_len rc_l _)).rd
    have hS2 : Sub H H2 := (hS.trans hs1).trans ho2.sub
    have o2c := Rw.cells hr2
    simp
    refine isCan05 (ha.sub hS2) hl fun b1 hb1 => ?_
    cases b1 with
    | false =>
      simp
      exact ⟨H, hS2, hf⟩
    | true =>
      simp
      refine same05 (ha.sub hS2) hr2 (by omega) fun b2 hb2 => ?_
      simp
      exact ⟨H, hS2, hk b2 fun h => ⟨hb1 rfl, (hb2 h).symm⟩⟩
  · simp
    exact ⟨H, hS.trans hs1, hf⟩

/-- What a valid item is. -/
structure VI (i : It) : Prop where
  sf : 1 ≤ i.sf
  cl : 1 ≤ i.cl
  pos : posOk i.x i.y = true
  buf : bufOk i.w i.h i.px = true
  co : canonF i.lo = i.lo
  mo : modF 2 i.lo [⟨0, 0, i.w, i.h⟩] = i.lo
  ci : canonF i.li = i.li
  mi : modF 2 i.li [⟨0, 0, i.w, i.h⟩] = i.li
theorem c30 {H : AH} {K : AV → AH → Prop} {a : AV} {L : List It} (ha : Its0 H a L) (hl : L.length ≤ 128) (hr : ∀ i ∈ L, i.lo.length ≤ 12 ∧ i.li.length ≤ 12)
    (hk : ∀ b : Bool, (b = true → (∀ i ∈ L, VI i) ∧ L.Pairwise fun x y => x.sf ≠ y.sf) → K (vb b) H) : @AC Tryz.prog 30 [a] H ⟨K⟩ := by
  have la := fun k => Rw.lenK ha.1 (k := k)
  refine AC_of (.forget ?_)
  refine call_c follows cf30_ok (by simp) ?_
  have hf : K (vb false) H := hk false fun h => by cases h
  have h128 : ¬ (128 : Int) < L.length := by omega
  simp [la, h128]
  refine wpc_loop (fun s => ∃ (i : Nat), s.n = 60 ∧ s.H = H ∧ s.t 0 = a ∧ s.t 3 = vi i ∧ i ≤ L.length ∧ (∀ x ∈ L.take i, VI x) ∧ (L.take i).Pairwise fun x y => x.sf ≠ y.sf) (fun s => L.length - slotN (s.t 3)) ?_ ?_
  · exact FgK.same ⟨0, by simp, by simp, by simp, by simp, by omega, by simp, by simp⟩
  rintro s ⟨i, hn, hH, e0, e3, hi, hall, hpw⟩
  by_cases hlt : i < L.length
  · have wr := IntWalk.i64_in ((i : Int) + 1) (by omega)
    obtain ⟨p, hp1, hp2, _⟩ := iat ha.1 hlt
    have hit := ha.2 _ (List.getElem_mem hlt)
    have hrr := hr _ (List.getElem_mem hlt)
    have et := take_snoc' hlt
    generalize L[i] = x at *
    have hxl : (itc x).length = 9 := rfl
    have hxt : (itc x).take 9 = itc x := rfl
    have hxo : ∀ v ∈ itc x, v.one = true := List.all_eq_true.1 hit.one
    simp (disch := omega) [hn, hH, e0, e3, la, hlt, hp1, hp2]
    refine newK_of fun z hz => ?_
    have hS : Sub H (upd H z (.cells (itc x))) := (Sub.refl H).upd hz
    have cao := Rw.one hit.ao
    have cai := Rw.one hit.ai
    have cap := Rw.one hit.px
    have xao := Rw.cells hit.ao
    have xai := Rw.cells hit.ai
    by_cases d1 : x.sf < 1
    · simp [itc, cao, cai, cap, d1]
      exact ⟨H, hS, hf⟩
    by_cases d2 : x.cl < 1
    · simp [itc, cao, cai, cap, d1, d2]
      exact ⟨H, hS, hf⟩
    simp [itc, cao, cai, cap, d1, d2]
    have hzz : upd H z (.cells (itc x)) z = some (.cells [vi x.sf, vi x.cl, vi x.x, vi x.y, vi x.w, vi x.h, x.ap, x.ao, x.ai]) := by simp [upd_apply, itc]
    have eG : upd H z (.cells [AV.pl (.int .i64 x.sf), AV.pl (.int .i64 x.cl), AV.pl (.int .i64 x.x), AV.pl (.int .i64 x.y), AV.pl (.int .i64 x.w), AV.pl (.int .i64 x.h), x.ap, x.ao, x.ai]) = upd H z (.cells (itc x)) := rfl
    rw [eG]
    clear eG
    generalize upd H z (.cells (itc x)) = G at *
    have hitG := hit.sub hS
    refine c56 hitG ?_
    have hpb : (posOk x.x x.y = true ∧ bufOk x.w x.h x.px = true) ∨ req (bndR x) ⟨0, 0, 0, 0⟩ = true := by
      by_cases h : posOk x.x x.y = true ∧ bufOk x.w x.h x.px = true
      · exact .inl h
      · right; unfold bndR; rw [if_neg h]; rfl
    generalize bndR x = bx at *
    have hz0 : AV.ag [AV.pl (.int .i64 0), AV.pl (.int .i64 0), AV.pl (.int .i64 0), AV.pl (.int .i64 0)] = .ag (rc ⟨0, 0, 0, 0⟩) := rfl
    cases hb0 : req bx ⟨0, 0, 0, 0⟩ with
    | true =>
      simp [hz0, hb0]
      exact ⟨H, hS, hf⟩
    | false =>
      have hpb : posOk x.x x.y = true ∧ bufOk x.w x.h x.px = true := hpb.resolve_right (by simp [hb0])
      simp [hz0, hb0, hzz]
      refine c57 hitG hitG.ao (by omega) fun b1 hb1 => ?_
      cases b1 with
      | false =>
        simp
        exact ⟨H, hS, hf⟩
      | true =>
        simp [hzz]
        refine c57 hitG hitG.ai (by omega) fun b2 hb2 => ?_
        cases b2 with
        | false =>
          simp
          exact ⟨H, hS, hf⟩
        | true =>
          obtain ⟨g1, g2⟩ := hb1 rfl
          obtain ⟨g3, g4⟩ := hb2 rfl
          have hvi : VI x := ⟨by omega, by omega, hpb.1, hpb.2, g1, g2, g3, g4⟩
          simp
          refine wpc_loop (fun s2 => ∃ (k : Nat), s2.n = 60 ∧ s2.H = G ∧ s2.t 0 = a ∧ s2.t 3 = vi i ∧ s2.t 4 = pA z ∧ s2.t 5 = vi k ∧ k ≤ i ∧ ∀ y ∈ L.take k, y.sf ≠ x.sf) (fun s2 => i - slotN (s2.t 5)) ?_ ?_
          · exact FgK.same ⟨0, by simp, by simp, by simp, by simp, by simp, by simp, by omega, by simp⟩
          rintro s2 ⟨k, hn2, hH2, f0, f3, f4, f5, hki, hne⟩
          by_cases hk2 : k < i
          · have hk2' : (k : Int) < i := by omega
            have wk := IntWalk.i64_in ((k : Int) + 1) (by omega)
            have hkL : k < L.length := by omega
            obtain ⟨q, hq1, hq2, ⟨q0, hq3, hq4⟩, _⟩ := iat (ha.1.sub hS) hkL
            have et2 := take_snoc' hkL
            generalize L[k] = y at *
            by_cases hyx : y.sf = x.sf
            · simp (disch := omega) [hn2, hH2, f0, f3, f4, f5, hk2', hq1, hq3, hq4, hzz, hyx]
              exact ⟨H, hS, hf⟩
            · simp (disch := omega) [hn2, hH2, f0, f3, f4, f5, hk2', hq1, hq3, hq4, hzz, hyx, wk]
              refine FgK.same ⟨⟨k + 1, by simp, by simp, by simp, by simp, by simp, by simp, by omega, ?_⟩, by simp [f5]; omega⟩
              rw [et2]
              intro w hw
              rcases List.mem_append.1 hw with hw | hw
              · exact hne w hw
              · rw [List.mem_singleton.1 hw]; exact hyx
          · have hk2' : ¬ (k : Int) < i := by omega
            obtain rfl : k = i := by omega
            simp (disch := omega) [hn2, hH2, f0, f3, f4, f5, hk2', wr]
            refine FgK.of H hS ⟨⟨k + 1, by simp, by simp, by simp, by simp, by omega, ?_, ?_⟩, by simp [e3]; omega⟩
            · rw [et]
              intro w hw
              rcases List.mem_append.1 hw with hw | hw
              · exact hall w hw
              · rw [List.mem_singleton.1 hw]; exact hvi
            · rw [et, List.pairwise_append]
              exact ⟨hpw, List.pairwise_singleton .., fun w hw u hu => by rw [List.mem_singleton.1 hu]; exact hne w hw⟩
  · rw [List.take_of_length_le (by omega)] at hall hpw
    simp (disch := omega) [hn, hH, e0, e3, la, hlt]
    exact ⟨H, Sub.refl _, hk true fun _ => ⟨hall, hpw⟩⟩
end Go.Proofs.YtmpncpamndhmcaaGreat
end

/-! The guard of the law, walked. Conditions: as each lemma states them. -/
section
namespace Go.Proofs.YtmpncpamndhmcaaGreat
open Go Go.Ab Go.RowKit

attribute [local simp] rc_len rc_t4 rc_t1 rc_t2 rc_t3 rc_d1 rc_d2 rc_d3 rc_d4 rc_ag rc_one rc_eq

def Sc0 (H : AH) (a : AV) (Ls : List (List It)) : Prop := ∃ cs : List AV, Rw H a cs Ls.length 1 ∧ ∀ i (h : i < cs.length) (h2 : i < Ls.length), Its0 H cs[i] Ls[i] ∧ Ls[i].length ≤ maxLen
theorem Sc0.sub {H H' : AH} {a : AV} {Ls : List (List It)} (h : Sc0 H a Ls) (hs : Sub H H') : Sc0 H' a Ls := by
  obtain ⟨cs, h1, h2⟩ := h
  exact ⟨cs, h1.sub hs, fun i a b => ⟨(h2 i a b).1.sub hs, (h2 i a b).2⟩⟩
/-- A scene that the guard lets in. -/
structure LiS (L : List It) : Prop where
  len : L.length ≤ 8
  vi : ∀ i ∈ L, VI i
  sm : ∀ i ∈ L, i.lo.length ≤ 12 ∧ i.li.length ≤ 12
  nd : L.Pairwise fun x y => x.sf ≠ y.sf
theorem LiS.pos {L : List It} (h : LiS L) : PosL L := fun i hi => ⟨(h.vi i hi).sf, (h.vi i hi).cl⟩
theorem LiS.nil : LiS [] := ⟨by simp, by simp, by simp, by simp⟩
theorem VI.px {i : It} (h : VI i) : i.px.length ≤ 65536 := by
  have h1 := h.buf
  have r := bufOk_rng h1
  unfold bufOk at h1
  simp only [Bool.and_eq_true, decide_eq_true_eq] at h1
  have hm : i.w * i.h ≤ 256 * 256 := Int.mul_le_mul (by omega) (by omega) (by omega) (by omega)
  omega
theorem LiS.its {H : AH} {a : AV} {L : List It} (h : LiS L) (ha : Its0 H a L) : ItsR H a L :=
  ⟨ha.1, fun i hi => ⟨(ha.2 i hi).px, (ha.2 i hi).ao, (ha.2 i hi).ai, by have := (h.vi i hi).px; omega, by have := (h.sm i hi).2; omega⟩⟩
theorem Sc0.ok {H : AH} {a : AV} {Ls : List (List It)} (h : Sc0 H a Ls) (hl : ∀ L ∈ Ls, LiS L) : ScR H a Ls := by
  obtain ⟨cs, h1, h2⟩ := h
  exact ⟨cs, h1, fun i a b => (hl _ (List.getElem_mem b)).its (h2 i a b).1⟩
theorem c8 {H : AH} {K : AV → AH → Prop} {a b : AV} {Ls : List (List It)} {ops : List Op} (ha : Sc0 H a Ls) (hb : Rw H b (flat opc ops) ops.length 11)
    (hk : ∀ bb : Bool, (bb = true → Ls.length ≤ 4 ∧ ops.length ≤ 40 ∧ ∀ L ∈ Ls, LiS L) → K (vb bb) H) : @AC Tryz.prog 8 [.ag [a, b]] H ⟨K⟩ := by
  obtain ⟨cs, hr, hi⟩ := ha
  have hf : K (vb false) H := hk false fun h => by cases h
  have la := fun k => Rw.lenK hr (k := k)
  have lb := fun k => Rw.lenK hb (k := k)
  have ca := Rw.cells hr
  have cb := Rw.cells hb
  refine AC_of (.forget ?_)
  refine call_c follows cf8_ok (by simp) ?_
  simp
  refine newK_of fun z hz => ?_
  have hzz : upd H z (.cells [a, b]) z = some (.cells [a, b]) := by simp [upd_apply]
  have hS : Sub H (upd H z (.cells [a, b])) := (Sub.refl H).upd hz
  generalize upd H z (.cells [a, b]) = G at *
  by_cases c1 : Ls.length < 1
  · have c1' : (Ls.length : Int) < 1 := by omega
    simp [hzz, la, c1']
    exact ⟨H, hS, hf⟩
  have c1' : ¬ (Ls.length : Int) < 1 := by omega
  by_cases c2 : 4 < Ls.length
  · have c2' : (4 : Int) < Ls.length := by omega
    simp [hzz, la, c1', c2']
    exact ⟨H, hS, hf⟩
  have c2' : ¬ (4 : Int) < Ls.length := by omega
  by_cases c3 : 40 < ops.length
  · have c3' : (40 : Int) < ops.length := by omega
    simp [hzz, la, lb, c1', c2', c3']
    exact ⟨H, hS, hf⟩
  have c3' : ¬ (40 : Int) < ops.length := by omega
  simp [hzz, la, lb, c1', c2', c3']
  refine wpc_loop (fun s => ∃ (i : Nat), s.n = 52 ∧ s.H = G ∧ s.t 1 = pA z ∧ s.t 3 = vi i ∧ i ≤ Ls.length ∧ ∀ L ∈ Ls.take i, LiS L) (fun s => Ls.length - slotN (s.t 3)) ?_ ?_
  · exact FgK.same ⟨0, by simp, by simp, by simp, by simp, by omega, by simp⟩
  rintro s ⟨i, hn, hH, e1, e3, hil, hall⟩
  by_cases hlt : i < Ls.length
  · have wr := IntWalk.i64_in ((i : Int) + 1) (by omega)
    obtain ⟨p, hp1, hp2⟩ := Rw.see hr hlt
    have hcl : cs.length = Ls.length := by have := hr.1; omega
    have hone : (cs.drop (i * 1)).take 1 = [cs[i]] := by rw [Nat.mul_one, List.drop_eq_getElem_cons (by omega)]; rfl
    have hp3 := hp2 G hS
    rw [hone] at hp3
    obtain ⟨hits, hml⟩ := hi i (by omega) hlt
    have et := take_snoc' hlt
    generalize cs[i] = v at *
    generalize Ls[i] = L at *
    have lv := fun k => Rw.lenK hits.1 (k := k)
    have cv := Rw.cells hits.1
    have ov := Rw.one hits.1
    by_cases d1 : 8 < L.length
    · have d1' : (8 : Int) < L.length := by omega
      simp (disch := omega) [hn, hH, e1, e3, hzz, la, hlt, hp1, hp3, lv, d1']
      exact ⟨H, hS, hf⟩
    have d1' : ¬ (8 : Int) < L.length := by omega
    simp (disch := omega) [hn, hH, e1, e3, hzz, la, hlt, hp1, hp3, lv, d1']
    refine c29 (hits.sub hS) hml fun b1 hb1 => ?_
    cases b1 with
    | false =>
      simp
      exact ⟨H, hS, hf⟩
    | true =>
      obtain ⟨g1, g2⟩ := hb1 rfl
      simp (disch := omega) [hzz, hp1, hp3]
      refine c30 (hits.sub hS) (by omega) g2 fun b2 hb2 => ?_
      cases b2 with
      | false =>
        simp
        exact ⟨H, hS, hf⟩
      | true =>
        obtain ⟨g3, g4⟩ := hb2 rfl
        simp [wr]
        refine FgK.same ⟨⟨i + 1, by simp, by simp, by simp, by simp, by omega, ?_⟩, by simp [e3]; omega⟩
        rw [et]
        intro y hy
        rcases List.mem_append.1 hy with hy | hy
        · exact hall y hy
        · rw [List.mem_singleton.1 hy]; exact ⟨by omega, g3, g2, g4⟩
  · rw [List.take_of_length_le (by omega)] at hall
    simp (disch := omega) [hn, hH, e1, e3, hzz, la, hlt]
    exact ⟨H, hS, hk true fun _ => ⟨by omega, by omega, hall⟩⟩
end Go.Proofs.YtmpncpamndhmcaaGreat
end

/-! PointerFrames, walked. Conditions: as each lemma states them. -/
section
namespace Go.Proofs.YtmpncpamndhmcaaGreat
open Go Go.Ab Go.RowKit

attribute [local simp] rc_len rc_t4 rc_t1 rc_t2 rc_t3 rc_d1 rc_d2 rc_d3 rc_d4 rc_ag rc_one rc_eq

theorem items_li {Ls : List (List It)} (h : ∀ L ∈ Ls, LiS L) (o : Op) : LiS (itemsM Ls o) := by
  unfold itemsM
  split
  · exact LiS.nil
  · rename_i hn
    have hlt : o.sc.toNat < Ls.length := by omega
    rw [List.getD_eq_getElem?_getD, List.getElem?_eq_getElem hlt]
    exact h _ (List.getElem_mem hlt)
theorem call_inv {m : PS} {L : List It} (hi : InvF m) (hL : PosL L) (o : Op) : InvF (callM m L o).1 := by
  unfold callM
  repeat' split
  all_goals first | exact hi | exact (feed_Alt hi hL o.e).1 | exact (gone_fs m o.sf hi).1
theorem inv0 : InvF m0 := .inl ⟨rfl, rfl⟩
theorem feed_len (m : PS) (L : List It) (e : Ev) : (feedM m L e).2.1.length ≤ 6 := by
  by_cases h : chkM m e = 0
  · rw [feed_raw h]
    have h1 := rawM_len m L e
    have h2 := grp_len (rawM m L e).2
    simp only
    omega
  · rw [feed_bad h]; simp
theorem call_feed {m : PS} {L : List It} {o : Op} (h : o.kd = 0) : callM m L o = feedM m L o.e := by unfold callM; rw [if_pos h]
end Go.Proofs.YtmpncpamndhmcaaGreat
end

/-! The rows' argument: scenes and calls. No conditions. -/
section
namespace Go.Proofs.YtmpncpamndhmcaaGreat
open Go Go.Ab Go.RowKit

abbrev pxL : List Lf := [.i .u8, .i .u8, .i .u8, .i .u8]
abbrev rcL : List Lf := [.i .i64, .i .i64, .i .i64, .i .i64]
abbrev itL : List Lf := [.i .i64, .i .i64, .i .i64, .i .i64, .i .i64, .i .i64, .sl pxL, .sl rcL, .sl rcL]
abbrev opL : List Lf := [.i .i64, .i .i64, .i .i64, .i .i64, .i .i64, .i .i64, .i .i64, .i .i64, .i .i64, .i .i64, .i .i64]
theorem flat_sing {E : Type} (f : E → AV) (l : List E) : (l.map fun p => [f p]).flatten = l.map f := by
  induction l with
  | nil => rfl
  | cons p l ih => simp only [List.map_cons, List.flatten_cons, ih]; rfl
theorem fitPx {a : AV} (h : Fit (.sl pxL) a) : ∃ l : List Px, ∀ H, Rw H a (flat pxc l) l.length 4 := by
  obtain ⟨n, cs, rfl, hn, hl, hf⟩ := h.sl_inv
  obtain ⟨l, h1, h2⟩ := FitL.elems (enc := pxc) (by decide) (fun cs h => by
    obtain ⟨_, _, rfl, h0, h⟩ := h.cons_inv
    obtain ⟨_, _, rfl, h1, h⟩ := h.cons_inv
    obtain ⟨_, _, rfl, h2, h⟩ := h.cons_inv
    obtain ⟨_, _, rfl, h3, h⟩ := h.cons_inv
    obtain rfl := h.nil_inv
    obtain ⟨a, rfl, _⟩ := h0.i_inv
    obtain ⟨b, rfl, _⟩ := h1.i_inv
    obtain ⟨c, rfl, _⟩ := h2.i_inv
    obtain ⟨d, rfl, _⟩ := h3.i_inv
    exact ⟨⟨a, b, c, d⟩, rfl⟩) n cs hl hf
  subst h1; subst h2
  exact ⟨l, fun H => Rw.vs H (flat_len pxc_l l)⟩
theorem fitRs {a : AV} (h : Fit (.sl rcL) a) : ∃ l : List R, ∀ H, Rr H a l := by
  obtain ⟨n, cs, rfl, hn, hl, hf⟩ := h.sl_inv
  obtain ⟨l, h1, h2⟩ := FitL.elems (enc := rc) (by decide) (fun cs h => by
    obtain ⟨_, _, rfl, h0, h⟩ := h.cons_inv
    obtain ⟨_, _, rfl, h1, h⟩ := h.cons_inv
    obtain ⟨_, _, rfl, h2, h⟩ := h.cons_inv
    obtain ⟨_, _, rfl, h3, h⟩ := h.cons_inv
    obtain rfl := h.nil_inv
    obtain ⟨a, rfl, _⟩ := h0.i_inv
    obtain ⟨b, rfl, _⟩ := h1.i_inv
    obtain ⟨c, rfl, _⟩ := h2.i_inv
    obtain ⟨d, rfl, _⟩ := h3.i_inv
    exact ⟨⟨a, b, c, d⟩, rfl⟩) n cs hl hf
  subst h1; subst h2
  exact ⟨l, fun H => Rw.vs H (flat_len rc_l l)⟩
theorem fitIts {a : AV} (h : Fit (.sl itL) a) : ∃ L : List It, (∀ H, Its0 H a L) ∧ L.length ≤ maxLen := by
  obtain ⟨n, cs, rfl, hn, hl, hf⟩ := h.sl_inv
  obtain ⟨l, h1, h2⟩ := FitL.elems (E := { i : It // ∀ H, It0 H i }) (enc := fun i => itc i.1) (by decide) (fun cs h => by
    obtain ⟨_, _, rfl, h0, h⟩ := h.cons_inv
    obtain ⟨_, _, rfl, h1, h⟩ := h.cons_inv
    obtain ⟨_, _, rfl, h2, h⟩ := h.cons_inv
    obtain ⟨_, _, rfl, h3, h⟩ := h.cons_inv
    obtain ⟨_, _, rfl, h4, h⟩ := h.cons_inv
    obtain ⟨_, _, rfl, h5, h⟩ := h.cons_inv
    obtain ⟨ap, _, rfl, h6, h⟩ := h.cons_inv
    obtain ⟨ao, _, rfl, h7, h⟩ := h.cons_inv
    obtain ⟨ai, _, rfl, h8, h⟩ := h.cons_inv
    obtain rfl := h.nil_inv
    obtain ⟨a0, rfl, _⟩ := h0.i_inv
    obtain ⟨a1, rfl, _⟩ := h1.i_inv
    obtain ⟨a2, rfl, _⟩ := h2.i_inv
    obtain ⟨a3, rfl, _⟩ := h3.i_inv
    obtain ⟨a4, rfl, _⟩ := h4.i_inv
    obtain ⟨a5, rfl, _⟩ := h5.i_inv
    obtain ⟨px, hpx⟩ := fitPx h6
    obtain ⟨lo, hlo⟩ := fitRs h7
    obtain ⟨li, hli⟩ := fitRs h8
    exact ⟨⟨⟨a0, a1, a2, a3, a4, a5, ap, ao, ai, px, lo, li⟩, fun H => ⟨hpx H, hlo H, hli H⟩⟩, rfl⟩) n cs hl hf
  subst h1; subst h2
  refine ⟨l.map (·.1), fun H => ⟨?_, fun i hi => ?_⟩, by simpa using hn⟩
  · have e : flat itc (l.map (·.1)) = (l.map fun i => itc i.1).flatten := by simp [flat]
    rw [e]
    have := Rw.vs H (n := l.length) (sz := 9) (f := false) (cs := (l.map fun i => itc i.1).flatten) (by rw [← e, flat_len itc_l, List.length_map])
    simpa using this
  · obtain ⟨x, _, rfl⟩ := List.mem_map.1 hi
    exact x.2 H
theorem fitScs {a : AV} (h : Fit (.sl [.sl itL]) a) : ∃ Ls : List (List It), ∀ H, Sc0 H a Ls := by
  obtain ⟨n, cs, rfl, hn, hl, hf⟩ := h.sl_inv
  obtain ⟨l, h1, h2⟩ := FitL.elems (E := { p : AV × List It // (∀ H, Its0 H p.1 p.2) ∧ p.2.length ≤ maxLen }) (enc := fun p => [p.1.1]) (by decide) (fun cs h => by
    obtain ⟨v, _, rfl, h0, h⟩ := h.cons_inv
    obtain rfl := h.nil_inv
    obtain ⟨L, hL, hm⟩ := fitIts h0
    exact ⟨⟨(v, L), hL, hm⟩, rfl⟩) n cs hl hf
  subst h1; subst h2
  have e : (l.map fun p => [p.1.1]).flatten = l.map fun p => p.1.1 := flat_sing (fun p => p.1.1) l
  refine ⟨l.map (·.1.2), fun H => ⟨l.map fun p => p.1.1, ?_, fun i h1 h2 => ?_⟩⟩
  · rw [← e]
    have := Rw.vs H (n := l.length) (sz := 1) (f := false) (cs := (l.map fun p => [p.1.1]).flatten) (by rw [e]; simp)
    simpa using this
  · simp only [List.getElem_map]
    exact ⟨(l[i]'(by simpa using h1)).2.1 H, (l[i]'(by simpa using h1)).2.2⟩
theorem fitOps {a : AV} (h : Fit (.sl opL) a) : ∃ l : List Op, ∀ H, Rw H a (flat opc l) l.length 11 := by
  obtain ⟨n, cs, rfl, hn, hl, hf⟩ := h.sl_inv
  obtain ⟨l, h1, h2⟩ := FitL.elems (enc := opc) (by decide) (fun cs h => by
    obtain ⟨_, _, rfl, h0, h⟩ := h.cons_inv
    obtain ⟨_, _, rfl, h1, h⟩ := h.cons_inv
    obtain ⟨_, _, rfl, h2, h⟩ := h.cons_inv
    obtain ⟨_, _, rfl, h3, h⟩ := h.cons_inv
    obtain ⟨_, _, rfl, h4, h⟩ := h.cons_inv
    obtain ⟨_, _, rfl, h5, h⟩ := h.cons_inv
    obtain ⟨_, _, rfl, h6, h⟩ := h.cons_inv
    obtain ⟨_, _, rfl, h7, h⟩ := h.cons_inv
    obtain ⟨_, _, rfl, h8, h⟩ := h.cons_inv
    obtain ⟨_, _, rfl, h9, h⟩ := h.cons_inv
    obtain ⟨_, _, rfl, h10, h⟩ := h.cons_inv
    obtain rfl := h.nil_inv
    obtain ⟨a0, rfl, _⟩ := h0.i_inv
    obtain ⟨a1, rfl, _⟩ := h1.i_inv
    obtain ⟨a2, rfl, _⟩ := h2.i_inv
    obtain ⟨a3, rfl, _⟩ := h3.i_inv
    obtain ⟨a4, rfl, _⟩ := h4.i_inv
    obtain ⟨a5, rfl, _⟩ := h5.i_inv
    obtain ⟨a6, rfl, _⟩ := h6.i_inv
    obtain ⟨a7, rfl, _⟩ := h7.i_inv
    obtain ⟨a8, rfl, _⟩ := h8.i_inv
    obtain ⟨a9, rfl, _⟩ := h9.i_inv
    obtain ⟨a10, rfl, _⟩ := h10.i_inv
    exact ⟨⟨a0, a1, a2, a3, a4, ⟨a5, a6, a7, a8, a9, a10⟩⟩, rfl⟩) n cs hl hf
  subst h1; subst h2
  exact ⟨l, fun H => Rw.vs H (flat_len opc_l l)⟩
theorem fitSet {a : AV} (h : FitT true [.sl [.sl itL], .sl opL] a) : ∃ (v w : AV) (Ls : List (List It)) (ops : List Op), a = .ag [v, w] ∧ (∀ H, Sc0 H v Ls) ∧ ∀ H, Rw H w (flat opc ops) ops.length 11 := by
  obtain ⟨cs, rfl, h⟩ := h
  obtain ⟨v, _, rfl, h0, h⟩ := h.cons_inv
  obtain ⟨w, _, rfl, h1, h⟩ := h.cons_inv
  obtain rfl := h.nil_inv
  obtain ⟨Ls, hLs⟩ := fitScs h0
  obtain ⟨ops, hops⟩ := fitOps h1
  exact ⟨v, w, Ls, ops, rfl, hLs, hops⟩
end Go.Proofs.YtmpncpamndhmcaaGreat
end

/-! PointerAlternates, walked. Conditions: as each lemma states them. -/
section
namespace Go.Proofs.YtmpncpamndhmcaaGreat
open Go Go.Ab Go.RowKit

attribute [local simp] rc_len rc_t4 rc_t1 rc_t2 rc_t3 rc_d1 rc_d2 rc_d3 rc_d4 rc_ag rc_one rc_eq

/-- What the law makes of the surface that was entered, ahead of the deliveries. -/
def entF (o : Op) (e : Int) : Int := if (o.kd < 0 ∨ 5 < o.kd) ∧ o.sf = e then 0 else e
theorem call_len (m : PS) (L : List It) (o : Op) : o.kd = 0 → (callM m L o).2.1.length ≤ 6 := fun h => by rw [call_feed h]; exact feed_len m L o.e
end Go.Proofs.YtmpncpamndhmcaaGreat
end

/-! What an event of a pointer leaves as it was, and to whom it delivers while a button is pressed. No program in sight; conditions: as each lemma states them. -/
section
namespace Go.Proofs.YtmpncpamndhmcaaGreat
open Go Go.Ab Go.RowKit

theorem send_rec (m : PS) (l : List Dl) (d : Dl) : (sendM m l d).1 = { m with lg := (sendM m l d).1.lg } := by
  unfold sendM
  repeat' split
  all_goals rfl
theorem upd_rec (m : PS) (L : List It) (x y : Int) : (updM m L x y).1 = { m with lg := (updM m L x y).1.lg, fs := (updM m L x y).1.fs, fc := (updM m L x y).1.fc } := by
  unfold updM
  split
  · rfl
  · simp only
    split <;> rfl
theorem ref_rec (m : PS) (L : List It) : (refM m L).1 = { m with lg := (refM m L).1.lg, fs := (refM m L).1.fs, fc := (refM m L).1.fc } := upd_rec ..
theorem ref_pr (m : PS) (L : List It) : (refM m L).1.pr = m.pr ∧ (refM m L).1.fl = m.fl ∧ (refM m L).1.g = m.g := by rw [ref_rec]; exact ⟨rfl, rfl, rfl⟩
theorem send_pr (m : PS) (l : List Dl) (d : Dl) : (sendM m l d).1.pr = m.pr ∧ (sendM m l d).1.fl = m.fl ∧ (sendM m l d).1.g = m.g ∧ (sendM m l d).1.fs = m.fs ∧ (sendM m l d).1.fc = m.fc := by rw [send_rec]; exact ⟨rfl, rfl, rfl, rfl, rfl⟩
theorem mot_pr (m : PS) (L : List It) (e : Ev) : (motM m L e).1.pr = m.pr ∧ (motM m L e).1.fl = m.fl ∧ (motM m L e).1.g = m.g := by
  have h := ref_pr { m with x := e.x, y := e.y } L
  unfold motM
  simp only
  split
  · have h2 := send_pr (refM { m with x := e.x, y := e.y } L).1 (refM { m with x := e.x, y := e.y } L).2
    rw [(h2 _).1, (h2 _).2.1, (h2 _).2.2.1]
    exact h
  · exact h
theorem grb_rec (m : PS) : (grbM m).pr = m.pr ∧ (grbM m).fl = m.fl ∧ (grbM m).fs = m.fs ∧ (grbM m).fc = m.fc := by
  unfold grbM
  split <;> exact ⟨rfl, rfl, rfl, rfl⟩
/-- The pointer ahead of the sending of a press. -/
def preS (m : PS) (e : Ev) : PS :=
  let m1 := if m.pr = [] then grbM { m with fl := true } else m
  { m1 with pr := m1.pr ++ [e.co], st := m1.st ++ [m1.ck], ck := m1.ck + 1 }
theorem pre_eq (m : PS) (e : Ev) : preM m e = sendM (preS m e) [] ⟨0, 0, 4, 0, 0, 0, e.co, e.va, 0⟩ := rfl
theorem preS_rec (m : PS) (e : Ev) : (preS m e).pr = m.pr ++ [e.co] ∧ (preS m e).fs = m.fs ∧ (preS m e).fc = m.fc ∧ (preS m e).fl = (if m.pr = [] then true else m.fl) := by
  unfold preS
  simp only
  by_cases h : m.pr = []
  · rw [if_pos h, if_pos h]
    have := grb_rec { m with fl := true }
    exact ⟨by rw [this.1], this.2.2.1, this.2.2.2, this.2.1⟩
  · rw [if_neg h, if_neg h]
    exact ⟨rfl, rfl, rfl, rfl⟩
theorem endH_rec (m : PS) : (endH m).pr = m.pr ∧ (endH m).fl = m.fl := by
  unfold endH
  split <;> exact ⟨rfl, rfl⟩
theorem rel_pr (m : PS) (L : List It) (e : Ev) : (relM m L e).1.pr = m.pr.erase e.co ∧ (relM m L e).1.fl = (if m.pr.erase e.co = [] then false else m.fl) := by
  rw [relM_eq]
  unfold relT
  have h1 := send_pr (delP m e.co) [] ⟨0, 0, 4, 0, 0, 0, e.co, e.va, 0⟩
  generalize sendM (delP m e.co) [] ⟨0, 0, 4, 0, 0, 0, e.co, e.va, 0⟩ = s at h1
  have e1 : s.1.pr = m.pr.erase e.co := h1.1
  by_cases h : s.1.pr = []
  · rw [if_neg (fun g => g h)]
    have h2 := ref_pr { endH s.1 with fl := false } L
    have h3 := endH_rec s.1
    simp only
    rw [h2.1, h2.2.1, ← e1, if_pos h]
    exact ⟨h3.1, rfl⟩
  · rw [if_pos h, e1, if_neg (by rw [← e1]; exact h)]
    exact ⟨rfl, h1.2.1⟩
theorem raw_pr {m : PS} {L : List It} {e : Ev} : (rawM m L e).1.pr = (if e.kd = 2 then (if e.va = 1 then m.pr ++ [e.co] else m.pr.erase e.co) else m.pr) := by
  obtain ⟨_, _, _, t4, _⟩ := tick_fs m e
  unfold rawM
  by_cases h1 : e.kd = 1
  · rw [if_pos h1, if_neg (by omega), (mot_pr _ _ _).1, t4]
  · rw [if_neg h1]
    by_cases h2 : e.kd = 2
    · rw [if_pos h2, if_pos h2]
      by_cases h3 : e.va = 1
      · rw [if_pos h3, if_pos h3, pre_eq, (send_pr _ _ _).1, (preS_rec _ _).1, t4]
      · rw [if_neg h3, if_neg h3, (rel_pr _ _ _).1, t4]
    · rw [if_neg h2, if_neg h2, (send_pr _ _ _).1, t4]
theorem gone_pr (m : PS) (s : Int) : (goneM m s).pr = m.pr ∧ (goneM m s).fl = m.fl := by
  unfold goneM
  simp only
  have h : (if m.hd = s then endH m else m).pr = m.pr ∧ (if m.hd = s then endH m else m).fl = m.fl := by
    split
    · exact endH_rec m
    · exact ⟨rfl, rfl⟩
  generalize (if m.hd = s then endH m else m) = m1 at h
  split
  · exact h
  · exact h
/-- The pressed buttons, from call to call. -/
def nprF (m : PS) (o : Op) : List Int := if o.kd = 0 ∧ chkM m o.e = 0 ∧ o.e.kd = 2 then (if o.e.va = 1 then m.pr ++ [o.e.co] else m.pr.erase o.e.co) else m.pr
theorem call_pr (m : PS) (L : List It) (o : Op) : (callM m L o).1.pr = nprF m o := by
  unfold nprF
  by_cases h0 : o.kd = 0
  · rw [call_feed h0]
    by_cases hc : chkM m o.e = 0
    · rw [feed_raw hc, raw_pr]
      by_cases h2 : o.e.kd = 2
      · rw [if_pos h2, if_pos (show o.kd = 0 ∧ chkM m o.e = 0 ∧ o.e.kd = 2 from ⟨h0, hc, h2⟩)]
      · rw [if_neg h2, if_neg (fun h => h2 h.2.2)]
    · rw [feed_bad hc, if_neg (fun h => hc h.2.1)]
  · rw [if_neg (fun h => h0 h.1)]
    unfold callM
    rw [if_neg h0]
    repeat' split
    all_goals first | rfl | exact (gone_pr m o.sf).1
theorem npr_len {m : PS} (h : m.pr.length ≤ 16) (o : Op) : (nprF m o).length ≤ 16 := by
  unfold nprF
  split
  · rename_i hc
    obtain ⟨h0, hc, h2⟩ := hc
    split
    · rename_i h1
      have : m.pr.length < 16 := by
        unfold chkM at hc
        repeat' split at hc
        all_goals first | (exact absurd hc (by decide)) | skip
        rename_i a b c d
        exact Nat.lt_of_not_le fun hh => d ⟨h2, h1, hh⟩
      rw [List.length_append, List.length_singleton]; omega
    · exact Nat.le_trans List.length_erase_le h
  · exact h
end Go.Proofs.YtmpncpamndhmcaaGreat
end

/-! Canonical regions that are moved; regions inside of an area. No program in sight; conditions: as each lemma states them. -/
section
namespace Go.Proofs.YtmpncpamndhmcaaGreat
open Go Go.Ab Go.RowKit

def shR (dx dy : Int) (r : R) : R := ⟨r.x0 + dx, r.y0 + dy, r.x1 + dx, r.y1 + dy⟩
def shB (dx dy : Int) (b : Bd) : Bd := (b.1 + dy, b.2.1 + dy, b.2.2.map fun p => (p.1 + dx, p.2 + dx))
theorem sh_can {dx : Int} {rs : List Rn} (h : Can rs) : Can (rs.map fun p => (p.1 + dx, p.2 + dx)) := by
  refine ⟨fun r hr => ?_, ?_⟩
  · obtain ⟨p, hp, rfl⟩ := List.mem_map.1 hr
    have := h.1 p hp
    simp only
    omega
  · rw [List.pairwise_map]
    exact h.2.imp fun {a b} hab => by simp only; omega
theorem sh_inR {dx : Int} {rs : List Rn} {x : Int} : InR (rs.map fun p => (p.1 + dx, p.2 + dx)) x ↔ InR rs (x - dx) := by
  unfold InR
  constructor
  · rintro ⟨r, hr, h1, h2⟩
    obtain ⟨p, hp, rfl⟩ := List.mem_map.1 hr
    exact ⟨p, hp, by simp only at h1; omega, by simp only at h2; omega⟩
  · rintro ⟨p, hp, h1, h2⟩
    exact ⟨_, List.mem_map.2 ⟨p, hp, rfl⟩, by simp only; omega, by simp only; omega⟩
theorem sh_inj {dx : Int} {a b : List Rn} (h : (a.map fun p => ((p.1 + dx, p.2 + dx) : Rn)) = b.map fun p => (p.1 + dx, p.2 + dx)) : a = b := by
  have hf : ∀ l : List Rn, ((l.map fun p => ((p.1 + dx, p.2 + dx) : Rn)).map fun p => ((p.1 - dx, p.2 - dx) : Rn)) = l := by
    intro l
    rw [List.map_map]
    conv => rhs; rw [← List.map_id l]
    refine List.map_congr_left fun p _ => ?_
    obtain ⟨u, v⟩ := p
    simp only [Function.comp, id]
    congr 1 <;> omega
  rw [← hf a, h, hf b]
theorem shB_can {dx dy : Int} {bs : List Bd} (h : CanB bs) : CanB (bs.map (shB dx dy)) := by
  refine ⟨fun b hb => ?_, ?_⟩
  · obtain ⟨c, hc, rfl⟩ := List.mem_map.1 hb
    obtain ⟨h1, h2, h3⟩ := h.1 c hc
    refine ⟨by simp only [shB]; omega, ?_, sh_can h3⟩
    simpa [shB] using h2
  · rw [List.pairwise_map]
    refine h.2.imp fun {a b} hab => ⟨by simp only [shB]; omega, fun he hs => ?_⟩
    refine hab.2 (by simp only [shB] at he; omega) (sh_inj hs)
theorem shB_in {dx dy : Int} {bs : List Bd} {x y : Int} : InB (bs.map (shB dx dy)) x y ↔ InB bs (x - dx) (y - dy) := by
  unfold InB
  constructor
  · rintro ⟨b, hb, h1, h2, h3⟩
    obtain ⟨c, hc, rfl⟩ := List.mem_map.1 hb
    exact ⟨c, hc, by simp only [shB] at h1; omega, by simp only [shB] at h2; omega, sh_inR.1 h3⟩
  · rintro ⟨c, hc, h1, h2, h3⟩
    exact ⟨_, List.mem_map.2 ⟨c, hc, rfl⟩, by simp only [shB]; omega, by simp only [shB]; omega, sh_inR.2 h3⟩
theorem rects_sh (dx dy : Int) : ∀ bs : List Bd, rectsF (bs.map (shB dx dy)) = (rectsF bs).map (shR dx dy)
  | [] => rfl
  | b :: bs => by
    have ih := rects_sh dx dy bs
    unfold rectsF at ih ⊢
    rw [List.map_cons, List.flatMap_cons, List.flatMap_cons, List.map_append, ih]
    congr 1
    simp only [shB, List.map_map]
    exact List.map_congr_left fun p _ => rfl
theorem pt_sh (dx dy : Int) (l : List R) (x y : Int) : ptF (l.map (shR dx dy)) x y = ptF l (x - dx) (y - dy) := by
  unfold ptF
  rw [List.any_map]
  congr 1
  funext r
  simp only [Function.comp, inn, shR]
  congr 1 <;> congr 1 <;> exact decide_eq_decide.2 (by omega)
theorem cl_all {l : List R} (h : ∀ r ∈ l, rempty r = false) : cl l = l := List.filter_eq_self.2 fun r hr => by simp [h r hr]
theorem canon_ne {l : List R} (hc : canonF l = l) : ∀ r ∈ l, rempty r = false := by
  have := canon_clean l
  rw [hc] at this
  exact this
/-- A canonical region that is moved is canonical. -/
theorem canon_sh {l : List R} {dx dy : Int} (hc : canonF l = l) (hr : ∀ r ∈ l, rempty (shR dx dy r) = false) : canonF (l.map (shR dx dy)) = l.map (shR dx dy) := by
  have h1 : cl (l.map (shR dx dy)) = l.map (shR dx dy) := cl_all fun r h => by
    obtain ⟨p, hp, rfl⟩ := List.mem_map.1 h
    exact hr p hp
  have h2 : cl l = l := cl_all (canon_ne hc)
  have e : bandsF orF (l.map (shR dx dy)) [] = (bandsF orF l []).map (shB dx dy) := by
    refine canb_uniq (canon_can _) (shB_can (canon_can l)) fun x y => ?_
    rw [canon_inB, shB_in, canon_inB, h1, h2, pt_sh]
  have h3 : canonF (l.map (shR dx dy)) = rectsF (bandsF orF (l.map (shR dx dy)) []) := rfl
  rw [h3, e, rects_sh]
  show (canonF l).map _ = _
  rw [hc]
theorem inn_area {w h x y : Int} : inn ⟨0, 0, w, h⟩ x y = true ↔ (0 ≤ x ∧ x < w) ∧ 0 ≤ y ∧ y < h := by simp [inn]
/-- What is a region's cut with an area lies in it. -/
theorem mod_in {l : List R} {w h : Int} (hc : canonF l = l) (hm : modF 2 l [⟨0, 0, w, h⟩] = l) : ∀ r ∈ l, (0 ≤ r.x0 ∧ r.x1 ≤ w ∧ 0 ≤ r.y0 ∧ r.y1 ≤ h) ∧ r.x0 < r.x1 ∧ r.y0 < r.y1 := by
  intro r hr
  have hne := rempty_ok r (canon_ne hc r hr)
  have hb := (bands_can (kf := kM 2) rfl l [⟨0, 0, w, h⟩]).2
  have key : ∀ x y, inn r x y = true → (0 ≤ x ∧ x < w) ∧ 0 ≤ y ∧ y < h := by
    intro x y hi
    have h1 : ptF (rectsF (bandsF (kM 2) l [⟨0, 0, w, h⟩])) x y = true := by
      rw [show rectsF (bandsF (kM 2) l [⟨0, 0, w, h⟩]) = l from hm]
      exact List.any_eq_true.2 ⟨r, hr, hi⟩
    have h2 := (hb x y).1 (pt_rects.1 h1)
    have h3 : ptF (cl [⟨0, 0, w, h⟩]) x y = true := by
      unfold kM at h2
      simp only at h2
      rw [if_neg (by decide), if_pos trivial] at h2
      exact (Bool.and_eq_true _ _ ▸ h2).2
    obtain ⟨q, hq, hqi⟩ := List.any_eq_true.1 h3
    have := (List.mem_filter.1 hq).1
    rw [List.mem_singleton] at this
    subst this
    exact inn_area.1 hqi
  have k1 := key r.x0 r.y0 (by simp [inn]; omega)
  have k2 := key (r.x1 - 1) (r.y1 - 1) (by simp [inn]; omega)
  omega
end Go.Proofs.YtmpncpamndhmcaaGreat
end

/-! To whom an event is delivered: to one surface at most, the focus of an allowed client. No program in sight; conditions: as each lemma states them. -/
section
namespace Go.Proofs.YtmpncpamndhmcaaGreat
open Go Go.Ab Go.RowKit

end Go.Proofs.YtmpncpamndhmcaaGreat
end

/-! The pressed buttons of a pointer, walked: collected off the map, in whatever order, and sorted. Conditions: as each lemma states them. -/
section
namespace Go.Proofs.YtmpncpamndhmcaaGreat
open Go Go.Ab Go.RowKit

attribute [local simp] rc_len rc_t4 rc_t1 rc_t2 rc_t3 rc_d1 rc_d2 rc_d3 rc_d4 rc_ag rc_one rc_eq

section
variable {G G0 : AH} {B : PB} {m : PS}
def sortI (l : List Int) : List Int := l.mergeSort fun x y => decide (x ≤ y)
theorem sortI_len (l : List Int) : (sortI l).length = l.length := by simp [sortI]
/-- A row of numbers beside what is held. -/
def IntR (G G' : AH) (out : AV) (l : List Int) : Prop := Sub G G' ∧ Ri G' out l
theorem sorted_eq : ∀ (a b : List Int), a.Pairwise (fun x y => x ≤ y) → b.Pairwise (fun x y => x ≤ y) → a.Perm b → a = b
  | [], b, _, _, h => (List.nil_perm.1 h).symm
  | x :: a, [], _, _, h => absurd h (by simp)
  | x :: a, y :: b, h1, h2, h => by
    have hx := List.pairwise_cons.1 h1
    have hy := List.pairwise_cons.1 h2
    have h3 : y ≤ x := by
      rcases List.mem_cons.1 (h.mem_iff.1 (List.mem_cons_self (a := x) (l := a))) with e | e
      · omega
      · exact hy.1 x e
    have h4 : x ≤ y := by
      rcases List.mem_cons.1 (h.mem_iff.2 (List.mem_cons_self (a := y) (l := b))) with e | e
      · omega
      · exact hx.1 y e
    have e : x = y := by omega
    subst e
    rw [sorted_eq a b hx.2 hy.2 (List.Perm.cons_inv h)]
theorem sortI_pw (l : List Int) : (sortI l).Pairwise (fun x y => x ≤ y) :=
  (List.pairwise_mergeSort (le := fun x y : Int => decide (x ≤ y)) (fun a b c h1 h2 => by simp at *; omega) (fun a b => by simp; omega) l).imp fun h => of_decide_eq_true h
theorem sort_perm_eq {a b : List Int} (h : a.Perm b) : sortI a = sortI b :=
  sorted_eq _ _ (sortI_pw a) (sortI_pw b) (((List.mergeSort_perm a _).trans h).trans (List.mergeSort_perm b _).symm)
theorem vis_true (m : List Int) (st : List Nat) (hl : st.length = m.length) (seen : List Nat) (h : ∀ x ∈ st, x ∈ seen) : vis (fun _ : Int => true) m st seen = m := by
  rw [vis_all (fun _ => true) m st seen hl.symm h]
  exact List.filter_eq_self.2 fun _ _ => rfl
theorem c11 {K : AV → AH → Prop} (h : BOk G B m) (hm : m.pr.length ≤ 1000000)
    (hk : ∀ out G', BOk G' B m → IntR G G' out (sortI m.pr) → K out (PV G' B m)) : @AC Tryz.prog 11 [pA B.p] (PV G B m) ⟨K⟩ := by
  have hp := PV_ptr (G := G) (B := B) (m := m)
  have hmp : PV G B m B.mp = some (.map (prI m.pr) m.st m.ck) := PV_mp h
  refine AC_of (.forget ?_)
  refine call_c follows cf11_ok (by simp) ?_
  simp
  refine c33 PV_ptr ?_
  simp [hp, mpv, hmp]
  refine newK_of fun it hit => ?_
  have hst := h.st
  have hbi : B.mp ≠ it := ne_of_free hmp hit
  simp
  refine wpc_loop (fun s => ∃ (seen : List Nat) (out : AV) (l : List Int) (Hs : AH), s.n = 24 ∧ s.H = Hs ∧ s.t 3 = out ∧ s.t 12 = pA it ∧ Row (upd (PV G B m) it (.it B.mp m.ck m.ck seen)) Hs out (l.map vi) l.length 1 ∧ l.Perm (vis (fun _ => true) m.pr m.st seen))
    (fun s => left m.st (slotSn s.H it)) ?_ ?_
  · refine FgK.same ⟨[], vnil, [], _, rfl, rfl, by simp, by simp, Row.nil _ 1, ?_⟩
    rw [vis_nil]
  rintro s ⟨seen, out, l, Hs, hn, hH, e3, e12, hrow, hperm⟩
  have hsub := hrow.sub
  have hHi : Hs it = some (.it B.mp m.ck m.ck seen) := hsub _ _ (by simp [upd_apply])
  have hHb : Hs B.mp = some (.map (prI m.pr) m.st m.ck) := hsub _ _ (by simp [upd_apply, hbi, hmp])
  have hms : left m.st (slotSn s.H it) = left m.st seen := by rw [hH, slotSn_of hHi]
  simp [hH, e12, hHi, hHb]
  refine nextK_of hst.2.2 (Nat.le_refl _) (fun hall => ?_) (fun j e s1 hj hs1 hns => ?_)
  · -- all were shown
    have hp2 : l.Perm m.pr := by rw [← vis_true m.pr m.st hst.1 seen hall]; exact hperm
    have hpl := hp2.length_eq
    have hsl : sortI l = sortI m.pr := by
      have := sort_perm_eq hp2
      exact this
    have hsubH : Sub (PV G B m) (upd (PV G B m) it (.it B.mp m.ck m.ck seen)) := (Sub.refl _).upd hit
    rcases hrow with ⟨f1, f2, rfl, rfl⟩ | ⟨q, rfl, hq, rfl⟩
    · obtain rfl : l = [] := by simpa using f2
      simp [hn, hH, e3]
      refine AC_of (sort_nil Tryz.slices_Sort_int_none ?_)
      simp
      refine ⟨PV G B m, hsubH, hk vnil G h ⟨Sub.refl _, ?_⟩⟩
      rw [← hsl, show sortI [] = [] by simp [sortI]]
      exact Rw.nil _ _
    · simp [hn, hH, e3]
      have hl : l.length < 4611686018427387904 := by omega
      have hq2 : PV G B m q = none := by
        have : q ≠ it := by rintro rfl; simp [upd_apply] at hq
        simpa [upd_apply, this] using hq
      refine AC_of (sort_row (enc := Value.int .i64) (b := q) (pre := []) (post := []) (zs := l) (fun blk off cap zs w => Tryz.slices_Sort_int blk off cap zs w) (by simp [upd_apply, rowC]) hl ?_)
      simp
      obtain ⟨p1, p2, p3, p4⟩ := PV_new h hq2 (.cells ((sortI l).map vi))
      refine ⟨upd (PV G B m) q (.cells ((sortI l).map vi)), ?_, ?_⟩
      · intro j o hj
        simp only [upd_apply] at hj ⊢
        split
        · rename_i e; rw [if_pos e] at hj; exact hj
        · rename_i e
          rw [if_neg e] at hj
          rw [if_neg (by rintro rfl; rw [hit] at hj; cases hj)]
          exact hj
      · rw [p1]
        refine hk _ _ p2 ⟨p4, ?_⟩
        rw [← hsl]
        have : l.length = (sortI l).length := (sortI_len l).symm
        rw [this]
        exact Rw.sl (by simp) (by simp [upd_apply])
  · -- one more
    obtain ⟨x, hx, rfl⟩ : ∃ x, m.pr[j]? = some x ∧ e = (.int .i64 x, vb true) := by
      simp only [prI, mI, List.getElem?_map, Option.map_eq_some_iff] at hj
      obtain ⟨x, h3, h4⟩ := hj
      exact ⟨x, h3, h4.symm⟩
    have he := entF_of (prI m.pr) m.st j _ s1 hst.2.1 hj hs1
    have hstp := vis_step (fun _ => true) m.pr m.st seen j x s1 hst.2.1 hx hs1 hns
    have hrow2 := hrow.turn (X' := .it B.mp m.ck m.ck (s1 :: seen))
    have hlt := left_lt (List.mem_of_getElem? hs1) hns
    have hll : l.length ≤ m.pr.length := by
      have h3 := hperm.length_eq
      have h4 := (vis_sub (fun _ => true) m.pr m.st seen)
      omega
    simp [hn, hH, e3, e12, hHb, he, hbi]
    refine newK_of fun y hy => ?_
    have hsy : Sub (upd Hs it (.it B.mp m.ck m.ck (s1 :: seen))) (upd (upd Hs it (.it B.mp m.ck m.ck (s1 :: seen))) y (.cells [vi x])) := (Sub.refl _).upd hy
    have nz := free_ne hy
    simp
    refine hrow2.app (by exact hsy) (by decide) rfl (by simp) (by omega) fun q H' hq hsq => ?_
    simp
    refine FgK.of _ hsq ⟨⟨s1 :: seen, .sl q 0 (l.length + 1) 1 false, l ++ [x], _, by simp, rfl, by simp, by simp, ?_, ?_⟩, ?_⟩
    · have := Row.mk (cs := l.map vi ++ [vi x]) (n := l.length + 1) (sz := 1) hq
      simpa using this
    · have h5 := hstp.symm
      simp only [if_true] at h5
      exact (hperm.append_right _).trans h5
    · have hqi : q ≠ it := by rintro rfl; simp [upd_apply] at hq
      rw [slotSn_of (m := B.mp) (since := m.ck) (last := m.ck) (seen := s1 :: seen) (by simp [upd_apply, Ne.symm hqi]), hms]; exact hlt
end
end Go.Proofs.YtmpncpamndhmcaaGreat
end

/-! The reference's topmost item at a point, walked: regions moved, the input region, At. Conditions: as each lemma states them. -/
section
namespace Go.Proofs.YtmpncpamndhmcaaGreat
open Go Go.Ab Go.RowKit

attribute [local simp] rc_len rc_t4 rc_t1 rc_t2 rc_t3 rc_d1 rc_d2 rc_d3 rc_d4 rc_ag rc_one rc_eq min2_t min2_f

theorem c130 (n : Int) (h1 : -16384 ≤ n) (h2 : n ≤ 16384) : PC Tryz.prog 130 [vi n] (vi n) := by
  refine .tell fun H => ?_
  refine call_c follows cf130_ok (by simp) ?_
  have e1 : (if n < 16384 then n else 16384) = n := by split <;> omega
  have e2 : (if -16384 < n then n else -16384) = n := by split <;> omega
  have e3 : ¬ 16384 < n := by omega
  have e4 : ¬ n < -16384 := by omega
  simp [e1, e2]
  exact Sub.refl _
theorem c108 {H : AH} {K : AV → AH → Prop} {a : AV} {l : List R} {dx dy : Int} (ha : Rr H a l) (hl : l.length ≤ 256) (hx : -16384 ≤ dx ∧ dx ≤ 16384) (hy : -16384 ≤ dy ∧ dy ≤ 16384) (hc : canonF l = l)
    (hr : ∀ r ∈ l, rempty (shR dx dy r) = false) (hk : ∀ out H', Sub H H' → Rr H' out (l.map (shR dx dy)) → K (.tp [out, vi 0]) H') : @AC Tryz.prog 108 [a, vi dx, vi dy] H ⟨K⟩ := by
  have la := fun k => Rw.lenK ha (k := k)
  refine AC_of (.forget ?_)
  refine call_c follows cf108_ok (by simp) ?_
  have d1 : ¬ dx < -65536 := by omega
  have d2 : ¬ 65536 < dx := by omega
  have d3 : ¬ dy < -65536 := by omega
  have d4 : ¬ 65536 < dy := by omega
  have d5 : dx < 65536 := by omega
  have d6 : -65536 < dx := by omega
  have d7 : dy < 65536 := by omega
  have d8 : -65536 < dy := by omega
  have hne := canon_ne hc
  simp [d5, d6, d7, d8]
  refine wpc_loop (fun s => ∃ (i : Nat) (o : AV) (Hs : AH), s.n = 68 ∧ s.H = Hs ∧ s.t 0 = a ∧ s.t 1 = vi dx ∧ s.t 2 = vi dy ∧ s.t 8 = o ∧ s.t 9 = vi i ∧ i ≤ l.length ∧ Row H Hs o (flat rc ((l.take i).map (shR dx dy))) i 4) (fun s => l.length - slotN (s.t 9)) ?_ ?_
  · exact FgK.same ⟨0, vnil, H, by simp, by simp, by simp, by simp, by simp, by simp, by simp, by omega, Row.nil H 4⟩
  rintro s ⟨i, o, Hs, hn, hH, e0, e1, e2, e8, e9, hi, hrow⟩
  have hsub := hrow.sub
  by_cases hlt : i < l.length
  · have wr := IntWalk.i64_in ((i : Int) + 1) (by omega)
    obtain ⟨p, hp1, hp2, hpf⟩ := fat rc_l (ha.sub hsub) hlt
    have et := take_snoc' hlt
    have hrn := hne _ (List.getElem_mem hlt)
    have hrs := hr _ (List.getElem_mem hlt)
    generalize l[i] = r at *
    obtain ⟨q0, f0, g0⟩ := hpf 0 (vi r.x0) rfl
    obtain ⟨q1, f1, g1⟩ := hpf 1 (vi r.y0) rfl
    obtain ⟨q2, f2, g2⟩ := hpf 2 (vi r.x1) rfl
    obtain ⟨q3, f3, g3⟩ := hpf 3 (vi r.y1) rfl
    have r1 := rempty_ok r hrn
    have r2 := rempty_ok _ hrs
    simp only [shR] at r2
    have w0 := IntWalk.i64_in (r.x0 + dx) (by omega)
    have w1 := IntWalk.i64_in (r.y0 + dy) (by omega)
    have w2 := IntWalk.i64_in (r.x1 + dx) (by omega)
    have w3 := IntWalk.i64_in (r.y1 + dy) (by omega)
    have hus : usF r = true := by rw [usF_eq, hrn]; rfl
    have oo := Row.one hrow
    have n0 := (c130 (r.x0 + dx) (by omega) (by omega))
    have n1 := (c130 (r.y0 + dy) (by omega) (by omega))
    have n2 := (c130 (r.x1 + dx) (by omega) (by omega))
    have n3 := (c130 (r.y1 + dy) (by omega) (by omega))
    simp (disch := omega) [hn, hH, e0, e1, e2, e8, e9, la, hlt, hp1, hp2 _ (Sub.refl _)]
    refine (c71 _).ac ?_
    simp (disch := omega) [hus, hp1, f0, g0 _ (Sub.refl _), f1, g1 _ (Sub.refl _), f2, g2 _ (Sub.refl _), f3, g3 _ (Sub.refl _), w0, w1, w2, w3]
    refine n0.ac ?_
    simp (disch := omega) [g1 _ (Sub.refl _), g2 _ (Sub.refl _), g3 _ (Sub.refl _)]
    refine n1.ac ?_
    simp (disch := omega) [g2 _ (Sub.refl _), g3 _ (Sub.refl _)]
    refine n2.ac ?_
    simp (disch := omega) [g3 _ (Sub.refl _)]
    refine n3.ac ?_
    simp
    refine newK_of fun y hy => ?_
    have hsy : Sub Hs (upd Hs y (.cells (rc (shR dx dy r)))) := (Sub.refl Hs).upd hy
    generalize hx4 : AV.sl y 0 1 4 true = x4
    have hnw : ∀ k : Nat → List AV → Prop, @NEWS (upd Hs y (.cells (rc (shR dx dy r)))) x4 4 ⟨k⟩ = k 1 (rc (shR dx dy r)) := by intro k; rw [← hx4]; simp
    have hrc : shR dx dy r = ⟨r.x0 + dx, r.y0 + dy, r.x1 + dx, r.y1 + dy⟩ := rfl
    rw [hrc] at hsy hnw
    simp [hnw]
    refine hrow.app hsy (by decide) rfl (by rw [flat_len rc_l]; simp; omega) (by omega) fun q H' hq hsq => ?_
    simp (disch := omega) [wr]
    refine FgK.of _ hsq ⟨⟨i + 1, .sl q 0 (i + 1) 4 false, _, by simp, rfl, by simp, by simp, by simp, by simp, by simp, by omega, ?_⟩, by simp [e9]; omega⟩
    have := Row.mk (cs := flat rc ((l.take i).map (shR dx dy) ++ [shR dx dy r])) (n := i + 1) (sz := 4) hq
    rw [← flat_snoc] at this
    rw [et, List.map_append, List.map_cons, List.map_nil, ← flat_snoc]
    exact this
  · have he : i = l.length := by omega
    subst he
    rw [List.take_length] at hrow
    simp (disch := omega) [hn, hH, e0, e1, e2, e8, e9, la]
    have hlm : (l.map (shR dx dy)).length = l.length := by simp
    have hr1 : Rr Hs o (l.map (shR dx dy)) := by
      have := (hrow.rin (by rw [flat_len rc_l, hlm])).rd
      unfold Rr
      rw [hlm]
      exact this
    refine c120 (lb := []) hr1 (Rw.nil _ _) (by omega) (by simp) fun out H' hro => ?_
    rw [kM1] at hro
    have hro : Row Hs H' out (flat rc (canonF (l.map (shR dx dy)))) (canonF (l.map (shR dx dy))).length 4 := hro
    rw [canon_sh hc hr] at hro
    have hr2 := (hro.rin (flat_len rc_l _)).rd
    have cc := Rw.cells hr2
    simp
    refine c119 (fun k => Rw.lenK hr2) cc (fun h => ?_) fun h => by omega
    simp
    exact ⟨H', Sub.refl _, hk _ _ (hsub.trans hro.sub) hr2⟩
/-- An item's input region, moved to its place. -/
def inpL (i : It) : List R := i.li.map (shR i.x i.y)
theorem vi_sh {i : It} (h : VI i) : ∀ r ∈ i.li, rempty (shR i.x i.y r) = false := by
  intro r hr
  have h1 := mod_in h.ci h.mi r hr
  have h2 := bufOk_rng h.buf
  have h3 := posOk_rng h.pos
  refine rempty_of _ ?_
  simp only [shR]
  omega
theorem acc_eq {i : It} (h : VI i) (x y : Int) : accF i x y = ptF (inpL i) x y := by
  have hb : bndI i = ⟨i.x, i.y, i.x + i.w, i.y + i.h⟩ := by
    have h2 := bufOk_rng h.buf
    have hA : areaI i = ⟨0, 0, i.w, i.h⟩ := by
      unfold areaI
      rw [if_pos (by rw [h.buf, h.pos]; rfl)]
    unfold bndI
    rw [hA, if_neg]
    rw [req_iff]
    intro e
    injection e with e1 e2 e3 e4
    omega
  unfold inpL
  rw [pt_sh]
  have he : ∀ r ∈ i.li, rctF r (x - i.x) (y - i.y) = inn r (x - i.x) (y - i.y) := fun r hr => by
    have hn := canon_ne h.ci r hr
    unfold rctF inn rcan
    rw [if_neg (by simp [hn])]
    simp [Bool.and_assoc]
  have hany : (i.li.any fun r => rctF r (x - i.x) (y - i.y)) = ptF i.li (x - i.x) (y - i.y) := by
    unfold ptF
    refine bool_eq ?_
    simp only [List.any_eq_true]
    exact ⟨fun ⟨r, hr, g⟩ => ⟨r, hr, by rw [← he r hr]; exact g⟩, fun ⟨r, hr, g⟩ => ⟨r, hr, by rw [he r hr]; exact g⟩⟩
  unfold accF
  rw [hany, hb]
  cases hp : ptF i.li (x - i.x) (y - i.y) with
  | false => simp
  | true =>
    obtain ⟨r, hr, h1, h2⟩ := ptF_iff.1 hp
    have h3 := mod_in h.ci h.mi r hr
    simp
    omega
theorem c44 {H : AH} {K : AV → AH → Prop} {i : It} (hi : It0 H i) (hv : VI i) (h12 : i.li.length ≤ 12) (hk : ∀ out H', Sub H H' → Rr H' out (inpL i) → K out H') : @AC Tryz.prog 44 [.ag (itc i)] H ⟨K⟩ := by
  have hl : (itc i).length = 9 := rfl
  have hone := hi.one
  have ht : (itc i).take 9 = itc i := rfl
  have h2 := bufOk_rng hv.buf
  have h3 := posOk_rng hv.pos
  have ai := Rw.one hi.ai
  have aic := Rw.cells hi.ai
  refine AC_of (.forget ?_)
  refine call_c follows cf44_ok (by simp) ?_
  simp [hl]
  refine newK_of fun b hb => ?_
  have hS : Sub H (upd H b (.cells (itc i))) := (Sub.refl H).upd hb
  have hbb : upd H b (.cells (itc i)) b = some (.cells (itc i)) := by simp [upd_apply]
  have d8 : ((itc i).drop 8).take 1 = [i.ai] := rfl
  generalize upd H b (.cells (itc i)) = G at *
  simp [hbb, hl, ht, d8]
  refine AC_of (.forget ?_)
  refine call_c follows cf72_ok (by simp) ?_
  simp [hl]
  refine newK_of fun c hc => ?_
  have hS2 : Sub H (upd G c (.cells (itc i))) := hS.trans ((Sub.refl G).upd hc)
  have hcc : upd G c (.cells (itc i)) c = some (.cells (itc i)) := by simp [upd_apply]
  generalize upd G c (.cells (itc i)) = G2 at *
  have d4 : (((itc i).drop 4)).take 1 = [vi i.w] := rfl
  have d5 : (((itc i).drop 5)).take 1 = [vi i.h] := rfl
  have d2 : (((itc i).drop 2)).take 1 = [vi i.x] := rfl
  have d3 : (((itc i).drop 3)).take 1 = [vi i.y] := rfl
  simp [hcc, hl, ht]
  refine c56 (hi.sub hS2) ?_
  have hbr : bndR i = ⟨i.x, i.y, i.x + i.w, i.y + i.h⟩ := by unfold bndR; rw [if_pos ⟨hv.pos, hv.buf⟩]
  have hwx : ¬ (i.x = 0 ∧ i.y = 0 ∧ i.x + i.w = 0 ∧ i.y + i.h = 0) := by omega
  have hwx' : ¬ (req (bndR i) ⟨0, 0, 0, 0⟩ = true) := by rw [hbr]; simp [req]; omega
  have hz0 : AV.ag [AV.pl (.int .i64 0), AV.pl (.int .i64 0), AV.pl (.int .i64 0), AV.pl (.int .i64 0)] = .ag (rc ⟨0, 0, 0, 0⟩) := rfl
  generalize bndR i = bx at *
  simp only [Bool.not_eq_true] at hwx'
  simp [hz0, hwx', hcc, hl, d4, d5]
  refine c86 i.w i.h fun o1 H1 hs1 ho1 => ?_
  have o1c := Rw.cells ho1
  have hcc1 := hs1 _ _ hcc
  simp
  refine c85 ((hi.ai.sub hS2).sub hs1) ho1 (by omega) (by simp) (fun h256 o2 H2 ho2 => ?_) fun h256 => ?_
  · have hr2 : Rr H2 o2 (modF 2 i.li [⟨0, 0, i.w, i.h⟩]) := (ho2.rin (flat_len rc_l _)).rd
    rw [hv.mi] at hr2
    have hcc2 := ho2.sub _ _ hcc1
    have o2c := Rw.cells hr2
    simp [hcc2, hl, d2, d3]
    refine c108 hr2 (by omega) (by omega) (by omega) hv.ci (vi_sh hv) fun o3 H3 hs3 ho3 => ?_
    have o3c := Rw.cells ho3
    simp
    exact ⟨H3, Sub.refl _, H3, Sub.refl _, hk _ _ (((hS2.trans hs1).trans ho2.sub).trans hs3) ho3⟩
  · rw [hv.mi] at h256
    omega
theorem c19 {H : AH} {K : AV → AH → Prop} {a : AV} {L : List It} {x y : Int} (ha : ItsR H a L) (hl : LiS L) (hk : K (vi (atF L x y)) H) : @AC Tryz.prog 19 [a, vi x, vi y] H ⟨K⟩ := by
  have la := fun k => Rw.lenK ha.1 (k := k)
  have h8 := hl.len
  refine AC_of (.forget ?_)
  refine call_c follows cf19_ok (by simp) ?_
  have w0 := IntWalk.i64_in ((L.length : Int) - 1) (by omega)
  simp [la, w0]
  refine wpc_loop (fun s => ∃ n : Nat, s.n = 24 ∧ s.H = H ∧ s.t 0 = a ∧ s.t 1 = vi x ∧ s.t 2 = vi y ∧ s.t 7 = vi ((n : Int) - 1) ∧ n ≤ L.length ∧ atG L x y L.length = atG L x y n) (fun s => slotP (s.t 7)) ?_ ?_
  · exact FgK.same ⟨L.length, by simp, by simp, by simp, by simp, by simp, by simp, by omega, rfl⟩
  rintro s ⟨n, hn, hH, e0, e1, e2, e7, hle, hat⟩
  cases n with
  | zero =>
    simp [hn, hH, e0, e1, e2, e7]
    refine ⟨H, Sub.refl _, ?_⟩
    unfold atF at hk
    rw [hat] at hk
    exact hk
  | succ n =>
    have hlt : n < L.length := by omega
    have hc : (0 : Int) ≤ ((n + 1 : Nat) : Int) - 1 := by omega
    have hc2 : ((n + 1 : Nat) : Int) - 1 = n := by omega
    obtain ⟨p, hp1, hp2⟩ := fsee itc_l ha.1 hlt
    have wn := IntWalk.i64_in ((n : Int) - 1) (by omega)
    rw [hc2] at e7
    have hio := ha.2 _ (List.getElem_mem hlt)
    have hvi := hl.vi _ (List.getElem_mem hlt)
    have hsm := hl.sm _ (List.getElem_mem hlt)
    have hhit := fun h => atG_hit (L := L) (x := x) (y := y) hlt h
    have hmiss := fun h => atG_miss (L := L) (x := x) (y := y) hlt h
    generalize L[n] = i at *
    have hil : (itc i).length = 9 := rfl
    simp [hn, hH, e0, e1, e2, e7, hp1, hp2 _ (Sub.refl _)]
    refine c44 ⟨hio.px, hio.ao, hio.ai⟩ hvi hsm.2 fun o1 H1 hs1 ho1 => ?_
    have o1c := Rw.cells ho1
    have hlen : (inpL i).length ≤ 1000000 := by unfold inpL; rw [List.length_map]; omega
    simp
    refine c43 ho1 hlen ?_
    have hcl : cl (inpL i) = inpL i := cl_all fun r hr => by
      unfold inpL at hr
      obtain ⟨q, hq, rfl⟩ := List.mem_map.1 hr
      exact vi_sh hvi q hq
    rw [hcl, ← acc_eq hvi]
    cases hacc : accF i x y with
    | true =>
      simp
      refine ⟨H, hs1, ?_⟩
      unfold atF at hk
      rw [hat, hhit hacc] at hk
      exact hk
    | false =>
      simp [wn]
      refine FgK.of H hs1 ⟨⟨n, by simp, by simp, by simp, by simp, by simp, by simp, by omega, ?_⟩, by simp [e7]⟩
      rw [hat, hmiss hacc]
end Go.Proofs.YtmpncpamndhmcaaGreat
end
