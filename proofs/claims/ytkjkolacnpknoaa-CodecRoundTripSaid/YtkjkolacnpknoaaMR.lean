/-
  Several texts in one: C26; C27; C28. Conditions: as each lemma states them.
-/
import Derived.Test.YtkjkolacnpknoaaMD
import Derived.Test.YtkjkolacnpknoaaXRow
import Derived.Test.YtkjkolacnpknoaaRows
import Derived.WalkKit
import Derived.ProofKit
/-! Contains of a region, walked. Conditions: as each lemma states them. -/
section
namespace Go.Proofs.Ytkjkolacnpknoaa
open Go Go.Ab Go.RowKit
set_option linter.unusedSimpArgs false
set_option linter.unusedVariables false
set_option linter.unnecessarySimpa false

attribute [local simp] condK_true condK_false condK_not wpc_skip wpc_ret wpc_exit wpc_seq wpc_reg wpc_regD testA_bool wpc_cond wpc_block thenA_normal thenA_ret thenA_exit blockA_normal blockA_ret blockA_exit blockA_other endA_normal endA_ret ev_tmp' ev_const ev_func ev_global cv_int cv_bool cv_string cv_pointer cv_slice cv_agg cv_map put_some put_none wH_s setE_apply setE_env less_eq env_cons env_nil upd_upd upd_apply del_apply startA_eq cells_ag cells_sl one_sl cells_vs one_vs cells_ep one_ep cells_fn one_fn cells_int one_int cells_bool one_bool cells_string one_string cells_pointer one_pointer cells_slice one_slice cells_map one_map cells_agg resK_one resK_nil resK_two rvK_t rvK_c rvsK_nil rvsK_cons iseq_nil iseq_cons gdA_true gdA_false gdA_undef istep_free istep_guard istepV_free istepV_guard dseq_nil dseq_pu dseq_rd dseq_ef wpc_regT dtree_nil dtree_pu dtree_rd dtree_ef dtree_br chkAll_nil chkAll_cons andK_true pickK_true pickK_false pickK_tb pickK_fb bin2K_pl eqbK_eq eqbK_ne eqpK_eq eqpK_ne eqmK_eq eqmK_ne eqzK_eq eqzK_ne eqzK_sl eqzK_vs un1K_pl convK_int fillK_some fillA_cons fillA_nil cellsK_some needK_true needK_ok seeK_ep seeK_ptr oneK_agg oneK_one nilcK_ptr nilcK_ep fadrK_ptr fadrK_ep fldK_ag iadAK_ptr iadAK_ep iadSK_sl iadSK_vs extK_0 extK_1 extK_2 extK_3 lenK_pl lenK_sl lenK_vs lensK_pl boxK_some minmax1K_int storeK_ptr callvK_fn callvK_pl newsK_nil newsK_vs newsK_sl appK_nil appK_nil0 appK_sl appK_vs bnd1K_int bndK_none bndK_some slsK_vs slsK_nil slsK_sl0 slsK_sl slstrK_pl boolK_some eqsK_ag iop_eqs iop_sls iop_slstr seesK_some seesK_ro mapsK_some MAP_some findK_some findK_none plK_pl nmapK_none nmapK_some iop_mlook iop_mlen iop_mmk iop_mupd iop_mdel iop_mrng itK_none itK_some ptr0K_ptr iop_mnxt iop_ment it1K_some entK_some iop_mov iop_pick iop_bin iop_eqb iop_eqp iop_eqm iop_eqz iop_un capK_pl capK_sl capK_vs iop_cap iop_b2s b2sK_nil b2sK_sl b2sK_vs strK_some iop_idxv idxvK_ag atK_some apzK_nil iop_apz mksK_int iop_mks clrK_sl clrK_vs clrK_nil iop_clr iop_conv iop_build iop_load iop_nilc iop_fadr iop_fld iop_iadA iop_iadS iop_ext iop_mkf iop_len iop_lens iop_minmax iop_al iop_box iop_bsl iop_store iop_call iop_callv iop_app BIN_add BIN_sub BIN_mul BIN_and BIN_or BIN_xor BIN_andNot BIN_eql BIN_neq BIN_lss BIN_leq BIN_gtr BIN_geq BIN_quo BIN_rem BIN_shl BIN_shr BIN_sadd BIN_seql BIN_sneq BIN_slss BIN_sleq BIN_sgtr BIN_sgeq UN_neg UN_xor UN_not MM_nil MM_cons partsA argsA ptrA lessL eqL min2I slotN_int slotP_int slotI_int
attribute [local simp] rc_len rc_t4 rc_t1 rc_t2 rc_t3 rc_d1 rc_d2 rc_d3 rc_d4 rc_ag rc_one rc_eq min2_t min2_f

def rctF (r : R) (x y : Int) : Bool := decide ((rcan r).x0 ≤ x) && (decide (x < (rcan r).x1) && (decide ((rcan r).y0 ≤ y) && decide (y < (rcan r).y1)))
theorem c39 (r : R) (x y : Int) : PC Try.prog 39 [.ag (rc r), vi x, vi y] (vb (rctF r x y)) := by
  refine .tell fun H => ?_
  refine call_c follows cf39_ok (by simp) ?_
  unfold rctF
  repeat' (first | simp [*] | (with_reducible (refine newK_of fun _ h_ => ?_); have hn_ := free_ne h_; (try simp only [upd_none', ne_eq] at h_)) | (with_reducible (refine condK_of (fun h_ => ?_) (fun h_ => ?_))) | with_reducible (refine (c52 ..).ac ?_))
  all_goals ((try with_reducible refine And.intro ?_ ?_) <;> (try (repeat' (first | with_reducible exact Sub.refl _ | with_reducible refine Sub.of_upd (by simp [*]) ?_))))
  all_goals simp_all
theorem c38 {H : AH} {K : AV → AH → Prop} {b1 b2 : Nat} {x y : Int} {r : R} (h1 : H b1 = some (.cells [vi x])) (h2 : H b2 = some (.cells [vi y])) (hk : K (vb (rctF r x y)) H) :
    @AC Try.prog 38 [.ag (rc r), pA b1, pA b2] H ⟨K⟩ := by
  refine AC_of (.forget ?_)
  refine call_c follows cf38_ok (by simp) ?_
  simp
  refine newK_of fun b hb => ?_
  have n1 := free_ne hb b1 (by rw [h1]; simp)
  have n2 := free_ne hb b2 (by rw [h2]; simp)
  simp [n1, n2, h1, h2]
  refine (c39 r x y).ac ?_
  simp
  exact ⟨H, (Sub.refl H).upd hb, hk⟩
theorem good_c1 : goodCallee Try.prog 38 = true := by kernel_rfl
theorem c51 {H : AH} {K : AV → AH → Prop} {a : AV} {b1 b2 : Nat} {x y : Int} {l : List R} (h1 : H b1 = some (.cells [vi x])) (h2 : H b2 = some (.cells [vi y])) (ha : Rr H a l) (hl : l.length ≤ 10000000) (hk : ∀ i : Int, (0 ≤ i ↔ (l.any fun r => rctF r x y) = true) → K (vi i) H) :
    @AC Try.prog 51 [a, .fn 38 [] [pA b1, pA b2]] H ⟨K⟩ := by
  have la := fun k => Rw.lenK ha (k := k)
  have g1 := good_c1
  refine AC_of (.forget ?_)
  refine call_c follows cf51_ok (by simp) ?_
  simp [la]
  refine wpc_loop (fun s => ∃ (i : Nat), s.n = 19 ∧ s.H = H ∧ s.t 0 = a ∧ s.t 1 = .fn 38 [] [pA b1, pA b2] ∧ s.t 7 = vi l.length ∧ s.t 8 = vi i ∧ i ≤ l.length ∧ ((l.take i).any fun r => rctF r x y) = false) (fun s => l.length - slotN (s.t 8)) ?_ ?_
  · exact FgK.same ⟨0, by simp, by simp, by simp, by simp, by simp, by simp, by omega, by simp⟩
  rintro s ⟨i, hn, hH, e0, e1, e7, e8, hi, hc⟩
  by_cases hlt : i < l.length
  · have wr := IntWalk.i64_in ((i : Int) + 1) (by omega)
    obtain ⟨p, hp1, hp2⟩ := fsee rc_l ha hlt
    have et := take_snoc' hlt
    have hcp : ((l.take (i + 1)).any fun r => rctF r x y) = rctF l[i] x y := by rw [et, List.any_append, hc]; simp
    have hall : rctF l[i] x y = true → (l.any fun r => rctF r x y) = true := fun h => List.any_eq_true.2 ⟨l[i], List.getElem_mem hlt, h⟩
    generalize l[i] = r at *
    simp (disch := omega) [hn, hH, e0, e1, e7, e8, hlt, hp1, hp2 _ (Sub.refl _), g1]
    refine c38 h1 h2 ?_
    cases h : rctF r x y with
    | true =>
      simp
      exact ⟨H, Sub.refl _, hk _ (by simp [hall h])⟩
    | false =>
      simp (disch := omega) [hn, wr]
      exact FgK.same ⟨⟨i + 1, by simp, by simp, by simp [e0], by simp [e1], by simp [e7], by simp, by omega, by rw [hcp, h]⟩, by simp [e8]; omega⟩
  · rw [List.take_of_length_le (by omega)] at hc
    simp (disch := omega) [hn, hH, e0, e1, e7, e8, hlt]
    exact ⟨H, Sub.refl _, hk _ (by simp [hc])⟩
theorem c37 {H : AH} {K : AV → AH → Prop} {a : AV} {b1 b2 : Nat} {x y : Int} {l : List R} (h1 : H b1 = some (.cells [vi x])) (h2 : H b2 = some (.cells [vi y])) (ha : Rr H a l) (hl : l.length ≤ 10000000) (hk : K (vb (l.any fun r => rctF r x y)) H) :
    @AC Try.prog 37 [a, .fn 38 [] [pA b1, pA b2]] H ⟨K⟩ := by
  refine call_c follows cf37_ok (by simp) ?_
  simp
  refine c51 h1 h2 ha hl fun i hi => ?_
  cases h : (l.any fun r => rctF r x y) with
  | true => rw [h] at hk hi; have : 0 ≤ i := hi.2 rfl; simp [this]; exact hk
  | false => rw [h] at hk hi; have : ¬ 0 ≤ i := fun g => by simpa using hi.1 g
             simp [this]; exact hk
theorem c20 {H : AH} {K : AV → AH → Prop} {a : AV} {l : List R} {x y : Int} (ha : Rr H a l) (hl : l.length ≤ 10000000) (hk : K (vb (l.any fun r => rctF r x y)) H) : @AC Try.prog 20 [a, vi x, vi y] H ⟨K⟩ := by
  refine AC_of (.forget ?_)
  refine call_c follows cf20_ok (by simp) ?_
  simp
  refine newK_of fun b hb => ?_
  simp
  refine newK_of fun c hc => ?_
  have n1 := free_ne hc b (by simp [upd_apply])
  have hcH : H c = none := by simp only [upd_apply] at hc; split at hc <;> simp_all
  have hS : Sub H (upd (upd H b (.cells [vi x])) c (.cells [vi y])) := ((Sub.refl H).upd hb).upd hcH
  simp
  refine c37 (x := x) (y := y) (by simp [upd_apply, n1]) (by simp [upd_apply]) (Rw.sub ha hS) hl ?_
  simp
  exact ⟨H, hS, hk⟩
theorem any_pt (l : List R) (x y : Int) : (l.any fun r => rctF r x y) = ptF (cl l) x y := by
  refine bool_eq ?_
  rw [List.any_eq_true, ptF_iff]
  constructor
  · rintro ⟨r, hr, h⟩
    unfold rctF rcan at h
    cases he : rempty r with
    | true => rw [he] at h; simp at h; omega
    | false =>
      rw [he] at h
      simp at h
      exact ⟨r, List.mem_filter.2 ⟨hr, by simp [he]⟩, by omega, by omega⟩
  · rintro ⟨r, hr, h1, h2⟩
    obtain ⟨hr, he⟩ := List.mem_filter.1 hr
    have he : rempty r = false := by simpa using he
    refine ⟨r, hr, ?_⟩
    unfold rctF rcan
    rw [he]
    simp
    omega
theorem fr_can {w h : Int} (hw : 1 ≤ w ∧ w ≤ 256) (hh : 1 ≤ h ∧ h ≤ 256) : canonF [fr w h] = [fr w h] := by
  have hb : CanB [((0 : Int), h, [((0 : Int), w)])] := canB_one.2 ⟨by simp only; omega, by simp, ⟨fun r hr => by rw [List.mem_singleton] at hr; subst hr; simp only; omega, by simp⟩⟩
  have hr : rectsF [((0 : Int), h, [((0 : Int), w)])] = [fr w h] := rfl
  have := rects_canon hb (by
    rw [hr]
    have := fr_clean hw hh
    exact fun r h2 => by rw [← this] at h2; exact cl_ok _ r h2)
  rw [hr] at this
  exact this
theorem fr_in {w h : Int} : InFr w h [fr w h] := fun r hr => by
  rw [List.mem_singleton] at hr
  subst hr
  simp [fr]
/-- All of a buffer is covered. -/
theorem fr_cov {o n : Bf} (ho : bOk o = true) : covB o n [fr o.w o.h] = true := by
  obtain ⟨hw, hh, hl, _⟩ := bOk_iff.1 ho
  rw [cov_iff]
  intro k hk
  refine .inl ((posF_mem fr_in).2 ⟨⟨by omega, by omega⟩, fr_pt.2 ⟨⟨Int.emod_nonneg _ (by omega), Int.emod_lt_of_pos _ (by omega)⟩, Int.ediv_nonneg (by omega) (by omega), Int.ediv_lt_of_lt_mul (by omega) (by rw [Int.mul_comm]; omega)⟩⟩)
theorem fr_enc {o n : Bf} (ho : bOk o = true) (hn : bOk n = true) (hwh : o.w = n.w ∧ o.h = n.h) : encM o n [fr o.w o.h] = (encL o n [fr o.w o.h], 0) := by
  obtain ⟨hw, hh, hl, _⟩ := bOk_iff.1 ho
  exact enc_again ho hn hwh (fr_can hw hh) fr_in (by simp) (fr_cov ho)
theorem fr_dec {o n : Bf} (ho : bOk o = true) (hn : bOk n = true) (bn : BB n) (hwh : o.w = n.w ∧ o.h = n.h) : decM o (encL o n [fr o.w o.h]) = (n, 0) := by
  obtain ⟨hw, hh, hl, _⟩ := bOk_iff.1 ho
  exact dec_enc ho hn bn hwh (fr_can hw hh) fr_in (by simp) (fr_cov ho)
theorem lit_ok {n : Bf} (hn : bOk n = true) : litM n = (encL (zeroB n) n [fr n.w n.h], 0) := by
  unfold litM
  rw [if_pos hn]
  exact fr_enc (zeroB_ok hn) hn ⟨rfl, rfl⟩
theorem lit_no {n : Bf} (hn : bOk n = false) : litM n = ([], 15) := by
  unfold litM
  rw [if_neg (by simp [hn])]
theorem encL_u8 {o n : Bf} {l : List R} (hl : l.length ≤ 256) : ∀ x ∈ encL o n l, U8 x := by
  intro x hx
  unfold encL at hx
  rcases List.mem_append.1 hx with hx | hx
  · unfold hdr at hx
    rcases List.mem_append.1 hx with hx | hx
    · exact le2_u8 _ x hx
    · obtain ⟨r, _, hx⟩ := List.mem_flatMap.1 hx
      rw [rb_crd] at hx
      obtain ⟨c, _, hx⟩ := List.mem_flatMap.1 hx
      exact le2_u8 _ x hx
  · exact encR_u8 _ _ _ (runs0 (diff_u32 _ _ _)) x hx
theorem encL_len {o n : Bf} {l : List R} (hl : l.length ≤ 256) (hp : (posF l o.w).length ≤ 65536) : (encL o n l).length ≤ 1000000 := by
  unfold encL
  have h := runs_len (diffF o.px n.px (posF l o.w))
  rw [diff_len] at h
  rw [List.length_append, hdr_len, encR_len]
  omega
end Go.Proofs.Ytkjkolacnpknoaa
end

/-! CodecRoundTrip, walked. Conditions: as each lemma states them. -/
section
namespace Go.Proofs.Ytkjkolacnpknoaa
open Go Go.Ab Go.RowKit
set_option linter.unusedSimpArgs false
set_option linter.unusedVariables false
set_option linter.unnecessarySimpa false

attribute [local simp] condK_true condK_false condK_not wpc_skip wpc_ret wpc_exit wpc_seq wpc_reg wpc_regD testA_bool wpc_cond wpc_block thenA_normal thenA_ret thenA_exit blockA_normal blockA_ret blockA_exit blockA_other endA_normal endA_ret ev_tmp' ev_const ev_func ev_global cv_int cv_bool cv_string cv_pointer cv_slice cv_agg cv_map put_some put_none wH_s setE_apply setE_env less_eq env_cons env_nil upd_upd upd_apply del_apply startA_eq cells_ag cells_sl one_sl cells_vs one_vs cells_ep one_ep cells_fn one_fn cells_int one_int cells_bool one_bool cells_string one_string cells_pointer one_pointer cells_slice one_slice cells_map one_map cells_agg resK_one resK_nil resK_two rvK_t rvK_c rvsK_nil rvsK_cons iseq_nil iseq_cons gdA_true gdA_false gdA_undef istep_free istep_guard istepV_free istepV_guard dseq_nil dseq_pu dseq_rd dseq_ef wpc_regT dtree_nil dtree_pu dtree_rd dtree_ef dtree_br chkAll_nil chkAll_cons andK_true pickK_true pickK_false pickK_tb pickK_fb bin2K_pl eqbK_eq eqbK_ne eqpK_eq eqpK_ne eqmK_eq eqmK_ne eqzK_eq eqzK_ne eqzK_sl eqzK_vs un1K_pl convK_int fillK_some fillA_cons fillA_nil cellsK_some needK_true needK_ok seeK_ep seeK_ptr oneK_agg oneK_one nilcK_ptr nilcK_ep fadrK_ptr fadrK_ep fldK_ag iadAK_ptr iadAK_ep iadSK_sl iadSK_vs extK_0 extK_1 extK_2 extK_3 lenK_pl lenK_sl lenK_vs lensK_pl boxK_some minmax1K_int storeK_ptr callvK_fn callvK_pl newsK_nil newsK_vs newsK_sl appK_nil appK_nil0 appK_sl appK_vs bnd1K_int bndK_none bndK_some slsK_vs slsK_nil slsK_sl0 slsK_sl slstrK_pl boolK_some eqsK_ag iop_eqs iop_sls iop_slstr seesK_some seesK_ro mapsK_some MAP_some findK_some findK_none plK_pl nmapK_none nmapK_some iop_mlook iop_mlen iop_mmk iop_mupd iop_mdel iop_mrng itK_none itK_some ptr0K_ptr iop_mnxt iop_ment it1K_some entK_some iop_mov iop_pick iop_bin iop_eqb iop_eqp iop_eqm iop_eqz iop_un capK_pl capK_sl capK_vs iop_cap iop_b2s b2sK_nil b2sK_sl b2sK_vs strK_some iop_idxv idxvK_ag atK_some apzK_nil iop_apz mksK_int iop_mks clrK_sl clrK_vs clrK_nil iop_clr iop_conv iop_build iop_load iop_nilc iop_fadr iop_fld iop_iadA iop_iadS iop_ext iop_mkf iop_len iop_lens iop_minmax iop_al iop_box iop_bsl iop_store iop_call iop_callv iop_app BIN_add BIN_sub BIN_mul BIN_and BIN_or BIN_xor BIN_andNot BIN_eql BIN_neq BIN_lss BIN_leq BIN_gtr BIN_geq BIN_quo BIN_rem BIN_shl BIN_shr BIN_sadd BIN_seql BIN_sneq BIN_slss BIN_sleq BIN_sgtr BIN_sgeq UN_neg UN_xor UN_not MM_nil MM_cons partsA argsA ptrA lessL eqL min2I slotN_int slotP_int slotI_int
attribute [local simp] rc_len rc_t4 rc_t1 rc_t2 rc_t3 rc_d1 rc_d2 rc_d3 rc_d4 rc_ag rc_one rc_eq

def cells6 (o n : Bf) (p q : AV) : List AV := bfc o.w o.h p ++ bfc n.w n.h q
def PK (o n : Bf) (dam : List R) (k : Nat) : Prop := o.px[k]? = n.px[k]? ∨ ptF (cl dam) ((k : Int) % n.w) ((k : Int) / n.w) = true
def covK (o n : Bf) (dam : List R) : Nat → Bool
  | 0 => true
  | k + 1 => covK o n dam k && (decide (o.px[k]? = n.px[k]?) || ptF (cl dam) ((k : Int) % n.w) ((k : Int) / n.w))
theorem covK_iff (o n : Bf) (dam : List R) : ∀ i, covK o n dam i = true ↔ ∀ k < i, o.px[k]? = n.px[k]? ∨ ptF (cl dam) ((k : Int) % n.w) ((k : Int) / n.w) = true
  | 0 => by simp [covK]
  | i + 1 => by
    unfold covK
    rw [Bool.and_eq_true, covK_iff o n dam i, Bool.or_eq_true, decide_eq_true_eq]
    constructor
    · rintro ⟨h1, h2⟩ k hk
      by_cases h : k < i
      · exact h1 k h
      · have : k = i := by omega
        subst this; exact h2
    · exact fun h => ⟨fun k hk => h k (by omega), h i (by omega)⟩
set_option maxHeartbeats 4000000 in
theorem c7 {H : AH} {K : AV → AH → Prop} {p q ad : AV} {o n : Bf} {dam : List R} (ho : Rw H p (flat pxc o.px) o.px.length 4) (hn : Rw H q (flat pxc n.px) n.px.length 4) (hd : Rr H ad dam) (bo : BB o) (bn : BB n) (hk : K (vb true) H) :
    @AC Try.prog 7 [.ag (cells6 o n p q), ad] H ⟨K⟩ := by
  have op := Rw.one ho
  have oq := Rw.one hn
  have lo := fun k => Rw.lenK ho (k := k)
  have ln := fun k => Rw.lenK hn (k := k)
  have ld := fun k => Rw.lenK hd (k := k)
  have cad := Rw.cells hd
  have bl : ∀ (w h : Int) (a : AV), (bfc w h a).length = 3 := fun _ _ _ => rfl
  have t3 : ∀ (w h : Int) (a : AV), (bfc w h a).take 3 = bfc w h a := fun _ _ _ => rfl
  have l6 : (cells6 o n p q).length = 6 := rfl
  have e0 : (cells6 o n p q).take 3 = bfc o.w o.h p := rfl
  have e3 : ((cells6 o n p q).drop 3).take 3 = bfc n.w n.h q := rfl
  have f0 : (cells6 o n p q).take 1 = [vi o.w] := rfl
  have f1 : ((cells6 o n p q).drop 1).take 1 = [vi o.h] := rfl
  have f1' : (cells6 o n p q).tail.take 1 = [vi o.h] := rfl
  have f2 : ((cells6 o n p q).drop 2).take 1 = [p] := rfl
  have f3 : ((cells6 o n p q).drop 3).take 1 = [vi n.w] := rfl
  have f4 : ((cells6 o n p q).drop 4).take 1 = [vi n.h] := rfl
  have f5 : ((cells6 o n p q).drop 5).take 1 = [q] := rfl
  refine AC_of (.forget ?_)
  refine call_c follows cf7_ok (by simp) ?_
  simp [l6]
  refine newK_of fun z hz => ?_
  have hsz : Sub H (upd H z (.cells (cells6 o n p q))) := (Sub.refl H).upd hz
  have kz : upd H z (.cells (cells6 o n p q)) z = some (.cells (cells6 o n p q)) := by simp [upd_apply]
  generalize upd H z (.cells (cells6 o n p q)) = H1 at *
  have ex : ∀ {K' : AV → AH → Prop}, K' (vb true) H1 → @AC Try.prog 8 [] H1 ⟨K'⟩ := fun h => c8 h
  simp [kz, l6, e0]
  refine c14 (ho.sub hsz) ?_
  by_cases h1 : 400 < o.px.length
  · have h1' : (400 : Int) < o.px.length := by omega
    simp [h1, h1']
    refine ex ?_
    simp
    exact ⟨H, hsz, hk⟩
  have h1' : ¬ (400 : Int) < o.px.length := by omega
  simp [h1, h1', kz, l6, e3]
  refine c14 (hn.sub hsz) ?_
  by_cases h2 : 400 < n.px.length
  · have h2' : (400 : Int) < n.px.length := by omega
    simp [h2, h2']
    refine ex ?_
    simp
    exact ⟨H, hsz, hk⟩
  have h2' : ¬ (400 : Int) < n.px.length := by omega
  by_cases h3 : 20 < dam.length
  · have h3' : (20 : Int) < dam.length := by omega
    simp [h2, h2', ld, h3, h3']
    refine ex ?_
    simp
    exact ⟨H, hsz, hk⟩
  have h3' : ¬ (20 : Int) < dam.length := by omega
  simp [h2, h2', ld, h3, h3', kz, l6, e0]
  refine c17 (ho.sub hsz) (by omega) ?_
  obtain ⟨vo, hvo⟩ : ∃ v, bufOk o.w o.h o.px = v := ⟨_, rfl⟩
  obtain ⟨vn, hvn⟩ : ∃ v, bufOk n.w n.h n.px = v := ⟨_, rfl⟩
  have hm0 : encM o n dam = if (bOk o && bOk n) = true then (if o.w = n.w ∧ o.h = n.h then
    (if 256 < (modF 2 dam [fr o.w o.h]).length then ([], 5) else if covB o n (modF 2 dam [fr o.w o.h]) = true then (encL o n (modF 2 dam [fr o.w o.h]), 0) else ([], 2))
  else ([], 2)) else ([], 15) := rfl
  rw [show bOk o = vo from hvo, show bOk n = vn from hvn] at hm0
  rw [hvo]
  obtain ⟨V, hV⟩ : ∃ V, V = (vo && vn) := ⟨_, rfl⟩
  obtain ⟨F, hF⟩ : ∃ F, F = (V && (decide (o.w = n.w) && decide (o.h = n.h))) := ⟨_, rfl⟩
  have hFV : F = true → V = true ∧ o.w = n.w ∧ o.h = n.h := fun h => by
    rw [hF] at h
    simpa [Bool.and_eq_true] using h
  have hVV : V = true → bOk o = true ∧ bOk n = true := fun h => by
    rw [hV] at h
    have := (Bool.and_eq_true _ _).mp h
    exact ⟨hvo.trans this.1, hvn.trans this.2⟩
  -- what is encoded
  have hres : (encM o n dam = ([], 15) ∧ V = false ∧ F = false) ∨ (encM o n dam = ([], 2) ∧ V = true ∧ (F && covK o n dam n.px.length) = false) ∨ (encM o n dam = ([], 5) ∧ F = true ∧ V = true) ∨
      (∃ L, encM o n dam = (encL o n L, 0) ∧ decM o (encL o n L) = (n, 0) ∧ L.length ≤ 256 ∧ (posF L o.w).length ≤ 65536 ∧ (F && covK o n dam n.px.length) = true ∧ V = true ∧ F = true) := by
    rw [← hV] at hm0
    cases hVc : V with
    | false =>
      rw [hVc, if_neg (by simp)] at hm0
      exact .inl ⟨hm0, rfl, by rw [hF, hVc]; rfl⟩
    | true =>
      obtain ⟨hoo, hnn⟩ := hVV hVc
      rw [hVc, if_pos rfl] at hm0
      by_cases hs : o.w = n.w ∧ o.h = n.h
      · rw [if_pos hs] at hm0
        have hFt : F = true := by rw [hF, hVc]; simp [hs]
        obtain ⟨hw, hh, hpl, _⟩ := bOk_iff.1 hoo
        have hpl2 := (bOk_iff.1 hnn).2.2.1
        have hll : o.px.length = n.px.length := by rw [← hs.1, ← hs.2] at hpl2; omega
        by_cases h256 : 256 < (modF 2 dam [fr o.w o.h]).length
        · rw [if_pos h256] at hm0
          exact .inr (.inr (.inl ⟨hm0, hFt, rfl⟩))
        · rw [if_neg h256] at hm0
          have hcut := mod_cut hw hh dam
          have hce : covB o n (modF 2 dam [fr o.w o.h]) = covK o n dam n.px.length := by
            refine bool_eq ?_
            rw [cov_dam hoo, covK_iff, hs.1, hll]
            exact ⟨fun h k hk => (h k hk).symm, fun h k hk => (h k hk).symm⟩
          cases hcc : covK o n dam n.px.length with
          | true =>
            rw [hce, hcc, if_pos rfl] at hm0
            have hN : o.px.length ≤ 65536 := by omega
            have hfit : ∀ p ∈ posF (modF 2 dam [fr o.w o.h]) o.w, 0 ≤ p ∧ p < o.px.length := fun p hp => by have := posF_in hcut.fr hp; omega
            have hplen := nodup_len _ _ (posF_nodup hcut.fr hcut.ap) hfit
            exact .inr (.inr (.inr ⟨_, hm0, dec_enc hoo hnn bn hs hcut.can hcut.fr (by omega) (by rw [hce, hcc]), by omega, by omega, by rw [hFt]; rfl, rfl, hFt⟩))
          | false =>
            rw [hce, hcc, if_neg (by simp)] at hm0
            exact .inr (.inl ⟨hm0, rfl, by simp⟩)
      · rw [if_neg hs] at hm0
        have hFf : F = false := by
          rw [hF, hVc]
          cases hw : decide (o.w = n.w) <;> cases hh : decide (o.h = n.h) <;> simp_all
        exact .inr (.inl ⟨hm0, rfl, by rw [hFf]; rfl⟩)
  have hcase : vo = false ∨ (vo = true ∧ vn = false) ∨ (vo = true ∧ vn = true ∧ o.w ≠ n.w) ∨ (vo = true ∧ vn = true ∧ o.w = n.w ∧ o.h ≠ n.h) ∨ (vo = true ∧ vn = true ∧ o.w = n.w ∧ o.h = n.h) := by
    cases vo <;> cases vn <;> simp <;> omega
  rcases hcase with c1 | ⟨c1, c2⟩ | ⟨c1, c2, c3⟩ | ⟨c1, c2, c3, c4⟩ | ⟨c1, c2, c3, c4⟩
  case' inl =>
    have hVe : V = false := by rw [hV, c1]; rfl
    have hFe : F = false := by rw [hF, hVe]; rfl
    simp [c1, kz, l6, f5, ln]
  case' inr.inl =>
    have hVe : V = false := by rw [hV, c1, c2]; rfl
    have hFe : F = false := by rw [hF, hVe]; rfl
    simp [c1, kz, l6, e3]
    refine c17 (hn.sub hsz) (by omega) ?_
    rw [hvn]
    simp [c2, kz, l6, f5, ln]
  case' inr.inr.inl =>
    have hVe : V = true := by rw [hV, c1, c2]; rfl
    have hFe : F = false := by rw [hF, hVe]; simp [c3]
    simp [c1, kz, l6, e3]
    refine c17 (hn.sub hsz) (by omega) ?_
    rw [hvn]
    simp [c2, kz, l6, f5, ln, f0, f3, c3]
  case' inr.inr.inr.inl =>
    have hVe : V = true := by rw [hV, c1, c2]; rfl
    have hFe : F = false := by rw [hF, hVe]; simp [c3, c4]
    simp [c1, kz, l6, e3]
    refine c17 (hn.sub hsz) (by omega) ?_
    rw [hvn]
    simp [c2, kz, l6, f5, ln, f0, f3, c3, f1, f1', f4, c4]
  case' inr.inr.inr.inr =>
    have hVe : V = true := by rw [hV, c1, c2]; rfl
    have hFe : F = true := by rw [hF, hVe]; simp [c3, c4]
    simp [c1, kz, l6, e3]
    refine c17 (hn.sub hsz) (by omega) ?_
    rw [hvn]
    simp [c2, kz, l6, f5, ln, f0, f3, c3, f1, f1', f4, c4]
  all_goals
    refine wpc_loop (fun s => ∃ (i : Nat), s.n = 199 ∧ s.H = H1 ∧ s.t 1 = ad ∧ s.t 2 = pA z ∧ s.t 5 = vb V ∧ s.t 6 = vb F ∧ s.t 7 = vb (F && covK o n dam i) ∧ s.t 63 = vi n.px.length ∧ s.t 64 = vi i ∧ i ≤ n.px.length) (fun s => n.px.length - slotN (s.t 64)) ?_ ?_
    · exact FgK.same ⟨0, by simp, by simp, by simp, by simp, by simp [hVe], by simp [hFe], by simp [hFe, covK], by simp, by simp, by omega⟩
    rintro s ⟨i, hg, hH, s1, s2, s5, s6, s7, s63, s64, hi⟩
    by_cases hlt : i < n.px.length
    · have wi := IntWalk.i64_in ((i : Int) + 1) (by omega)
      have hcK : (F && covK o n dam (i + 1)) = ((F && covK o n dam i) && (decide (o.px[i]? = n.px[i]?) || ptF (cl dam) ((i : Int) % n.w) ((i : Int) / n.w))) := by
        show (F && (covK o n dam i && _)) = _
        rw [Bool.and_assoc]
      cases hc : (F && covK o n dam i) with
      | false =>
        rw [hc] at s7 hcK
        simp (disch := omega) [hg, hH, s1, s2, s5, s6, s7, s63, s64, hlt, wi]
        exact FgK.same ⟨⟨i + 1, by simp, by simp, by simp, by simp, by simp, by simp, by simp [hcK], by simp, by simp, by omega⟩, by simp [s64]; omega⟩
      | true =>
        rw [hc] at s7 hcK
        have hFt : F = true := ((Bool.and_eq_true _ _).mp hc).1
        first | (rw [hFe] at hFt; cases hFt; done) | skip
        all_goals
          obtain ⟨hVt, hww, hhh⟩ := hFV hFt
          obtain ⟨hoo, hnn⟩ := hVV hVt
          obtain ⟨bw, bh, bpl, _⟩ := bOk_iff.1 hnn
          have hpl := (bOk_iff.1 hoo).2.2.1
          have hll : o.px.length = n.px.length := by rw [hww, hhh] at hpl; omega
          obtain ⟨pa, hpa1, hpa2⟩ := fsee pxc_l ho (by omega : i < o.px.length)
          obtain ⟨pb, hpb1, hpb2⟩ := fsee pxc_l hn hlt
          have hxe : (o.px[i]? = n.px[i]?) ↔ o.px[i] = n.px[i] := by
            rw [List.getElem?_eq_getElem (by omega : i < o.px.length), List.getElem?_eq_getElem hlt]
            exact ⟨fun h => Option.some.inj h, fun h => by rw [h]⟩
          generalize o.px[i] = xa at *
          generalize n.px[i] = xb at *
          by_cases hxx : xa = xb
          · rw [decide_eq_true (hxe.2 hxx)] at hcK
            simp (disch := omega) [hg, hH, s1, s2, s5, s6, s7, s63, s64, hlt, wi, kz, l6, f2, f5, hpa1, hpa2 _ hsz, hpb1, hpb2 _ hsz, pxc_eqL, hxx]
            exact FgK.same ⟨⟨i + 1, by simp, by simp, by simp, by simp, by simp, by simp, by simp [hcK], by simp, by simp, by omega⟩, by simp [s64]; omega⟩
          · rw [decide_eq_false (fun h => hxx (hxe.1 h))] at hcK
            have htm : Int.tmod (i : Int) n.w = (i : Int) % n.w := Int.tmod_eq_emod_of_nonneg (by omega)
            have htd0 : Int.tdiv (i : Int) n.w = (i : Int) / n.w := Int.tdiv_eq_ediv_of_nonneg (by omega)
            have hdr : 0 ≤ (i : Int) / n.w ∧ (i : Int) / n.w ≤ i := ⟨Int.ediv_nonneg (by omega) (by omega), Int.ediv_le_self _ (by omega)⟩
            have htd : IntKind.i64.wrap (Int.tdiv (i : Int) n.w) = (i : Int) / n.w := by rw [htd0]; exact IntWalk.i64_in _ (by omega)
            have hw0 : ¬ n.w = 0 := by omega
            have htd2 : IntKind.i64.wrap ((i : Int) / n.w) = (i : Int) / n.w := by rw [← htd0]; rw [htd0]; exact IntWalk.i64_in _ (by omega)
            simp (disch := omega) [hg, hH, s1, s2, s5, s6, s7, s63, s64, hlt, kz, l6, f2, f5, f3, hpa1, hpa2 _ hsz, hpb1, hpb2 _ hsz, pxc_eqL, hxx, hw0, htm, htd, htd2]
            refine c20 (hd.sub hsz) (by omega) ?_
            rw [any_pt]
            simp [wi]
            exact FgK.same ⟨⟨i + 1, by simp, by simp, by simp [s1], by simp [s2], by simp [s5], by simp [s6], by rw [hcK]; simp, by simp [s63], by simp, by omega⟩, by simp [s64]; omega⟩
    · have hie : i = n.px.length := by omega
      subst hie
      simp (disch := omega) [hg, hH, s1, s2, s5, s6, s7, s63, s64, kz, l6, e0, e3, cad]
      refine c16 (ho.sub hsz) (hn.sub hsz) (hd.sub hsz) bo bn (by omega) (by omega) (by omega) fun out H2 hout => ?_
      have hs2 := hsz.trans hout.sub
      have kz2 := hout.sub _ _ kz
      rcases hres with ⟨hr, r1, r2⟩ | ⟨hr, r1, r2⟩ | ⟨hr, r1, r2⟩ | ⟨L, hr, hdec, hL1, hL2, r1, r2, r3⟩
      case' inr.inr.inl =>
        rw [hr] at hout ⊢
        simp only at hout ⊢
        have hor : Rw H2 out (([] : List Int).map v8) 0 1 := (hout.rin (by simp)).rd
        have cor := Rw.cells hor
        have lor := fun k => Rw.lenK hor (k := k)
        rw [r1] at s6
        simp [cor, s6, lor, r1]
        refine c8 ?_
        simp
        exact ⟨H, hs2, hk⟩
      case' inl =>
        rw [hr] at hout ⊢
        simp only at hout ⊢
        have hor : Rw H2 out (([] : List Int).map v8) 0 1 := (hout.rin (by simp)).rd
        have cor := Rw.cells hor
        rw [r1] at s5
        rw [r2] at s6 s7
        have s7 : s.t 7 = vb false := s7
        obtain ⟨Hx, hHx⟩ : ∃ Hx, Hx = H2 := ⟨_, rfl⟩
        have hsx : Sub H Hx := by rw [hHx]; exact hs2
        have kzx : Hx z = some (.cells (cells6 o n p q)) := by rw [hHx]; exact kz2
        rw [← hHx]
        simp [cor, s5, s6, s7, kzx, l6, e3, r1, r2]
      case' inr.inl =>
        rw [hr] at hout ⊢
        simp only at hout ⊢
        have hor : Rw H2 out (([] : List Int).map v8) 0 1 := (hout.rin (by simp)).rd
        have cor := Rw.cells hor
        rw [r1] at s5
        rw [r2] at s7
        obtain ⟨Hx, hHx⟩ : ∃ Hx, Hx = H2 := ⟨_, rfl⟩
        have hsx : Sub H Hx := by rw [hHx]; exact hs2
        have kzx : Hx z = some (.cells (cells6 o n p q)) := by rw [hHx]; exact kz2
        rw [← hHx]
        simp [cor, s5, s6, s7, kzx, l6, e3, r1, r2]
      case' inr.inr.inr =>
        rw [hr] at hout ⊢
        simp only at hout ⊢
        have hor : Rw H2 out ((encL o n L).map v8) (encL o n L).length 1 := (hout.rin (by simp)).rd
        have cor := Rw.cells hor
        rw [r2] at s5
        rw [r3] at s6
        rw [r1] at s7
        have r1' : covK o n dam n.px.length = true := ((Bool.and_eq_true _ _).mp r1).2
        simp [cor, s5, s6, s7, kz2, l6, e0, r1', r2, r3]
        refine c15 (b := encL o n L) (ho.sub hs2) hor bo (encL_u8 hL1) (by omega) (encL_len hL1 hL2) fun y H5 hy => ?_
        rw [hdec] at hy ⊢
        simp only at hy ⊢
        have hyr : Rw H5 y (flat pxc n.px) n.px.length 4 := (hy.rin (flat_len pxc_l _)).rd
        have oy := Rw.one hyr
        have bo' : (∀ x ∈ bfc n.w n.h y, x.one = true) = True := eq_true (by simp [bfc, oy])
        simp
        refine newK_of fun z5 hz5 => ?_
        have hs5 := hs2.trans (hy.sub.trans ((Sub.refl H5).upd hz5 (o := .cells (bfc n.w n.h y))))
        have kz5 : upd H5 z5 (.cells (bfc n.w n.h y)) z = some (.cells (cells6 o n p q)) := ((Sub.refl H5).upd hz5) _ _ (hy.sub _ _ kz2)
        have nz5 : ¬ z = z5 := ne_of_free (hy.sub _ _ kz2) hz5
        have hyr5 := hyr.sub ((Sub.refl H5).upd hz5 (o := .cells (bfc n.w n.h y)))
        have hz5' := hy.sub _ _ kz2
        simp [bl, bo', t3, nz5, hz5', l6, e3]
        refine c19 hyr5 (hn.sub hs5) (by omega) ?_
        obtain ⟨Hx, hHx⟩ : ∃ Hx, Hx = upd H5 z5 (.cells (bfc n.w n.h y)) := ⟨_, rfl⟩
        have hsx : Sub H Hx := by rw [hHx]; exact hs5
        have kzx : Hx z = some (.cells (cells6 o n p q)) := by rw [hHx]; exact kz5
        rw [← hHx]
        simp [kzx, l6, e3]
      all_goals
        refine c21 (hn.sub hsx) bn (by omega) fun lt H6 hlt => ?_
        have hs6 := hsx.trans hlt.sub
        have kz6 := hlt.sub _ _ kzx
        cases hvn2 : bOk n with
        | false =>
          rw [lit_no hvn2] at hlt ⊢
          simp only at hlt ⊢
          have hlr : Rw H6 lt (([] : List Int).map v8) 0 1 := (hlt.rin (by simp)).rd
          have clr := Rw.cells hlr
          simp [clr, kz6, l6, e3]
          refine c17 (hn.sub hs6) (by omega) ?_
          rw [show bufOk n.w n.h n.px = false from hvn2]
          simp
          refine c8 ?_
          simp
          exact ⟨H, hs6, hk⟩
        | true =>
          rw [lit_ok hvn2] at hlt ⊢
          simp only at hlt ⊢
          have hlr : Rw H6 lt ((encL (zeroB n) n [fr n.w n.h]).map v8) (encL (zeroB n) n [fr n.w n.h]).length 1 := (hlt.rin (by simp)).rd
          have clr := Rw.cells hlr
          have hzd : decM (zeroB n) (encL (zeroB n) n [fr n.w n.h]) = (n, 0) := fr_dec (zeroB_ok hvn2) hvn2 bn ⟨rfl, rfl⟩
          obtain ⟨nw, nh, npl, _⟩ := bOk_iff.1 hvn2
          have hfit : ∀ p ∈ posF [fr n.w n.h] n.w, 0 ≤ p ∧ p < n.px.length := fun p hp => by have := posF_in fr_in hp; omega
          have hplen := nodup_len _ _ (posF_nodup (w := n.w) (h := n.h) fr_in (by simp)) hfit
          simp [clr, kz6, l6, e3]
          refine c17 (hn.sub hs6) (by omega) ?_
          rw [show bufOk n.w n.h n.px = true from hvn2]
          have hmk : n.px.length * 4 ≤ 140737488355328 := by omega
          simp [kz6, l6, f3, f4, f5, ln, hmk]
          refine newK_of fun y8 hy8 => ?_
          have htn : ((n.px.length : Int)).toNat = n.px.length := by omega
          rw [htn, show (List.replicate n.px.length [AV.pl (Value.int .u8 0), AV.pl (Value.int .u8 0), AV.pl (Value.int .u8 0), AV.pl (Value.int .u8 0)]).flatten = flat pxc (zeroB n).px from flat_rep _]
          have hsy : Sub H6 (upd H6 y8 (.cells (flat pxc (zeroB n).px))) := (Sub.refl H6).upd hy8
          have kzy := hsy _ _ kz6
          have hry : Rw (upd H6 y8 (.cells (flat pxc (zeroB n).px))) (.sl y8 0 n.px.length 4 true) (flat pxc (zeroB n).px) (zeroB n).px.length 4 := by
            rw [zeroB_len]
            exact Rw.sl (by rw [flat_len pxc_l, zeroB_len]) (by simp [upd_apply])
          generalize upd H6 y8 (.cells (flat pxc (zeroB n).px)) = H7 at *
          generalize AV.sl y8 0 n.px.length 4 true = ay at *
          have oay := Rw.one hry
          have cay := Rw.cells hry
          simp [kzy, l6, f3, f4, f5, ln, cay]
          refine newK_of fun t4 ht4 => ?_
          have hs4 : Sub H7 (upd H7 t4 (.cells (bfc n.w n.h ay))) := (Sub.refl H7).upd ht4
          have nzt : ¬ z = t4 := ne_of_free kzy ht4
          have hbf : [vi n.w, vi n.h, ay] = bfc n.w n.h ay := rfl
          have kt4 : upd H7 t4 (.cells (bfc n.w n.h ay)) t4 = some (.cells (bfc n.w n.h ay)) := by simp [upd_apply]
          have kz4 := hs4 _ _ kzy
          have hry4 := hry.sub hs4
          have hH4 := (hs6.trans hsy).trans hs4
          have hlr4 := (hlr.sub hsy).sub hs4
          simp [oay, nzt, kzy, l6, f3, f4, f5, ln]
          rw [hbf]
          generalize upd H7 t4 (.cells (bfc n.w n.h ay)) = H8 at *
          refine c15 (o := zeroB n) (b := encL (zeroB n) n [fr n.w n.h]) hry4 hlr4 (zeroB_bb n) (encL_u8 (by simp)) (by rw [zeroB_len]; omega) (encL_len (by simp) (by show (posF [fr n.w n.h] n.w).length ≤ 65536; omega)) fun y9 H9 hy9 => ?_
          rw [hzd] at hy9 ⊢
          simp only at hy9 ⊢
          have hyr9 : Rw H9 y9 (flat pxc n.px) n.px.length 4 := (hy9.rin (flat_len pxc_l _)).rd
          have oy9 := Rw.one hyr9
          have bo9 : (∀ x ∈ bfc n.w n.h y9, x.one = true) = True := eq_true (by simp [bfc, oy9])
          have kz9 := hy9.sub _ _ kz4
          simp
          refine newK_of fun z9 hz9 => ?_
          have hs9 := hH4.trans (hy9.sub.trans ((Sub.refl H9).upd hz9 (o := .cells (bfc n.w n.h y9))))
          have nz9 : ¬ z = z9 := ne_of_free kz9 hz9
          have hyr9' := hyr9.sub ((Sub.refl H9).upd hz9 (o := .cells (bfc n.w n.h y9)))
          simp [bl, bo9, t3, nz9, kz9, l6, e3]
          refine c19 hyr9' (hn.sub hs9) (by omega) ?_
          simp
          refine c8 ?_
          simp
          exact ⟨H, hs9, hk⟩
end Go.Proofs.Ytkjkolacnpknoaa
end

/-! CodecRoundTrip: for every buffers and rectangles the law returns true, and its arguments read as they did. No conditions: every input that the row admits. -/
section
namespace Go.Proofs.Ytkjkolacnpknoaa
open Go Go.Ab Go.RowKit Go.ChangeShapes Go.WideShapes Go.ChangeAt
set_option linter.unusedSimpArgs false
set_option linter.unusedVariables false
set_option linter.unnecessarySimpa false

attribute [local simp] condK_true condK_false condK_not wpc_skip wpc_ret wpc_exit wpc_seq wpc_reg wpc_regD testA_bool wpc_cond wpc_block thenA_normal thenA_ret thenA_exit blockA_normal blockA_ret blockA_exit blockA_other endA_normal endA_ret ev_tmp' ev_const ev_func ev_global cv_int cv_bool cv_string cv_pointer cv_slice cv_agg cv_map put_some put_none wH_s setE_apply setE_env less_eq env_cons env_nil upd_upd upd_apply del_apply startA_eq cells_ag cells_sl one_sl cells_vs one_vs cells_ep one_ep cells_fn one_fn cells_int one_int cells_bool one_bool cells_string one_string cells_pointer one_pointer cells_slice one_slice cells_map one_map cells_agg resK_one resK_nil resK_two rvK_t rvK_c rvsK_nil rvsK_cons iseq_nil iseq_cons gdA_true gdA_false gdA_undef istep_free istep_guard istepV_free istepV_guard dseq_nil dseq_pu dseq_rd dseq_ef wpc_regT dtree_nil dtree_pu dtree_rd dtree_ef dtree_br chkAll_nil chkAll_cons andK_true pickK_true pickK_false pickK_tb pickK_fb bin2K_pl eqbK_eq eqbK_ne eqpK_eq eqpK_ne eqmK_eq eqmK_ne eqzK_eq eqzK_ne eqzK_sl eqzK_vs un1K_pl convK_int fillK_some fillA_cons fillA_nil cellsK_some needK_true needK_ok seeK_ep seeK_ptr oneK_agg oneK_one nilcK_ptr nilcK_ep fadrK_ptr fadrK_ep fldK_ag iadAK_ptr iadAK_ep iadSK_sl iadSK_vs extK_0 extK_1 extK_2 extK_3 lenK_pl lenK_sl lenK_vs lensK_pl boxK_some minmax1K_int storeK_ptr callvK_fn callvK_pl newsK_nil newsK_vs newsK_sl appK_nil appK_nil0 appK_sl appK_vs bnd1K_int bndK_none bndK_some slsK_vs slsK_nil slsK_sl0 slsK_sl slstrK_pl boolK_some eqsK_ag iop_eqs iop_sls iop_slstr seesK_some seesK_ro mapsK_some MAP_some findK_some findK_none plK_pl nmapK_none nmapK_some iop_mlook iop_mlen iop_mmk iop_mupd iop_mdel iop_mrng itK_none itK_some ptr0K_ptr iop_mnxt iop_ment it1K_some entK_some iop_mov iop_pick iop_bin iop_eqb iop_eqp iop_eqm iop_eqz iop_un capK_pl capK_sl capK_vs iop_cap iop_b2s b2sK_nil b2sK_sl b2sK_vs strK_some iop_idxv idxvK_ag atK_some apzK_nil iop_apz mksK_int iop_mks clrK_sl clrK_vs clrK_nil iop_clr iop_conv iop_build iop_load iop_nilc iop_fadr iop_fld iop_iadA iop_iadS iop_ext iop_mkf iop_len iop_lens iop_minmax iop_al iop_box iop_bsl iop_store iop_call iop_callv iop_app BIN_add BIN_sub BIN_mul BIN_and BIN_or BIN_xor BIN_andNot BIN_eql BIN_neq BIN_lss BIN_leq BIN_gtr BIN_geq BIN_quo BIN_rem BIN_shl BIN_shr BIN_sadd BIN_seql BIN_sneq BIN_slss BIN_sleq BIN_sgtr BIN_sgeq UN_neg UN_xor UN_not MM_nil MM_cons partsA argsA ptrA lessL eqL min2I slotN_int slotP_int slotI_int

theorem law_CodecRoundTrip (xs : List AV) (hf : FitsT [(true, bfL ++ bfL), (false, [.sl rcL])] xs) : ACall Try.prog 7 xs (fun _ => none) (fun v _ => v = vb true) := by
  obtain ⟨a, r, rfl, h1, hf⟩ := hf.cons
  obtain ⟨b, rfl, h2⟩ := hf.one
  obtain ⟨o, n, p, q, rfl, g1, g2, g3, g4⟩ := fitPair h1
  obtain ⟨l, g5⟩ := fitRs (fitOne (ls := []) h2)
  exact c7 (g1 _) (g2 _) (g5 _) g3 g4 rfl
set_option maxRecDepth 100000

theorem codecRoundTrip_lifted (os : Os) (started : os.Started) (H : Type) (enc : TypeId × Value → H) :
    ReturnsInHanded {} Try.checked os 7 .any (Rows.codecRoundTripSpec.pre6 enc Try.prog Try.f7 Rows.codecRoundTripRow.domain false) (Rows.codecRoundTripSpec.post enc Try.prog Try.f7 false true false false) := by
  refine returnsInHanded_of_change_sized (C := Try.checked) own started (by kernel_rfl) Try.func7
    (ChangeSpec.witness6 (enc := enc) (C := Try.checked) false ⟨#[], #[.agg #[.int .i64 0, .int .i64 0, .slice none 0 0, .int .i64 0, .int .i64 0, .slice none 0 0], .slice none 0 0], []⟩ 8 (by kernel_rfl) (by kernel_rfl) (by kernel_rfl) (by kernel_rfl)) ?_
  intro W base args ds gs before hval hW _ _ _
  refine law_contract (L := [(true, bfL ++ bfL), (false, [.sl rcL])]) laidOut (by kernel_rfl) rfl (fun ds hd => ?_) ⟨_, rfl, by kernel_rfl⟩ ?_ (fun xs hf => law_CodecRoundTrip xs hf) W base args ds gs before hval hW
  · match ds, hd with
    | [d0, d1], _ => exact ⟨rfl, rfl, rfl⟩
  · exact of_decide_eq_true (by kernel_rfl)

theorem codecRoundTrip_holds : Rows.CodecRoundTripSaid :=
  OpenClaim.holds_of_wide 7 Try.f7 rfl rfl rfl rfl rfl rfl rfl ⟨rfl, rfl, rfl, rfl, rfl⟩ rfl rfl rfl rfl rfl (by kernel_rfl) Try.func7 (by kernel_rfl)
    (of_decide_eq_true (by kernel_rfl)) (by unfold Func.isWrapper; first | (rw [if_pos (by decide +kernel)]; kernel_rfl) | (rw [if_neg (by decide +kernel)]; exact ⟨rfl, rfl⟩))
    (fun os started H enc _ => codecRoundTrip_lifted os started H enc)
end Go.Proofs.Ytkjkolacnpknoaa
end
