/-
  Several texts in one: C26; C31; C32. Conditions: as each lemma states them.
-/
import Derived.Test.YtkjkolacnpknoaaMD
import Derived.Test.YtkjkolacnpknoaaXRow
import Derived.Test.YtkjkolacnpknoaaRows
import Derived.WalkKit
import Derived.ProofKit
/-! Contains of a region, walked. Conditions: as each lemma states them. -/
section
namespace Go.Proofs.Ytkjkolacnpknoaa
open Go Go.Ab Go.RowKit
set_option linter.unusedSimpArgs false
set_option linter.unusedVariables false
set_option linter.unnecessarySimpa false

attribute [local simp] condK_true condK_false condK_not wpc_skip wpc_ret wpc_exit wpc_seq wpc_reg wpc_regD testA_bool wpc_cond wpc_block thenA_normal thenA_ret thenA_exit blockA_normal blockA_ret blockA_exit blockA_other endA_normal endA_ret ev_tmp' ev_const ev_func ev_global cv_int cv_bool cv_string cv_pointer cv_slice cv_agg cv_map put_some put_none wH_s setE_apply setE_env less_eq env_cons env_nil upd_upd upd_apply del_apply startA_eq cells_ag cells_sl one_sl cells_vs one_vs cells_ep one_ep cells_fn one_fn cells_int one_int cells_bool one_bool cells_string one_string cells_pointer one_pointer cells_slice one_slice cells_map one_map cells_agg resK_one resK_nil resK_two rvK_t rvK_c rvsK_nil rvsK_cons iseq_nil iseq_cons gdA_true gdA_false gdA_undef istep_free istep_guard istepV_free istepV_guard dseq_nil dseq_pu dseq_rd dseq_ef wpc_regT dtree_nil dtree_pu dtree_rd dtree_ef dtree_br chkAll_nil chkAll_cons andK_true pickK_true pickK_false pickK_tb pickK_fb bin2K_pl eqbK_eq eqbK_ne eqpK_eq eqpK_ne eqmK_eq eqmK_ne eqzK_eq eqzK_ne eqzK_sl eqzK_vs un1K_pl convK_int fillK_some fillA_cons fillA_nil cellsK_some needK_true needK_ok seeK_ep seeK_ptr oneK_agg oneK_one nilcK_ptr nilcK_ep fadrK_ptr fadrK_ep fldK_ag iadAK_ptr iadAK_ep iadSK_sl iadSK_vs extK_0 extK_1 extK_2 extK_3 lenK_pl lenK_sl lenK_vs lensK_pl boxK_some minmax1K_int storeK_ptr callvK_fn callvK_pl newsK_nil newsK_vs newsK_sl appK_nil appK_nil0 appK_sl appK_vs bnd1K_int bndK_none bndK_some slsK_vs slsK_nil slsK_sl0 slsK_sl slstrK_pl boolK_some eqsK_ag iop_eqs iop_sls iop_slstr seesK_some seesK_ro mapsK_some MAP_some findK_some findK_none plK_pl nmapK_none nmapK_some iop_mlook iop_mlen iop_mmk iop_mupd iop_mdel iop_mrng itK_none itK_some ptr0K_ptr iop_mnxt iop_ment it1K_some entK_some iop_mov iop_pick iop_bin iop_eqb iop_eqp iop_eqm iop_eqz iop_un capK_pl capK_sl capK_vs iop_cap iop_b2s b2sK_nil b2sK_sl b2sK_vs strK_some iop_idxv idxvK_ag atK_some apzK_nil iop_apz mksK_int iop_mks clrK_sl clrK_vs clrK_nil iop_clr iop_conv iop_build iop_load iop_nilc iop_fadr iop_fld iop_iadA iop_iadS iop_ext iop_mkf iop_len iop_lens iop_minmax iop_al iop_box iop_bsl iop_store iop_call iop_callv iop_app BIN_add BIN_sub BIN_mul BIN_and BIN_or BIN_xor BIN_andNot BIN_eql BIN_neq BIN_lss BIN_leq BIN_gtr BIN_geq BIN_quo BIN_rem BIN_shl BIN_shr BIN_sadd BIN_seql BIN_sneq BIN_slss BIN_sleq BIN_sgtr BIN_sgeq UN_neg UN_xor UN_not MM_nil MM_cons partsA argsA ptrA lessL eqL min2I slotN_int slotP_int slotI_int
attribute [local simp] rc_len rc_t4 rc_t1 rc_t2 rc_t3 rc_d1 rc_d2 rc_d3 rc_d4 rc_ag rc_one rc_eq min2_t min2_f

def rctF (r : R) (x y : Int) : Bool := decide ((rcan r).x0 ≤ x) && (decide (x < (rcan r).x1) && (decide ((rcan r).y0 ≤ y) && decide (y < (rcan r).y1)))
theorem c39 (r : R) (x y : Int) : PC Try.prog 39 [.ag (rc r), vi x, vi y] (vb (rctF r x y)) := by
  refine .tell fun H => ?_
  refine call_c follows cf39_ok (by simp) ?_
  unfold rctF
  repeat' (first | simp [*] | (with_reducible (refine newK_of fun _ h_ => ?_); have hn_ := free_ne h_; (try simp only [upd_none', ne_eq] at h_)) | (with_reducible (refine condK_of (fun h_ => ?_) (fun h_ => ?_))) | with_reducible (refine (c52 ..).ac ?_))
  all_goals ((try with_reducible refine And.intro ?_ ?_) <;> (try (repeat' (first | with_reducible exact Sub.refl _ | with_reducible refine Sub.of_upd (by simp [*]) ?_))))
  all_goals simp_all
theorem c38 {H : AH} {K : AV → AH → Prop} {b1 b2 : Nat} {x y : Int} {r : R} (h1 : H b1 = some (.cells [vi x])) (h2 : H b2 = some (.cells [vi y])) (hk : K (vb (rctF r x y)) H) :
    @AC Try.prog 38 [.ag (rc r), pA b1, pA b2] H ⟨K⟩ := by
  refine AC_of (.forget ?_)
  refine call_c follows cf38_ok (by simp) ?_
  simp
  refine newK_of fun b hb => ?_
  have n1 := free_ne hb b1 (by rw [h1]; simp)
  have n2 := free_ne hb b2 (by rw [h2]; simp)
  simp [n1, n2, h1, h2]
  refine (c39 r x y).ac ?_
  simp
  exact ⟨H, (Sub.refl H).upd hb, hk⟩
theorem good_c1 : goodCallee Try.prog 38 = true := by kernel_rfl
theorem c51 {H : AH} {K : AV → AH → Prop} {a : AV} {b1 b2 : Nat} {x y : Int} {l : List R} (h1 : H b1 = some (.cells [vi x])) (h2 : H b2 = some (.cells [vi y])) (ha : Rr H a l) (hl : l.length ≤ 10000000) (hk : ∀ i : Int, (0 ≤ i ↔ (l.any fun r => rctF r x y) = true) → K (vi i) H) :
    @AC Try.prog 51 [a, .fn 38 [] [pA b1, pA b2]] H ⟨K⟩ := by
  have la := fun k => Rw.lenK ha (k := k)
  have g1 := good_c1
  refine AC_of (.forget ?_)
  refine call_c follows cf51_ok (by simp) ?_
  simp [la]
  refine wpc_loop (fun s => ∃ (i : Nat), s.n = 19 ∧ s.H = H ∧ s.t 0 = a ∧ s.t 1 = .fn 38 [] [pA b1, pA b2] ∧ s.t 7 = vi l.length ∧ s.t 8 = vi i ∧ i ≤ l.length ∧ ((l.take i).any fun r => rctF r x y) = false) (fun s => l.length - slotN (s.t 8)) ?_ ?_
  · exact FgK.same ⟨0, by simp, by simp, by simp, by simp, by simp, by simp, by omega, by simp⟩
  rintro s ⟨i, hn, hH, e0, e1, e7, e8, hi, hc⟩
  by_cases hlt : i < l.length
  · have wr := IntWalk.i64_in ((i : Int) + 1) (by omega)
    obtain ⟨p, hp1, hp2⟩ := fsee rc_l ha hlt
    have et := take_snoc' hlt
    have hcp : ((l.take (i + 1)).any fun r => rctF r x y) = rctF l[i] x y := by rw [et, List.any_append, hc]; simp
    have hall : rctF l[i] x y = true → (l.any fun r => rctF r x y) = true := fun h => List.any_eq_true.2 ⟨l[i], List.getElem_mem hlt, h⟩
    generalize l[i] = r at *
    simp (disch := omega) [hn, hH, e0, e1, e7, e8, hlt, hp1, hp2 _ (Sub.refl _), g1]
    refine c38 h1 h2 ?_
    cases h : rctF r x y with
    | true =>
      simp
      exact ⟨H, Sub.refl _, hk _ (by simp [hall h])⟩
    | false =>
      simp (disch := omega) [hn, wr]
      exact FgK.same ⟨⟨i + 1, by simp, by simp, by simp [e0], by simp [e1], by simp [e7], by simp, by omega, by rw [hcp, h]⟩, by simp [e8]; omega⟩
  · rw [List.take_of_length_le (by omega)] at hc
    simp (disch := omega) [hn, hH, e0, e1, e7, e8, hlt]
    exact ⟨H, Sub.refl _, hk _ (by simp [hc])⟩
theorem c37 {H : AH} {K : AV → AH → Prop} {a : AV} {b1 b2 : Nat} {x y : Int} {l : List R} (h1 : H b1 = some (.cells [vi x])) (h2 : H b2 = some (.cells [vi y])) (ha : Rr H a l) (hl : l.length ≤ 10000000) (hk : K (vb (l.any fun r => rctF r x y)) H) :
    @AC Try.prog 37 [a, .fn 38 [] [pA b1, pA b2]] H ⟨K⟩ := by
  refine call_c follows cf37_ok (by simp) ?_
  simp
  refine c51 h1 h2 ha hl fun i hi => ?_
  cases h : (l.any fun r => rctF r x y) with
  | true => rw [h] at hk hi; have : 0 ≤ i := hi.2 rfl; simp [this]; exact hk
  | false => rw [h] at hk hi; have : ¬ 0 ≤ i := fun g => by simpa using hi.1 g
             simp [this]; exact hk
theorem c20 {H : AH} {K : AV → AH → Prop} {a : AV} {l : List R} {x y : Int} (ha : Rr H a l) (hl : l.length ≤ 10000000) (hk : K (vb (l.any fun r => rctF r x y)) H) : @AC Try.prog 20 [a, vi x, vi y] H ⟨K⟩ := by
  refine AC_of (.forget ?_)
  refine call_c follows cf20_ok (by simp) ?_
  simp
  refine newK_of fun b hb => ?_
  simp
  refine newK_of fun c hc => ?_
  have n1 := free_ne hc b (by simp [upd_apply])
  have hcH : H c = none := by simp only [upd_apply] at hc; split at hc <;> simp_all
  have hS : Sub H (upd (upd H b (.cells [vi x])) c (.cells [vi y])) := ((Sub.refl H).upd hb).upd hcH
  simp
  refine c37 (x := x) (y := y) (by simp [upd_apply, n1]) (by simp [upd_apply]) (Rw.sub ha hS) hl ?_
  simp
  exact ⟨H, hS, hk⟩
theorem any_pt (l : List R) (x y : Int) : (l.any fun r => rctF r x y) = ptF (cl l) x y := by
  refine bool_eq ?_
  rw [List.any_eq_true, ptF_iff]
  constructor
  · rintro ⟨r, hr, h⟩
    unfold rctF rcan at h
    cases he : rempty r with
    | true => rw [he] at h; simp at h; omega
    | false =>
      rw [he] at h
      simp at h
      exact ⟨r, List.mem_filter.2 ⟨hr, by simp [he]⟩, by omega, by omega⟩
  · rintro ⟨r, hr, h1, h2⟩
    obtain ⟨hr, he⟩ := List.mem_filter.1 hr
    have he : rempty r = false := by simpa using he
    refine ⟨r, hr, ?_⟩
    unfold rctF rcan
    rw [he]
    simp
    omega
theorem fr_can {w h : Int} (hw : 1 ≤ w ∧ w ≤ 256) (hh : 1 ≤ h ∧ h ≤ 256) : canonF [fr w h] = [fr w h] := by
  have hb : CanB [((0 : Int), h, [((0 : Int), w)])] := canB_one.2 ⟨by simp only; omega, by simp, ⟨fun r hr => by rw [List.mem_singleton] at hr; subst hr; simp only; omega, by simp⟩⟩
  have hr : rectsF [((0 : Int), h, [((0 : Int), w)])] = [fr w h] := rfl
  have := rects_canon hb (by
    rw [hr]
    have := fr_clean hw hh
    exact fun r h2 => by rw [← this] at h2; exact cl_ok _ r h2)
  rw [hr] at this
  exact this
theorem fr_in {w h : Int} : InFr w h [fr w h] := fun r hr => by
  rw [List.mem_singleton] at hr
  subst hr
  simp [fr]
/-- All of a buffer is covered. -/
theorem fr_cov {o n : Bf} (ho : bOk o = true) : covB o n [fr o.w o.h] = true := by
  obtain ⟨hw, hh, hl, _⟩ := bOk_iff.1 ho
  rw [cov_iff]
  intro k hk
  refine .inl ((posF_mem fr_in).2 ⟨⟨by omega, by omega⟩, fr_pt.2 ⟨⟨Int.emod_nonneg _ (by omega), Int.emod_lt_of_pos _ (by omega)⟩, Int.ediv_nonneg (by omega) (by omega), Int.ediv_lt_of_lt_mul (by omega) (by rw [Int.mul_comm]; omega)⟩⟩)
theorem fr_enc {o n : Bf} (ho : bOk o = true) (hn : bOk n = true) (hwh : o.w = n.w ∧ o.h = n.h) : encM o n [fr o.w o.h] = (encL o n [fr o.w o.h], 0) := by
  obtain ⟨hw, hh, hl, _⟩ := bOk_iff.1 ho
  exact enc_again ho hn hwh (fr_can hw hh) fr_in (by simp) (fr_cov ho)
theorem fr_dec {o n : Bf} (ho : bOk o = true) (hn : bOk n = true) (bn : BB n) (hwh : o.w = n.w ∧ o.h = n.h) : decM o (encL o n [fr o.w o.h]) = (n, 0) := by
  obtain ⟨hw, hh, hl, _⟩ := bOk_iff.1 ho
  exact dec_enc ho hn bn hwh (fr_can hw hh) fr_in (by simp) (fr_cov ho)
theorem lit_ok {n : Bf} (hn : bOk n = true) : litM n = (encL (zeroB n) n [fr n.w n.h], 0) := by
  unfold litM
  rw [if_pos hn]
  exact fr_enc (zeroB_ok hn) hn ⟨rfl, rfl⟩
theorem lit_no {n : Bf} (hn : bOk n = false) : litM n = ([], 15) := by
  unfold litM
  rw [if_neg (by simp [hn])]
theorem encL_u8 {o n : Bf} {l : List R} (hl : l.length ≤ 256) : ∀ x ∈ encL o n l, U8 x := by
  intro x hx
  unfold encL at hx
  rcases List.mem_append.1 hx with hx | hx
  · unfold hdr at hx
    rcases List.mem_append.1 hx with hx | hx
    · exact le2_u8 _ x hx
    · obtain ⟨r, _, hx⟩ := List.mem_flatMap.1 hx
      rw [rb_crd] at hx
      obtain ⟨c, _, hx⟩ := List.mem_flatMap.1 hx
      exact le2_u8 _ x hx
  · exact encR_u8 _ _ _ (runs0 (diff_u32 _ _ _)) x hx
theorem encL_len {o n : Bf} {l : List R} (hl : l.length ≤ 256) (hp : (posF l o.w).length ≤ 65536) : (encL o n l).length ≤ 1000000 := by
  unfold encL
  have h := runs_len (diffF o.px n.px (posF l o.w))
  rw [diff_len] at h
  rw [List.length_append, hdr_len, encR_len]
  omega
end Go.Proofs.Ytkjkolacnpknoaa
end

/-! CodecTruncated, walked. Conditions: as each lemma states them. -/
section
namespace Go.Proofs.Ytkjkolacnpknoaa
open Go Go.Ab Go.RowKit
set_option linter.unusedSimpArgs false
set_option linter.unusedVariables false
set_option linter.unnecessarySimpa false

attribute [local simp] condK_true condK_false condK_not wpc_skip wpc_ret wpc_exit wpc_seq wpc_reg wpc_regD testA_bool wpc_cond wpc_block thenA_normal thenA_ret thenA_exit blockA_normal blockA_ret blockA_exit blockA_other endA_normal endA_ret ev_tmp' ev_const ev_func ev_global cv_int cv_bool cv_string cv_pointer cv_slice cv_agg cv_map put_some put_none wH_s setE_apply setE_env less_eq env_cons env_nil upd_upd upd_apply del_apply startA_eq cells_ag cells_sl one_sl cells_vs one_vs cells_ep one_ep cells_fn one_fn cells_int one_int cells_bool one_bool cells_string one_string cells_pointer one_pointer cells_slice one_slice cells_map one_map cells_agg resK_one resK_nil resK_two rvK_t rvK_c rvsK_nil rvsK_cons iseq_nil iseq_cons gdA_true gdA_false gdA_undef istep_free istep_guard istepV_free istepV_guard dseq_nil dseq_pu dseq_rd dseq_ef wpc_regT dtree_nil dtree_pu dtree_rd dtree_ef dtree_br chkAll_nil chkAll_cons andK_true pickK_true pickK_false pickK_tb pickK_fb bin2K_pl eqbK_eq eqbK_ne eqpK_eq eqpK_ne eqmK_eq eqmK_ne eqzK_eq eqzK_ne eqzK_sl eqzK_vs un1K_pl convK_int fillK_some fillA_cons fillA_nil cellsK_some needK_true needK_ok seeK_ep seeK_ptr oneK_agg oneK_one nilcK_ptr nilcK_ep fadrK_ptr fadrK_ep fldK_ag iadAK_ptr iadAK_ep iadSK_sl iadSK_vs extK_0 extK_1 extK_2 extK_3 lenK_pl lenK_sl lenK_vs lensK_pl boxK_some minmax1K_int storeK_ptr callvK_fn callvK_pl newsK_nil newsK_vs newsK_sl appK_nil appK_nil0 appK_sl appK_vs bnd1K_int bndK_none bndK_some slsK_vs slsK_nil slsK_sl0 slsK_sl slstrK_pl boolK_some eqsK_ag iop_eqs iop_sls iop_slstr seesK_some seesK_ro mapsK_some MAP_some findK_some findK_none plK_pl nmapK_none nmapK_some iop_mlook iop_mlen iop_mmk iop_mupd iop_mdel iop_mrng itK_none itK_some ptr0K_ptr iop_mnxt iop_ment it1K_some entK_some iop_mov iop_pick iop_bin iop_eqb iop_eqp iop_eqm iop_eqz iop_un capK_pl capK_sl capK_vs iop_cap iop_b2s b2sK_nil b2sK_sl b2sK_vs strK_some iop_idxv idxvK_ag atK_some apzK_nil iop_apz mksK_int iop_mks clrK_sl clrK_vs clrK_nil iop_clr iop_conv iop_build iop_load iop_nilc iop_fadr iop_fld iop_iadA iop_iadS iop_ext iop_mkf iop_len iop_lens iop_minmax iop_al iop_box iop_bsl iop_store iop_call iop_callv iop_app BIN_add BIN_sub BIN_mul BIN_and BIN_or BIN_xor BIN_andNot BIN_eql BIN_neq BIN_lss BIN_leq BIN_gtr BIN_geq BIN_quo BIN_rem BIN_shl BIN_shr BIN_sadd BIN_seql BIN_sneq BIN_slss BIN_sleq BIN_sgtr BIN_sgeq UN_neg UN_xor UN_not MM_nil MM_cons partsA argsA ptrA lessL eqL min2I slotN_int slotP_int slotI_int
attribute [local simp] rc_len rc_t4 rc_t1 rc_t2 rc_t3 rc_d1 rc_d2 rc_d3 rc_d4 rc_ag rc_one rc_eq

theorem regT_cut {P : Program} {Q : Exit → ASt → Prop} {s : ASt} {l : DT} {keep : List Nat} (M : ASt → Prop) (h1 : @DR P l [] ⟨M⟩ s) (h2 : ∀ s', M s' → Q .normal (s'.less keep)) : @WP P (.regT l keep) ⟨Q⟩ s :=
  dtree_mono h2 l [] s h1
/-- A block grows: every other block stays. -/
theorem appB {H G : AH} {r n sz m bytes : Nat} {f : Bool} {cs ns : List AV} {k : AV → AH → Prop} (hr : H r = some (.cells cs)) (hg : Sub G H) (hn : G r = none) (ho : ns.all AV.one = true) (hl : cs.length = n * sz) (hb : (n + m) * bytes ≤ 140737488355328)
    (hk : ∀ r' H', H' r' = some (.cells (cs ++ ns)) → G r' = none → Sub G H' → (∀ j o, H j = some o → j ≠ r → H' j = some o ∧ r' ≠ j) → k (.sl r' 0 (n + m) sz false) H') : @appK H sz bytes (.sl r 0 n sz f) m ns ⟨k⟩ := by
  refine sl_app (H0 := del H r) (cs := cs) (by simp [del_apply]) (fun j o hj => ?_) ho hl hb fun r' H' h1 h2 => ?_
  · simp only [upd_apply, del_apply] at hj
    by_cases e : j = r
    · rw [if_pos e] at hj; rw [e, hr]; exact hj
    · rw [if_neg e, if_neg e] at hj; exact hj
  · have hgd : Sub G (del H r) := hg.del hn
    refine hk r' H' (h2 _ _ (by simp [upd_apply])) (hgd.none_of h1) ((hgd.upd (hgd.none_of h1)).trans h2) fun j o hj hne => ?_
    have hd : del H r j = some o := by simp only [del_apply]; rw [if_neg hne]; exact hj
    have hnr : r' ≠ j := by rintro rfl; rw [h1] at hd; cases hd
    refine ⟨h2 _ _ ?_, hnr⟩
    simp only [upd_apply]
    rw [if_neg (fun h => hnr h.symm)]
    exact hd
def six (o n : Bf) (p q : AV) : List AV := bfc o.w o.h p ++ bfc n.w n.h q
theorem encL_len9 {o n : Bf} {l : List R} (hl : l.length ≤ 256) (hp : (posF l o.w).length ≤ 400) : (encL o n l).length ≤ 999000 := by
  unfold encL
  have h := runs_len (diffF o.px n.px (posF l o.w))
  rw [diff_len] at h
  rw [List.length_append, hdr_len, encR_len]
  omega
def TM (G : AH) (z b9 : Nat) (b m c : AV) (e1 e2 : Option AV) (s : ASt) : Prop := s.n = 109 ∧ s.t 2 = m ∧ s.t 3 = pA z ∧ s.t 7 = b ∧ s.t 9 = pA b9 ∧ s.t 11 = c ∧ (∀ x, e1 = some x → s.t 13 = x) ∧ (∀ x, e2 = some x → s.t 15 = x) ∧ Sub G s.H
set_option maxHeartbeats 4000000 in
theorem c6 {H : AH} {K : AV → AH → Prop} {p q : AV} {o n : Bf} {cut more : Int} (ho : Rw H p (flat pxc o.px) o.px.length 4) (hn : Rw H q (flat pxc n.px) n.px.length 4) (bo : BB o) (bn : BB n) (hcut : 0 ≤ cut ∧ cut < 65536) (hmore : U8 more) (hk : K (vb true) H) :
    @AC Try.prog 6 [.ag (six o n p q), .pl (.int .u16 cut), v8 more] H ⟨K⟩ := by
  have op := Rw.one ho
  have oq := Rw.one hn
  have lo := fun k => Rw.lenK ho (k := k)
  have ln := fun k => Rw.lenK hn (k := k)
  have bl : ∀ (w h : Int) (a : AV), (bfc w h a).length = 3 := fun _ _ _ => rfl
  have t3 : ∀ (w h : Int) (a : AV), (bfc w h a).take 3 = bfc w h a := fun _ _ _ => rfl
  have l6 : (six o n p q).length = 6 := rfl
  have e0 : (six o n p q).take 3 = bfc o.w o.h p := rfl
  have e3 : ((six o n p q).drop 3).take 3 = bfc n.w n.h q := rfl
  have f0 : (six o n p q).take 1 = [vi o.w] := rfl
  have f1 : ((six o n p q).drop 1).take 1 = [vi o.h] := rfl
  have f1' : (six o n p q).tail.take 1 = [vi o.h] := rfl
  have f2 : ((six o n p q).drop 2).take 1 = [p] := rfl
  refine AC_of (.forget ?_)
  refine call_c follows cf6_ok (by simp) ?_
  simp [l6, -wpc_regT]
  refine newK_of fun z hz => ?_
  have hsz : Sub H (upd H z (.cells (six o n p q))) := (Sub.refl H).upd hz
  have kz : upd H z (.cells (six o n p q)) z = some (.cells (six o n p q)) := by simp [upd_apply]
  generalize upd H z (.cells (six o n p q)) = H1 at *
  simp [kz, l6, e0, -wpc_regT]
  refine c14 (ho.sub hsz) ?_
  by_cases h1 : 400 < o.px.length
  · have h1' : (400 : Int) < o.px.length := by omega
    simp [h1, h1']
    refine c8 ?_
    simp
    exact ⟨H, hsz, hk⟩
  have h1' : ¬ (400 : Int) < o.px.length := by omega
  simp [h1, h1', kz, l6, e3, -wpc_regT]
  refine c14 (hn.sub hsz) ?_
  by_cases h2 : 400 < n.px.length
  · have h2' : (400 : Int) < n.px.length := by omega
    simp [h2, h2']
    refine c8 ?_
    simp
    exact ⟨H, hsz, hk⟩
  have h2' : ¬ (400 : Int) < n.px.length := by omega
  simp [h2, h2', kz, l6, e0, e3, -wpc_regT]
  refine newK_of fun yd hyd => ?_
  have hsd : Sub H1 (upd H1 yd (.cells (rc (fr 256 256)))) := (Sub.refl H1).upd hyd
  have hdc : rc ⟨0, 0, 256, 256⟩ = rc (fr 256 256) := rfl
  rw [hdc]
  have hdr : Rr (upd H1 yd (.cells (rc (fr 256 256)))) (.sl yd 0 1 4 true) [fr 256 256] := Rw.sl (cs := flat rc [fr 256 256]) rfl (by simp [upd_apply, flat])
  have kz2 := hsd _ _ kz
  have hs2 := hsz.trans hsd
  generalize upd H1 yd (.cells (rc (fr 256 256))) = H2 at *
  generalize AV.sl yd 0 1 4 true = ad at *
  have cad := Rw.cells hdr
  simp [cad, -wpc_regT]
  refine c16 (ho.sub hs2) (hn.sub hs2) hdr bo bn (by omega) (by omega) (by simp) fun b H3 hb => ?_
  have kz3 := hb.sub _ _ kz2
  have hs3 := hs2.trans hb.sub
  obtain ⟨⟨bs, e⟩, hE⟩ : ∃ x, encM o n [fr 256 256] = x := ⟨_, rfl⟩
  rw [hE] at hb ⊢
  simp only at hb ⊢
  have hbr : Rw H3 b (bs.map v8) bs.length 1 := (hb.rin (by simp)).rd
  have cb := Rw.cells hbr
  have ob := Rw.one hbr
  have lb := fun k => Rw.lenK hbr (k := k)
  simp [cb, -wpc_regT]
  by_cases he : e = 0
  case neg =>
    simp [he]
    refine c8 ?_
    simp
    exact ⟨H, hs3, hk⟩
  subst he
  obtain ⟨hoo, hnn, hwh, L, hL, hEO, hcov, hbs⟩ := enc_inv hE
  obtain ⟨bw, bh, bpl, _⟩ := bOk_iff.1 hoo
  have hcut' := mod_cut bw bh [fr 256 256]
  rw [← hL] at hcut'
  have hfit : ∀ p ∈ posF L o.w, 0 ≤ p ∧ p < o.px.length := fun p hp => by have := posF_in hcut'.fr hp; omega
  have hplen := nodup_len _ _ (posF_nodup hcut'.fr hcut'.ap) hfit
  have hbl : bs.length ≤ 999000 := by rw [hbs]; exact encL_len9 hEO.len (by omega)
  have hb8 : ∀ x ∈ bs, U8 x := by rw [hbs]; exact encL_u8 hEO.len
  have hbne : 2 ≤ bs.length := by
    rw [hbs]
    unfold encL
    rw [List.length_append, hdr_len]
    omega
  have hb0 : ¬ (bs.length : Int) = 0 := by omega
  have hb0n : ¬ bs.length = 0 := by omega
  have hb0l : ¬ bs = [] := by rintro rfl; simp at hbne
  simp [lb, hb0, hb0n, hb0l, kz3, l6, f0, f1, f1', f2, -wpc_regT]
  refine newK_of fun z59 h59 => ?_
  have hs59 : Sub H3 (upd H3 z59 (.cells [])) := (Sub.refl H3).upd h59
  have kz4 := hs59 _ _ kz3
  have hop := ho.sub (hs3.trans hs59)
  have hnA := fun k => Rw.news hop (k := k)
  have hfo : (flat pxc o.px).all AV.one = true := by
    rw [List.all_eq_true]
    intro v hv
    obtain ⟨l, hl, hv⟩ := List.mem_flatten.1 (show v ∈ (o.px.map pxc).flatten from hv)
    obtain ⟨p, _, rfl⟩ := List.mem_map.1 hl
    simp [pxc] at hv
    rcases hv with rfl | rfl | rfl | rfl <;> rfl
  have nz59 : ¬ z = z59 := ne_of_free kz3 h59
  generalize hx5 : AV.sl z59 0 0 4 true = x5
  simp [hnA, nz59, kz3, l6, f0, f1, f1', f2, -wpc_regT]
  rw [← hx5]
  refine sl_app (H0 := H3) h59 (Sub.refl _) hfo rfl (by omega) fun ro H4 hro hs4 => ?_
  have hfro : H4 ro = some (.cells (flat pxc o.px)) := hs4 _ _ (by simp [upd_apply])
  have hs34 : Sub H3 H4 := ((Sub.refl H3).upd hro).trans hs4
  have kz5 := hs34 _ _ kz3
  have hroR : Rw H4 (.sl ro 0 (0 + o.px.length) 4 false) (flat pxc o.px) o.px.length 4 := by
    rw [Nat.zero_add]
    exact Rw.sl (flat_len pxc_l _) hfro
  generalize AV.sl ro 0 (0 + o.px.length) 4 false = ar at *
  have oar := Rw.one hroR
  have car := Rw.cells hroR
  simp [kz5, l6, f0, f1, f1', f2, car, -wpc_regT]
  refine newK_of fun b9 h9 => ?_
  have n9 : ¬ z = b9 := ne_of_free kz5 h9
  have hs5 : Sub H4 (upd H4 b9 (.cells (bfc o.w o.h ar))) := (Sub.refl H4).upd h9
  have kz6 := hs5 _ _ kz5
  have k9 : upd H4 b9 (.cells (bfc o.w o.h ar)) b9 = some (.cells (bfc o.w o.h ar)) := by simp [upd_apply]
  have h35 := hs34.trans hs5
  have hbar : bfc o.w o.h ar = [vi o.w, vi o.h, ar] := rfl
  simp [oar, n9, kz5, l6, f0, f1, f1', f2, -wpc_regT]
  rw [← hbar]
  have lb5 := fun k => Rw.lenK (hbr.sub h35) (k := k)
  have wcut := IntWalk.i64_in cut (by omega)
  have hmod : Int.tmod cut (bs.length : Int) = ((cut.toNat % bs.length : Nat) : Int) := by
    rw [Int.tmod_eq_emod_of_nonneg (by omega), Int.natCast_emod, Int.toNat_of_nonneg hcut.1]
  generalize hk' : cut.toNat % bs.length = kk at *
  have hkk : kk < bs.length := by rw [← hk']; exact Nat.mod_lt _ (by omega)
  generalize upd H4 b9 (.cells (bfc o.w o.h ar)) = H5 at *
  simp [lb5, lb, wcut, hmod, hb0, hb0n, hb0l, n9, kz6, l6, e0, -wpc_regT]
  refine Rw.slice (hbr.sub h35) (l := 0) (u := kk) (by omega) (by omega) (fun k => bndK_none) (fun k => by simp) fun x2 hx2 => ?_
  have hx2 : Rw H5 x2 ((bs.take kk).map v8) (bs.take kk).length 1 := by
    have := hx2
    simp only [Nat.zero_mul, List.drop_zero, Nat.sub_zero, Nat.mul_one, ← List.map_take] at this
    rw [List.length_take, Nat.min_eq_left (by omega)]
    exact this
  have cx2 := Rw.cells hx2
  simp [cx2, kz6, l6, e0, -wpc_regT]
  have hd1 : decM o (bs.take kk) = (zB, 4) := by rw [hbs] at hkk ⊢; exact enc_cut hEO hkk
  refine c15 (o := o) (b := bs.take kk) (ho.sub (hs3.trans h35)) hx2 bo (fun x hx => hb8 x (List.mem_of_mem_take hx)) (by omega) (by rw [List.length_take]; omega) fun y10 H6 hy10 => ?_
  rw [hd1] at hy10 ⊢
  simp only [zB] at hy10 ⊢
  have oy10 := hy10.one
  have by10 : (∀ x ∈ bfc zB.w zB.h y10, x.one = true) = True := eq_true (by simp [bfc, oy10])
  have kz7 := hy10.sub _ _ kz6
  have k97 := hy10.sub _ _ k9
  have lb6 := fun k => Rw.lenK ((hbr.sub h35).sub hy10.sub) (k := k)
  simp [kz7, l6, e0, lb6, wcut, -wpc_regT]
  refine newK_of fun b10 h10 => ?_
  have n10 : ¬ z = b10 := ne_of_free kz7 h10
  have n109 : ¬ b9 = b10 := ne_of_free k97 h10
  have hs7 := hy10.sub.trans ((Sub.refl H6).upd h10 (o := .cells (bfc zB.w zB.h y10)))
  simp [n10, kz7, l6, e0, lb6, wcut, by10, bl, t3, -wpc_regT]
  have kz8 := hs7 _ _ kz6
  have k98 := hs7 _ _ k9
  have hoG := ho.sub ((hs3.trans h35).trans hs7)
  have hbG := hbr.sub (h35.trans hs7)
  have hrG := hroR.sub (hs5.trans hs7)
  have hHG := (hs3.trans h35).trans hs7
  generalize upd H6 b10 (.cells (bfc zB.w zB.h y10)) = G at *
  have hb1 : (bs.map v8).all AV.one = true := by simp
  have hd2 : decM o (bs ++ [more]) = (zB, 4) := by rw [hbs]; exact enc_one hEO more
  have hd3 : decM o (bs ++ [1, more, 0, 0, 0]) = (zB, 3) := by rw [hbs]; exact enc_five hEO more
  have hd2u : ∀ x ∈ bs ++ [more], U8 x := by
    intro x hx
    simp at hx
    rcases hx with hx | rfl
    · exact hb8 x hx
    · exact hmore
  have hd3u : ∀ x ∈ bs ++ [1, more, 0, 0, 0], U8 x := by
    intro x hx
    simp at hx
    rcases hx with hx | rfl | rfl | rfl
    · exact hb8 x hx
    · unfold U8; omega
    · exact hmore
    · unfold U8; omega
  have hd2l : (bs ++ [more]).length ≤ 1000000 := by simp; omega
  have hd3l : (bs ++ [1, more, 0, 0, 0]).length ≤ 1000000 := by simp; omega
  refine regT_cut (TM G z b9 b (v8 more) (vi 4) (some (vi 4)) none) ?_ fun s1 hm => ?_
  · have kzc := kz8
    have hnb := fun k => Rw.news hbG (k := k)
    simp [kzc, l6, e0, ob, cb, hnb]
    refine bothK_of ?_ ?_
    · simp [kzc, l6, e0, ob, cb, hnb]
      refine newK_of fun yA hyA => ?_
      have hgc : Sub G (upd G yA (.cells ([] : List AV))) := (Sub.refl G).upd hyA
      have gyA : G yA = none := hyA
      have kyA : upd G yA (.cells ([] : List AV)) yA = some (.cells ([] : List AV)) := by simp [upd_apply]
      generalize upd G yA (.cells ([] : List AV)) = Hc at *
      have kzc := hgc _ _ kz8
      have hnb := fun k => Rw.news (hbG.sub hgc) (k := k)
      generalize hxA : AV.sl yA 0 0 1 true = xA
      simp [kzc, l6, e0, ob, cb, hnb]
      refine bothK_of ?_ ?_
      · simp [kzc, l6, e0, ob, cb, hnb]
        rw [← hxA]
        refine appB kyA hgc gyA hb1 (by simp) (by omega) fun yB Hc2 kyB gyB hgc2 mv => ?_
        rw [List.nil_append] at kyB
        clear mv
        replace hgc := hgc2
        clear hgc2
        generalize hxB : AV.sl yB 0 (0 + bs.length) 1 false = xB
        generalize Hc2 = Hc at *
        have kzc := hgc _ _ kz8
        have hnb := fun k => Rw.news (hbG.sub hgc) (k := k)
        simp [kzc, l6, e0, ob, cb, hnb]
        refine newK_of fun yC hyC => ?_
        have gyC : G yC = none := hgc.none_of hyC
        have sc : Sub Hc (upd Hc yC (.cells [v8 more])) := (Sub.refl Hc).upd hyC
        have kyC : upd Hc yC (.cells [v8 more]) yC = some (.cells [v8 more]) := by simp [upd_apply]
        have nyByC : ¬ yB = yC := ne_of_free kyB hyC
        have nyCyB : ¬ yC = yB := fun h => nyByC h.symm
        replace kyB := sc _ _ kyB
        replace hgc := hgc.trans sc
        clear sc
        generalize upd Hc yC (.cells [v8 more]) = Hc at *
        generalize hxC : AV.sl yC 0 1 1 true = xC
        have kzc := hgc _ _ kz8
        have hnb := fun k => Rw.news (hbG.sub hgc) (k := k)
        have hnC : ∀ k : Nat → List AV → Prop, @NEWS Hc xC 1 ⟨k⟩ = k 1 [v8 more] := by intro k; rw [← hxC]; simp [kyC]
        simp [kzc, l6, e0, ob, cb, hnb, hnC]
        rw [← hxB]
        refine appB (ns := [v8 more]) kyB hgc gyB rfl (by simp) (by omega) fun yD Hc2 kyD gyD hgc2 mv => ?_
        clear mv
        replace hgc := hgc2
        clear hgc2
        generalize Hc2 = Hc at *
        have kzc := hgc _ _ kz8
        have hnb := fun k => Rw.news (hbG.sub hgc) (k := k)
        have hxD : Rw Hc (.sl yD 0 (0 + bs.length + 1) 1 false) ((bs ++ [more]).map v8) (bs ++ [more]).length 1 := by
          rw [Nat.zero_add, List.length_append, show ([more] : List Int).length = 1 from rfl]
          exact Rw.sl (by simp) (by rw [List.map_append]; exact kyD)
        generalize AV.sl yD 0 (0 + bs.length + 1) 1 false = xD at *
        have cxD := Rw.cells hxD
        simp [kzc, l6, e0, ob, cb, hnb, cxD]
        refine c15 (o := o) (b := bs ++ [more]) (hoG.sub hgc) hxD bo hd2u (by omega) hd2l fun yE Hc2 hyE => ?_
        rw [hd2] at hyE ⊢
        simp only at hyE ⊢
        have oyE := hyE.one
        have byE : (∀ x ∈ bfc zB.w zB.h yE, x.one = true) = True := eq_true (by simp [bfc, oyE])
        replace hgc := hgc.trans hyE.sub
        generalize Hc2 = Hc at *
        have kzc := hgc _ _ kz8
        have hnb := fun k => Rw.news (hbG.sub hgc) (k := k)
        simp [kzc, l6, e0, ob, cb, hnb]
        refine newK_of fun yF hyF => ?_
        have gyF : G yF = none := hgc.none_of hyF
        have sc : Sub Hc (upd Hc yF (.cells [vi 0, vi 0, vnil])) := (Sub.refl Hc).upd hyF
        have kyF : upd Hc yF (.cells [vi 0, vi 0, vnil]) yF = some (.cells [vi 0, vi 0, vnil]) := by simp [upd_apply]
        replace hgc := hgc.trans sc
        clear sc
        generalize upd Hc yF (.cells [vi 0, vi 0, vnil]) = Hc at *
        have kzc := hgc _ _ kz8
        have hnb := fun k => Rw.news (hbG.sub hgc) (k := k)
        simp [kzc, l6, e0, ob, cb, hnb, kyF, byE, bl, t3]
        exact ⟨by simp, by simp, by simp, by simp, by simp, by simp, fun x hx => (Option.some.inj hx) ▸ (by simp), fun x hx => by simp at hx, hgc.upd gyF⟩
      · simp [kzc, l6, e0, ob, cb, hnb]
        refine bothK_of ?_ ?_
        · simp [kzc, l6, e0, ob, cb, hnb]
          refine newK_of fun yC hyC => ?_
          have gyC : G yC = none := hgc.none_of hyC
          have sc : Sub Hc (upd Hc yC (.cells [v8 more])) := (Sub.refl Hc).upd hyC
          have kyC : upd Hc yC (.cells [v8 more]) yC = some (.cells [v8 more]) := by simp [upd_apply]
          have nyAyC : ¬ yA = yC := ne_of_free kyA hyC
          have nyCyA : ¬ yC = yA := fun h => nyAyC h.symm
          replace kyA := sc _ _ kyA
          replace hgc := hgc.trans sc
          clear sc
          generalize upd Hc yC (.cells [v8 more]) = Hc at *
          generalize hxC : AV.sl yC 0 1 1 true = xC
          have kzc := hgc _ _ kz8
          have hnb := fun k => Rw.news (hbG.sub hgc) (k := k)
          have hnC : ∀ k : Nat → List AV → Prop, @NEWS Hc xC 1 ⟨k⟩ = k 1 [v8 more] := by intro k; rw [← hxC]; simp [kyC]
          simp [kzc, l6, e0, ob, cb, hnb, hnC]
          rw [← hxA]
          refine appB kyA hgc gyA hb1 (by simp) (by omega) fun yB Hc2 kyB gyB hgc2 mv => ?_
          have nyByC : ¬ yB = yC := (mv _ _ kyC (fun h => nyAyC h.symm)).2
          have nyCyB : ¬ yC = yB := fun h => nyByC h.symm
          replace kyC := (mv _ _ kyC (fun h => nyAyC h.symm)).1
          rw [List.nil_append] at kyB
          clear mv
          replace hgc := hgc2
          clear hgc2
          generalize hxB : AV.sl yB 0 (0 + bs.length) 1 false = xB
          generalize Hc2 = Hc at *
          have kzc := hgc _ _ kz8
          have hnb := fun k => Rw.news (hbG.sub hgc) (k := k)
          have hnC : ∀ k : Nat → List AV → Prop, @NEWS Hc xC 1 ⟨k⟩ = k 1 [v8 more] := by intro k; rw [← hxC]; simp [kyC]
          simp [kzc, l6, e0, ob, cb, hnb, hnC]
          rw [← hxB]
          refine appB (ns := [v8 more]) kyB hgc gyB rfl (by simp) (by omega) fun yD Hc2 kyD gyD hgc2 mv => ?_
          clear mv
          replace hgc := hgc2
          clear hgc2
          generalize Hc2 = Hc at *
          have kzc := hgc _ _ kz8
          have hnb := fun k => Rw.news (hbG.sub hgc) (k := k)
          have hxD : Rw Hc (.sl yD 0 (0 + bs.length + 1) 1 false) ((bs ++ [more]).map v8) (bs ++ [more]).length 1 := by
            rw [Nat.zero_add, List.length_append, show ([more] : List Int).length = 1 from rfl]
            exact Rw.sl (by simp) (by rw [List.map_append]; exact kyD)
          generalize AV.sl yD 0 (0 + bs.length + 1) 1 false = xD at *
          have cxD := Rw.cells hxD
          simp [kzc, l6, e0, ob, cb, hnb, cxD]
          refine c15 (o := o) (b := bs ++ [more]) (hoG.sub hgc) hxD bo hd2u (by omega) hd2l fun yE Hc2 hyE => ?_
          rw [hd2] at hyE ⊢
          simp only at hyE ⊢
          have oyE := hyE.one
          have byE : (∀ x ∈ bfc zB.w zB.h yE, x.one = true) = True := eq_true (by simp [bfc, oyE])
          replace hgc := hgc.trans hyE.sub
          generalize Hc2 = Hc at *
          have kzc := hgc _ _ kz8
          have hnb := fun k => Rw.news (hbG.sub hgc) (k := k)
          simp [kzc, l6, e0, ob, cb, hnb]
          refine newK_of fun yF hyF => ?_
          have gyF : G yF = none := hgc.none_of hyF
          have sc : Sub Hc (upd Hc yF (.cells [vi 0, vi 0, vnil])) := (Sub.refl Hc).upd hyF
          have kyF : upd Hc yF (.cells [vi 0, vi 0, vnil]) yF = some (.cells [vi 0, vi 0, vnil]) := by simp [upd_apply]
          replace hgc := hgc.trans sc
          clear sc
          generalize upd Hc yF (.cells [vi 0, vi 0, vnil]) = Hc at *
          have kzc := hgc _ _ kz8
          have hnb := fun k => Rw.news (hbG.sub hgc) (k := k)
          simp [kzc, l6, e0, ob, cb, hnb, kyF, byE, bl, t3]
          exact ⟨by simp, by simp, by simp, by simp, by simp, by simp, fun x hx => (Option.some.inj hx) ▸ (by simp), fun x hx => by simp at hx, hgc.upd gyF⟩
        · simp [kzc, l6, e0, ob, cb, hnb]
          refine newK_of fun yF hyF => ?_
          have gyF : G yF = none := hgc.none_of hyF
          have sc : Sub Hc (upd Hc yF (.cells [vi 0, vi 0, vnil])) := (Sub.refl Hc).upd hyF
          have kyF : upd Hc yF (.cells [vi 0, vi 0, vnil]) yF = some (.cells [vi 0, vi 0, vnil]) := by simp [upd_apply]
          have nyAyF : ¬ yA = yF := ne_of_free kyA hyF
          have nyFyA : ¬ yF = yA := fun h => nyAyF h.symm
          replace kyA := sc _ _ kyA
          replace hgc := hgc.trans sc
          clear sc
          generalize upd Hc yF (.cells [vi 0, vi 0, vnil]) = Hc at *
          have kzc := hgc _ _ kz8
          have hnb := fun k => Rw.news (hbG.sub hgc) (k := k)
          simp [kzc, l6, e0, ob, cb, hnb]
          refine bothK_of ?_ ?_
          · simp [kzc, l6, e0, ob, cb, hnb]
            rw [← hxA]
            refine appB kyA hgc gyA hb1 (by simp) (by omega) fun yB Hc2 kyB gyB hgc2 mv => ?_
            have nyByF : ¬ yB = yF := (mv _ _ kyF (fun h => nyAyF h.symm)).2
            have nyFyB : ¬ yF = yB := fun h => nyByF h.symm
            replace kyF := (mv _ _ kyF (fun h => nyAyF h.symm)).1
            rw [List.nil_append] at kyB
            clear mv
            replace hgc := hgc2
            clear hgc2
            generalize hxB : AV.sl yB 0 (0 + bs.length) 1 false = xB
            generalize Hc2 = Hc at *
            have kzc := hgc _ _ kz8
            have hnb := fun k => Rw.news (hbG.sub hgc) (k := k)
            simp [kzc, l6, e0, ob, cb, hnb]
            refine newK_of fun yC hyC => ?_
            have gyC : G yC = none := hgc.none_of hyC
            have sc : Sub Hc (upd Hc yC (.cells [v8 more])) := (Sub.refl Hc).upd hyC
            have kyC : upd Hc yC (.cells [v8 more]) yC = some (.cells [v8 more]) := by simp [upd_apply]
            have nyByC : ¬ yB = yC := ne_of_free kyB hyC
            have nyCyB : ¬ yC = yB := fun h => nyByC h.symm
            replace kyB := sc _ _ kyB
            have nyFyC : ¬ yF = yC := ne_of_free kyF hyC
            have nyCyF : ¬ yC = yF := fun h => nyFyC h.symm
            replace kyF := sc _ _ kyF
            replace hgc := hgc.trans sc
            clear sc
            generalize upd Hc yC (.cells [v8 more]) = Hc at *
            generalize hxC : AV.sl yC 0 1 1 true = xC
            have kzc := hgc _ _ kz8
            have hnb := fun k => Rw.news (hbG.sub hgc) (k := k)
            have hnC : ∀ k : Nat → List AV → Prop, @NEWS Hc xC 1 ⟨k⟩ = k 1 [v8 more] := by intro k; rw [← hxC]; simp [kyC]
            simp [kzc, l6, e0, ob, cb, hnb, hnC]
            rw [← hxB]
            refine appB (ns := [v8 more]) kyB hgc gyB rfl (by simp) (by omega) fun yD Hc2 kyD gyD hgc2 mv => ?_
            have nyDyF : ¬ yD = yF := (mv _ _ kyF (fun h => nyByF h.symm)).2
            have nyFyD : ¬ yF = yD := fun h => nyDyF h.symm
            replace kyF := (mv _ _ kyF (fun h => nyByF h.symm)).1
            clear mv
            replace hgc := hgc2
            clear hgc2
            generalize Hc2 = Hc at *
            have kzc := hgc _ _ kz8
            have hnb := fun k => Rw.news (hbG.sub hgc) (k := k)
            have hxD : Rw Hc (.sl yD 0 (0 + bs.length + 1) 1 false) ((bs ++ [more]).map v8) (bs ++ [more]).length 1 := by
              rw [Nat.zero_add, List.length_append, show ([more] : List Int).length = 1 from rfl]
              exact Rw.sl (by simp) (by rw [List.map_append]; exact kyD)
            generalize AV.sl yD 0 (0 + bs.length + 1) 1 false = xD at *
            have cxD := Rw.cells hxD
            simp [kzc, l6, e0, ob, cb, hnb, cxD]
            refine c15 (o := o) (b := bs ++ [more]) (hoG.sub hgc) hxD bo hd2u (by omega) hd2l fun yE Hc2 hyE => ?_
            rw [hd2] at hyE ⊢
            simp only at hyE ⊢
            have oyE := hyE.one
            have byE : (∀ x ∈ bfc zB.w zB.h yE, x.one = true) = True := eq_true (by simp [bfc, oyE])
            replace kyF := hyE.sub _ _ kyF
            replace hgc := hgc.trans hyE.sub
            generalize Hc2 = Hc at *
            have kzc := hgc _ _ kz8
            have hnb := fun k => Rw.news (hbG.sub hgc) (k := k)
            simp [kzc, l6, e0, ob, cb, hnb, kyF, byE, bl, t3]
            exact ⟨by simp, by simp, by simp, by simp, by simp, by simp, fun x hx => (Option.some.inj hx) ▸ (by simp), fun x hx => by simp at hx, hgc.upd gyF⟩
          · simp [kzc, l6, e0, ob, cb, hnb]
            refine newK_of fun yC hyC => ?_
            have gyC : G yC = none := hgc.none_of hyC
            have sc : Sub Hc (upd Hc yC (.cells [v8 more])) := (Sub.refl Hc).upd hyC
            have kyC : upd Hc yC (.cells [v8 more]) yC = some (.cells [v8 more]) := by simp [upd_apply]
            have nyAyC : ¬ yA = yC := ne_of_free kyA hyC
            have nyCyA : ¬ yC = yA := fun h => nyAyC h.symm
            replace kyA := sc _ _ kyA
            have nyFyC : ¬ yF = yC := ne_of_free kyF hyC
            have nyCyF : ¬ yC = yF := fun h => nyFyC h.symm
            replace kyF := sc _ _ kyF
            replace hgc := hgc.trans sc
            clear sc
            generalize upd Hc yC (.cells [v8 more]) = Hc at *
            generalize hxC : AV.sl yC 0 1 1 true = xC
            have kzc := hgc _ _ kz8
            have hnb := fun k => Rw.news (hbG.sub hgc) (k := k)
            have hnC : ∀ k : Nat → List AV → Prop, @NEWS Hc xC 1 ⟨k⟩ = k 1 [v8 more] := by intro k; rw [← hxC]; simp [kyC]
            simp [kzc, l6, e0, ob, cb, hnb, hnC]
            rw [← hxA]
            refine appB kyA hgc gyA hb1 (by simp) (by omega) fun yB Hc2 kyB gyB hgc2 mv => ?_
            have nyByC : ¬ yB = yC := (mv _ _ kyC (fun h => nyAyC h.symm)).2
            have nyCyB : ¬ yC = yB := fun h => nyByC h.symm
            replace kyC := (mv _ _ kyC (fun h => nyAyC h.symm)).1
            have nyByF : ¬ yB = yF := (mv _ _ kyF (fun h => nyAyF h.symm)).2
            have nyFyB : ¬ yF = yB := fun h => nyByF h.symm
            replace kyF := (mv _ _ kyF (fun h => nyAyF h.symm)).1
            rw [List.nil_append] at kyB
            clear mv
            replace hgc := hgc2
            clear hgc2
            generalize hxB : AV.sl yB 0 (0 + bs.length) 1 false = xB
            generalize Hc2 = Hc at *
            have kzc := hgc _ _ kz8
            have hnb := fun k => Rw.news (hbG.sub hgc) (k := k)
            have hnC : ∀ k : Nat → List AV → Prop, @NEWS Hc xC 1 ⟨k⟩ = k 1 [v8 more] := by intro k; rw [← hxC]; simp [kyC]
            simp [kzc, l6, e0, ob, cb, hnb, hnC]
            rw [← hxB]
            refine appB (ns := [v8 more]) kyB hgc gyB rfl (by simp) (by omega) fun yD Hc2 kyD gyD hgc2 mv => ?_
            have nyDyF : ¬ yD = yF := (mv _ _ kyF (fun h => nyByF h.symm)).2
            have nyFyD : ¬ yF = yD := fun h => nyDyF h.symm
            replace kyF := (mv _ _ kyF (fun h => nyByF h.symm)).1
            clear mv
            replace hgc := hgc2
            clear hgc2
            generalize Hc2 = Hc at *
            have kzc := hgc _ _ kz8
            have hnb := fun k => Rw.news (hbG.sub hgc) (k := k)
            have hxD : Rw Hc (.sl yD 0 (0 + bs.length + 1) 1 false) ((bs ++ [more]).map v8) (bs ++ [more]).length 1 := by
              rw [Nat.zero_add, List.length_append, show ([more] : List Int).length = 1 from rfl]
              exact Rw.sl (by simp) (by rw [List.map_append]; exact kyD)
            generalize AV.sl yD 0 (0 + bs.length + 1) 1 false = xD at *
            have cxD := Rw.cells hxD
            simp [kzc, l6, e0, ob, cb, hnb, cxD]
            refine c15 (o := o) (b := bs ++ [more]) (hoG.sub hgc) hxD bo hd2u (by omega) hd2l fun yE Hc2 hyE => ?_
            rw [hd2] at hyE ⊢
            simp only at hyE ⊢
            have oyE := hyE.one
            have byE : (∀ x ∈ bfc zB.w zB.h yE, x.one = true) = True := eq_true (by simp [bfc, oyE])
            replace kyF := hyE.sub _ _ kyF
            replace hgc := hgc.trans hyE.sub
            generalize Hc2 = Hc at *
            have kzc := hgc _ _ kz8
            have hnb := fun k => Rw.news (hbG.sub hgc) (k := k)
            simp [kzc, l6, e0, ob, cb, hnb, kyF, byE, bl, t3]
            exact ⟨by simp, by simp, by simp, by simp, by simp, by simp, fun x hx => (Option.some.inj hx) ▸ (by simp), fun x hx => by simp at hx, hgc.upd gyF⟩
    · simp [kzc, l6, e0, ob, cb, hnb]
      refine bothK_of ?_ ?_
      · simp [kzc, l6, e0, ob, cb, hnb]
        refine newK_of fun yC hyC => ?_
        have hgc : Sub G (upd G yC (.cells [v8 more])) := (Sub.refl G).upd hyC
        have gyC : G yC = none := hyC
        have kyC : upd G yC (.cells [v8 more]) yC = some (.cells [v8 more]) := by simp [upd_apply]
        generalize upd G yC (.cells [v8 more]) = Hc at *
        generalize hxC : AV.sl yC 0 1 1 true = xC
        have kzc := hgc _ _ kz8
        have hnb := fun k => Rw.news (hbG.sub hgc) (k := k)
        have hnC : ∀ k : Nat → List AV → Prop, @NEWS Hc xC 1 ⟨k⟩ = k 1 [v8 more] := by intro k; rw [← hxC]; simp [kyC]
        simp [kzc, l6, e0, ob, cb, hnb, hnC]
        refine newK_of fun yA hyA => ?_
        have gyA : G yA = none := hgc.none_of hyA
        have sc : Sub Hc (upd Hc yA (.cells ([] : List AV))) := (Sub.refl Hc).upd hyA
        have kyA : upd Hc yA (.cells ([] : List AV)) yA = some (.cells ([] : List AV)) := by simp [upd_apply]
        have nyCyA : ¬ yC = yA := ne_of_free kyC hyA
        have nyAyC : ¬ yA = yC := fun h => nyCyA h.symm
        replace kyC := sc _ _ kyC
        replace hgc := hgc.trans sc
        clear sc
        generalize upd Hc yA (.cells ([] : List AV)) = Hc at *
        have kzc := hgc _ _ kz8
        have hnb := fun k => Rw.news (hbG.sub hgc) (k := k)
        have hnC : ∀ k : Nat → List AV → Prop, @NEWS Hc xC 1 ⟨k⟩ = k 1 [v8 more] := by intro k; rw [← hxC]; simp [kyC]
        generalize hxA : AV.sl yA 0 0 1 true = xA
        simp [kzc, l6, e0, ob, cb, hnb, hnC]
        rw [← hxA]
        refine appB kyA hgc gyA hb1 (by simp) (by omega) fun yB Hc2 kyB gyB hgc2 mv => ?_
        have nyByC : ¬ yB = yC := (mv _ _ kyC (fun h => nyAyC h.symm)).2
        have nyCyB : ¬ yC = yB := fun h => nyByC h.symm
        replace kyC := (mv _ _ kyC (fun h => nyAyC h.symm)).1
        rw [List.nil_append] at kyB
        clear mv
        replace hgc := hgc2
        clear hgc2
        generalize hxB : AV.sl yB 0 (0 + bs.length) 1 false = xB
        generalize Hc2 = Hc at *
        have kzc := hgc _ _ kz8
        have hnb := fun k => Rw.news (hbG.sub hgc) (k := k)
        have hnC : ∀ k : Nat → List AV → Prop, @NEWS Hc xC 1 ⟨k⟩ = k 1 [v8 more] := by intro k; rw [← hxC]; simp [kyC]
        simp [kzc, l6, e0, ob, cb, hnb, hnC]
        rw [← hxB]
        refine appB (ns := [v8 more]) kyB hgc gyB rfl (by simp) (by omega) fun yD Hc2 kyD gyD hgc2 mv => ?_
        clear mv
        replace hgc := hgc2
        clear hgc2
        generalize Hc2 = Hc at *
        have kzc := hgc _ _ kz8
        have hnb := fun k => Rw.news (hbG.sub hgc) (k := k)
        have hxD : Rw Hc (.sl yD 0 (0 + bs.length + 1) 1 false) ((bs ++ [more]).map v8) (bs ++ [more]).length 1 := by
          rw [Nat.zero_add, List.length_append, show ([more] : List Int).length = 1 from rfl]
          exact Rw.sl (by simp) (by rw [List.map_append]; exact kyD)
        generalize AV.sl yD 0 (0 + bs.length + 1) 1 false = xD at *
        have cxD := Rw.cells hxD
        simp [kzc, l6, e0, ob, cb, hnb, cxD]
        refine c15 (o := o) (b := bs ++ [more]) (hoG.sub hgc) hxD bo hd2u (by omega) hd2l fun yE Hc2 hyE => ?_
        rw [hd2] at hyE ⊢
        simp only at hyE ⊢
        have oyE := hyE.one
        have byE : (∀ x ∈ bfc zB.w zB.h yE, x.one = true) = True := eq_true (by simp [bfc, oyE])
        replace hgc := hgc.trans hyE.sub
        generalize Hc2 = Hc at *
        have kzc := hgc _ _ kz8
        have hnb := fun k => Rw.news (hbG.sub hgc) (k := k)
        simp [kzc, l6, e0, ob, cb, hnb]
        refine newK_of fun yF hyF => ?_
        have gyF : G yF = none := hgc.none_of hyF
        have sc : Sub Hc (upd Hc yF (.cells [vi 0, vi 0, vnil])) := (Sub.refl Hc).upd hyF
        have kyF : upd Hc yF (.cells [vi 0, vi 0, vnil]) yF = some (.cells [vi 0, vi 0, vnil]) := by simp [upd_apply]
        replace hgc := hgc.trans sc
        clear sc
        generalize upd Hc yF (.cells [vi 0, vi 0, vnil]) = Hc at *
        have kzc := hgc _ _ kz8
        have hnb := fun k => Rw.news (hbG.sub hgc) (k := k)
        simp [kzc, l6, e0, ob, cb, hnb, kyF, byE, bl, t3]
        exact ⟨by simp, by simp, by simp, by simp, by simp, by simp, fun x hx => (Option.some.inj hx) ▸ (by simp), fun x hx => by simp at hx, hgc.upd gyF⟩
      · simp [kzc, l6, e0, ob, cb, hnb]
        refine newK_of fun yF hyF => ?_
        have hgc : Sub G (upd G yF (.cells [vi 0, vi 0, vnil])) := (Sub.refl G).upd hyF
        have gyF : G yF = none := hyF
        have kyF : upd G yF (.cells [vi 0, vi 0, vnil]) yF = some (.cells [vi 0, vi 0, vnil]) := by simp [upd_apply]
        generalize upd G yF (.cells [vi 0, vi 0, vnil]) = Hc at *
        have kzc := hgc _ _ kz8
        have hnb := fun k => Rw.news (hbG.sub hgc) (k := k)
        simp [kzc, l6, e0, ob, cb, hnb]
        refine bothK_of ?_ ?_
        · simp [kzc, l6, e0, ob, cb, hnb]
          refine newK_of fun yA hyA => ?_
          have gyA : G yA = none := hgc.none_of hyA
          have sc : Sub Hc (upd Hc yA (.cells ([] : List AV))) := (Sub.refl Hc).upd hyA
          have kyA : upd Hc yA (.cells ([] : List AV)) yA = some (.cells ([] : List AV)) := by simp [upd_apply]
          have nyFyA : ¬ yF = yA := ne_of_free kyF hyA
          have nyAyF : ¬ yA = yF := fun h => nyFyA h.symm
          replace kyF := sc _ _ kyF
          replace hgc := hgc.trans sc
          clear sc
          generalize upd Hc yA (.cells ([] : List AV)) = Hc at *
          have kzc := hgc _ _ kz8
          have hnb := fun k => Rw.news (hbG.sub hgc) (k := k)
          generalize hxA : AV.sl yA 0 0 1 true = xA
          simp [kzc, l6, e0, ob, cb, hnb]
          refine bothK_of ?_ ?_
          · simp [kzc, l6, e0, ob, cb, hnb]
            rw [← hxA]
            refine appB kyA hgc gyA hb1 (by simp) (by omega) fun yB Hc2 kyB gyB hgc2 mv => ?_
            have nyByF : ¬ yB = yF := (mv _ _ kyF (fun h => nyAyF h.symm)).2
            have nyFyB : ¬ yF = yB := fun h => nyByF h.symm
            replace kyF := (mv _ _ kyF (fun h => nyAyF h.symm)).1
            rw [List.nil_append] at kyB
            clear mv
            replace hgc := hgc2
            clear hgc2
            generalize hxB : AV.sl yB 0 (0 + bs.length) 1 false = xB
            generalize Hc2 = Hc at *
            have kzc := hgc _ _ kz8
            have hnb := fun k => Rw.news (hbG.sub hgc) (k := k)
            simp [kzc, l6, e0, ob, cb, hnb]
            refine newK_of fun yC hyC => ?_
            have gyC : G yC = none := hgc.none_of hyC
            have sc : Sub Hc (upd Hc yC (.cells [v8 more])) := (Sub.refl Hc).upd hyC
            have kyC : upd Hc yC (.cells [v8 more]) yC = some (.cells [v8 more]) := by simp [upd_apply]
            have nyByC : ¬ yB = yC := ne_of_free kyB hyC
            have nyCyB : ¬ yC = yB := fun h => nyByC h.symm
            replace kyB := sc _ _ kyB
            have nyFyC : ¬ yF = yC := ne_of_free kyF hyC
            have nyCyF : ¬ yC = yF := fun h => nyFyC h.symm
            replace kyF := sc _ _ kyF
            replace hgc := hgc.trans sc
            clear sc
            generalize upd Hc yC (.cells [v8 more]) = Hc at *
            generalize hxC : AV.sl yC 0 1 1 true = xC
            have kzc := hgc _ _ kz8
            have hnb := fun k => Rw.news (hbG.sub hgc) (k := k)
            have hnC : ∀ k : Nat → List AV → Prop, @NEWS Hc xC 1 ⟨k⟩ = k 1 [v8 more] := by intro k; rw [← hxC]; simp [kyC]
            simp [kzc, l6, e0, ob, cb, hnb, hnC]
            rw [← hxB]
            refine appB (ns := [v8 more]) kyB hgc gyB rfl (by simp) (by omega) fun yD Hc2 kyD gyD hgc2 mv => ?_
            have nyDyF : ¬ yD = yF := (mv _ _ kyF (fun h => nyByF h.symm)).2
            have nyFyD : ¬ yF = yD := fun h => nyDyF h.symm
            replace kyF := (mv _ _ kyF (fun h => nyByF h.symm)).1
            clear mv
            replace hgc := hgc2
            clear hgc2
            generalize Hc2 = Hc at *
            have kzc := hgc _ _ kz8
            have hnb := fun k => Rw.news (hbG.sub hgc) (k := k)
            have hxD : Rw Hc (.sl yD 0 (0 + bs.length + 1) 1 false) ((bs ++ [more]).map v8) (bs ++ [more]).length 1 := by
              rw [Nat.zero_add, List.length_append, show ([more] : List Int).length = 1 from rfl]
              exact Rw.sl (by simp) (by rw [List.map_append]; exact kyD)
            generalize AV.sl yD 0 (0 + bs.length + 1) 1 false = xD at *
            have cxD := Rw.cells hxD
            simp [kzc, l6, e0, ob, cb, hnb, cxD]
            refine c15 (o := o) (b := bs ++ [more]) (hoG.sub hgc) hxD bo hd2u (by omega) hd2l fun yE Hc2 hyE => ?_
            rw [hd2] at hyE ⊢
            simp only at hyE ⊢
            have oyE := hyE.one
            have byE : (∀ x ∈ bfc zB.w zB.h yE, x.one = true) = True := eq_true (by simp [bfc, oyE])
            replace kyF := hyE.sub _ _ kyF
            replace hgc := hgc.trans hyE.sub
            generalize Hc2 = Hc at *
            have kzc := hgc _ _ kz8
            have hnb := fun k => Rw.news (hbG.sub hgc) (k := k)
            simp [kzc, l6, e0, ob, cb, hnb, kyF, byE, bl, t3]
            exact ⟨by simp, by simp, by simp, by simp, by simp, by simp, fun x hx => (Option.some.inj hx) ▸ (by simp), fun x hx => by simp at hx, hgc.upd gyF⟩
          · simp [kzc, l6, e0, ob, cb, hnb]
            refine newK_of fun yC hyC => ?_
            have gyC : G yC = none := hgc.none_of hyC
            have sc : Sub Hc (upd Hc yC (.cells [v8 more])) := (Sub.refl Hc).upd hyC
            have kyC : upd Hc yC (.cells [v8 more]) yC = some (.cells [v8 more]) := by simp [upd_apply]
            have nyAyC : ¬ yA = yC := ne_of_free kyA hyC
            have nyCyA : ¬ yC = yA := fun h => nyAyC h.symm
            replace kyA := sc _ _ kyA
            have nyFyC : ¬ yF = yC := ne_of_free kyF hyC
            have nyCyF : ¬ yC = yF := fun h => nyFyC h.symm
            replace kyF := sc _ _ kyF
            replace hgc := hgc.trans sc
            clear sc
            generalize upd Hc yC (.cells [v8 more]) = Hc at *
            generalize hxC : AV.sl yC 0 1 1 true = xC
            have kzc := hgc _ _ kz8
            have hnb := fun k => Rw.news (hbG.sub hgc) (k := k)
            have hnC : ∀ k : Nat → List AV → Prop, @NEWS Hc xC 1 ⟨k⟩ = k 1 [v8 more] := by intro k; rw [← hxC]; simp [kyC]
            simp [kzc, l6, e0, ob, cb, hnb, hnC]
            rw [← hxA]
            refine appB kyA hgc gyA hb1 (by simp) (by omega) fun yB Hc2 kyB gyB hgc2 mv => ?_
            have nyByC : ¬ yB = yC := (mv _ _ kyC (fun h => nyAyC h.symm)).2
            have nyCyB : ¬ yC = yB := fun h => nyByC h.symm
            replace kyC := (mv _ _ kyC (fun h => nyAyC h.symm)).1
            have nyByF : ¬ yB = yF := (mv _ _ kyF (fun h => nyAyF h.symm)).2
            have nyFyB : ¬ yF = yB := fun h => nyByF h.symm
            replace kyF := (mv _ _ kyF (fun h => nyAyF h.symm)).1
            rw [List.nil_append] at kyB
            clear mv
            replace hgc := hgc2
            clear hgc2
            generalize hxB : AV.sl yB 0 (0 + bs.length) 1 false = xB
            generalize Hc2 = Hc at *
            have kzc := hgc _ _ kz8
            have hnb := fun k => Rw.news (hbG.sub hgc) (k := k)
            have hnC : ∀ k : Nat → List AV → Prop, @NEWS Hc xC 1 ⟨k⟩ = k 1 [v8 more] := by intro k; rw [← hxC]; simp [kyC]
            simp [kzc, l6, e0, ob, cb, hnb, hnC]
            rw [← hxB]
            refine appB (ns := [v8 more]) kyB hgc gyB rfl (by simp) (by omega) fun yD Hc2 kyD gyD hgc2 mv => ?_
            have nyDyF : ¬ yD = yF := (mv _ _ kyF (fun h => nyByF h.symm)).2
            have nyFyD : ¬ yF = yD := fun h => nyDyF h.symm
            replace kyF := (mv _ _ kyF (fun h => nyByF h.symm)).1
            clear mv
            replace hgc := hgc2
            clear hgc2
            generalize Hc2 = Hc at *
            have kzc := hgc _ _ kz8
            have hnb := fun k => Rw.news (hbG.sub hgc) (k := k)
            have hxD : Rw Hc (.sl yD 0 (0 + bs.length + 1) 1 false) ((bs ++ [more]).map v8) (bs ++ [more]).length 1 := by
              rw [Nat.zero_add, List.length_append, show ([more] : List Int).length = 1 from rfl]
              exact Rw.sl (by simp) (by rw [List.map_append]; exact kyD)
            generalize AV.sl yD 0 (0 + bs.length + 1) 1 false = xD at *
            have cxD := Rw.cells hxD
            simp [kzc, l6, e0, ob, cb, hnb, cxD]
            refine c15 (o := o) (b := bs ++ [more]) (hoG.sub hgc) hxD bo hd2u (by omega) hd2l fun yE Hc2 hyE => ?_
            rw [hd2] at hyE ⊢
            simp only at hyE ⊢
            have oyE := hyE.one
            have byE : (∀ x ∈ bfc zB.w zB.h yE, x.one = true) = True := eq_true (by simp [bfc, oyE])
            replace kyF := hyE.sub _ _ kyF
            replace hgc := hgc.trans hyE.sub
            generalize Hc2 = Hc at *
            have kzc := hgc _ _ kz8
            have hnb := fun k => Rw.news (hbG.sub hgc) (k := k)
            simp [kzc, l6, e0, ob, cb, hnb, kyF, byE, bl, t3]
            exact ⟨by simp, by simp, by simp, by simp, by simp, by simp, fun x hx => (Option.some.inj hx) ▸ (by simp), fun x hx => by simp at hx, hgc.upd gyF⟩
        · simp [kzc, l6, e0, ob, cb, hnb]
          refine newK_of fun yC hyC => ?_
          have gyC : G yC = none := hgc.none_of hyC
          have sc : Sub Hc (upd Hc yC (.cells [v8 more])) := (Sub.refl Hc).upd hyC
          have kyC : upd Hc yC (.cells [v8 more]) yC = some (.cells [v8 more]) := by simp [upd_apply]
          have nyFyC : ¬ yF = yC := ne_of_free kyF hyC
          have nyCyF : ¬ yC = yF := fun h => nyFyC h.symm
          replace kyF := sc _ _ kyF
          replace hgc := hgc.trans sc
          clear sc
          generalize upd Hc yC (.cells [v8 more]) = Hc at *
          generalize hxC : AV.sl yC 0 1 1 true = xC
          have kzc := hgc _ _ kz8
          have hnb := fun k => Rw.news (hbG.sub hgc) (k := k)
          have hnC : ∀ k : Nat → List AV → Prop, @NEWS Hc xC 1 ⟨k⟩ = k 1 [v8 more] := by intro k; rw [← hxC]; simp [kyC]
          simp [kzc, l6, e0, ob, cb, hnb, hnC]
          refine newK_of fun yA hyA => ?_
          have gyA : G yA = none := hgc.none_of hyA
          have sc : Sub Hc (upd Hc yA (.cells ([] : List AV))) := (Sub.refl Hc).upd hyA
          have kyA : upd Hc yA (.cells ([] : List AV)) yA = some (.cells ([] : List AV)) := by simp [upd_apply]
          have nyCyA : ¬ yC = yA := ne_of_free kyC hyA
          have nyAyC : ¬ yA = yC := fun h => nyCyA h.symm
          replace kyC := sc _ _ kyC
          have nyFyA : ¬ yF = yA := ne_of_free kyF hyA
          have nyAyF : ¬ yA = yF := fun h => nyFyA h.symm
          replace kyF := sc _ _ kyF
          replace hgc := hgc.trans sc
          clear sc
          generalize upd Hc yA (.cells ([] : List AV)) = Hc at *
          have kzc := hgc _ _ kz8
          have hnb := fun k => Rw.news (hbG.sub hgc) (k := k)
          have hnC : ∀ k : Nat → List AV → Prop, @NEWS Hc xC 1 ⟨k⟩ = k 1 [v8 more] := by intro k; rw [← hxC]; simp [kyC]
          generalize hxA : AV.sl yA 0 0 1 true = xA
          simp [kzc, l6, e0, ob, cb, hnb, hnC]
          rw [← hxA]
          refine appB kyA hgc gyA hb1 (by simp) (by omega) fun yB Hc2 kyB gyB hgc2 mv => ?_
          have nyByC : ¬ yB = yC := (mv _ _ kyC (fun h => nyAyC h.symm)).2
          have nyCyB : ¬ yC = yB := fun h => nyByC h.symm
          replace kyC := (mv _ _ kyC (fun h => nyAyC h.symm)).1
          have nyByF : ¬ yB = yF := (mv _ _ kyF (fun h => nyAyF h.symm)).2
          have nyFyB : ¬ yF = yB := fun h => nyByF h.symm
          replace kyF := (mv _ _ kyF (fun h => nyAyF h.symm)).1
          rw [List.nil_append] at kyB
          clear mv
          replace hgc := hgc2
          clear hgc2
          generalize hxB : AV.sl yB 0 (0 + bs.length) 1 false = xB
          generalize Hc2 = Hc at *
          have kzc := hgc _ _ kz8
          have hnb := fun k => Rw.news (hbG.sub hgc) (k := k)
          have hnC : ∀ k : Nat → List AV → Prop, @NEWS Hc xC 1 ⟨k⟩ = k 1 [v8 more] := by intro k; rw [← hxC]; simp [kyC]
          simp [kzc, l6, e0, ob, cb, hnb, hnC]
          rw [← hxB]
          refine appB (ns := [v8 more]) kyB hgc gyB rfl (by simp) (by omega) fun yD Hc2 kyD gyD hgc2 mv => ?_
          have nyDyF : ¬ yD = yF := (mv _ _ kyF (fun h => nyByF h.symm)).2
          have nyFyD : ¬ yF = yD := fun h => nyDyF h.symm
          replace kyF := (mv _ _ kyF (fun h => nyByF h.symm)).1
          clear mv
          replace hgc := hgc2
          clear hgc2
          generalize Hc2 = Hc at *
          have kzc := hgc _ _ kz8
          have hnb := fun k => Rw.news (hbG.sub hgc) (k := k)
          have hxD : Rw Hc (.sl yD 0 (0 + bs.length + 1) 1 false) ((bs ++ [more]).map v8) (bs ++ [more]).length 1 := by
            rw [Nat.zero_add, List.length_append, show ([more] : List Int).length = 1 from rfl]
            exact Rw.sl (by simp) (by rw [List.map_append]; exact kyD)
          generalize AV.sl yD 0 (0 + bs.length + 1) 1 false = xD at *
          have cxD := Rw.cells hxD
          simp [kzc, l6, e0, ob, cb, hnb, cxD]
          refine c15 (o := o) (b := bs ++ [more]) (hoG.sub hgc) hxD bo hd2u (by omega) hd2l fun yE Hc2 hyE => ?_
          rw [hd2] at hyE ⊢
          simp only at hyE ⊢
          have oyE := hyE.one
          have byE : (∀ x ∈ bfc zB.w zB.h yE, x.one = true) = True := eq_true (by simp [bfc, oyE])
          replace kyF := hyE.sub _ _ kyF
          replace hgc := hgc.trans hyE.sub
          generalize Hc2 = Hc at *
          have kzc := hgc _ _ kz8
          have hnb := fun k => Rw.news (hbG.sub hgc) (k := k)
          simp [kzc, l6, e0, ob, cb, hnb, kyF, byE, bl, t3]
          exact ⟨by simp, by simp, by simp, by simp, by simp, by simp, fun x hx => (Option.some.inj hx) ▸ (by simp), fun x hx => by simp at hx, hgc.upd gyF⟩
  obtain ⟨m0, m2, m3, m7, m9, m11, m13, _, hms⟩ := hm
  replace m13 := m13 _ rfl
  replace kz8 := hms _ _ kz8
  replace k98 := hms _ _ k98
  replace hoG := hoG.sub hms
  replace hbG := hbG.sub hms
  replace hrG := hrG.sub hms
  replace hHG := hHG.trans hms
  generalize hG1 : s1.H = G at *
  simp [m0, m2, m3, m7, m9, m11, m13, hG1, -wpc_regT]
  refine regT_cut (TM G z b9 b (v8 more) (vi 4) (some (vi 4)) (some (vi 3))) ?_ fun s2 hm2 => ?_
  · have kzc := kz8
    have hnb := fun k => Rw.news hbG (k := k)
    simp [kzc, l6, e0, ob, cb, hnb, m0, m2, m3, m7, m9, m11, m13, hG1]
    refine bothK_of ?_ ?_
    · simp [kzc, l6, e0, ob, cb, hnb, m0, m2, m3, m7, m9, m11, m13, hG1]
      refine newK_of fun yA hyA => ?_
      have hgc : Sub G (upd G yA (.cells ([] : List AV))) := (Sub.refl G).upd hyA
      have gyA : G yA = none := hyA
      have kyA : upd G yA (.cells ([] : List AV)) yA = some (.cells ([] : List AV)) := by simp [upd_apply]
      generalize upd G yA (.cells ([] : List AV)) = Hc at *
      have kzc := hgc _ _ kz8
      have hnb := fun k => Rw.news (hbG.sub hgc) (k := k)
      generalize hxA : AV.sl yA 0 0 1 true = xA
      simp [kzc, l6, e0, ob, cb, hnb, m0, m2, m3, m7, m9, m11, m13, hG1]
      refine bothK_of ?_ ?_
      · simp [kzc, l6, e0, ob, cb, hnb, m0, m2, m3, m7, m9, m11, m13, hG1]
        rw [← hxA]
        refine appB kyA hgc gyA hb1 (by simp) (by omega) fun yB Hc2 kyB gyB hgc2 mv => ?_
        rw [List.nil_append] at kyB
        clear mv
        replace hgc := hgc2
        clear hgc2
        generalize hxB : AV.sl yB 0 (0 + bs.length) 1 false = xB
        generalize Hc2 = Hc at *
        have kzc := hgc _ _ kz8
        have hnb := fun k => Rw.news (hbG.sub hgc) (k := k)
        simp [kzc, l6, e0, ob, cb, hnb, m0, m2, m3, m7, m9, m11, m13, hG1]
        refine newK_of fun yC hyC => ?_
        have gyC : G yC = none := hgc.none_of hyC
        have sc : Sub Hc (upd Hc yC (.cells [v8 1, v8 more, v8 0, v8 0, v8 0])) := (Sub.refl Hc).upd hyC
        have kyC : upd Hc yC (.cells [v8 1, v8 more, v8 0, v8 0, v8 0]) yC = some (.cells [v8 1, v8 more, v8 0, v8 0, v8 0]) := by simp [upd_apply]
        have nyByC : ¬ yB = yC := ne_of_free kyB hyC
        have nyCyB : ¬ yC = yB := fun h => nyByC h.symm
        replace kyB := sc _ _ kyB
        replace hgc := hgc.trans sc
        clear sc
        generalize upd Hc yC (.cells [v8 1, v8 more, v8 0, v8 0, v8 0]) = Hc at *
        generalize hxC : AV.sl yC 0 5 1 true = xC
        have kzc := hgc _ _ kz8
        have hnb := fun k => Rw.news (hbG.sub hgc) (k := k)
        have hnC : ∀ k : Nat → List AV → Prop, @NEWS Hc xC 1 ⟨k⟩ = k 5 [v8 1, v8 more, v8 0, v8 0, v8 0] := by intro k; rw [← hxC]; simp [kyC]
        simp [kzc, l6, e0, ob, cb, hnb, hnC, m0, m2, m3, m7, m9, m11, m13, hG1]
        rw [← hxB]
        refine appB (ns := [v8 1, v8 more, v8 0, v8 0, v8 0]) kyB hgc gyB rfl (by simp) (by omega) fun yD Hc2 kyD gyD hgc2 mv => ?_
        clear mv
        replace hgc := hgc2
        clear hgc2
        generalize Hc2 = Hc at *
        have kzc := hgc _ _ kz8
        have hnb := fun k => Rw.news (hbG.sub hgc) (k := k)
        have hxD : Rw Hc (.sl yD 0 (0 + bs.length + 5) 1 false) ((bs ++ [1, more, 0, 0, 0]).map v8) (bs ++ [1, more, 0, 0, 0]).length 1 := by
          rw [Nat.zero_add, List.length_append, show ([1, more, 0, 0, 0] : List Int).length = 5 from rfl]
          exact Rw.sl (by simp) (by rw [List.map_append]; exact kyD)
        generalize AV.sl yD 0 (0 + bs.length + 5) 1 false = xD at *
        have cxD := Rw.cells hxD
        simp [kzc, l6, e0, ob, cb, hnb, m0, m2, m3, m7, m9, m11, m13, hG1, cxD]
        refine c15 (o := o) (b := bs ++ [1, more, 0, 0, 0]) (hoG.sub hgc) hxD bo hd3u (by omega) hd3l fun yE Hc2 hyE => ?_
        rw [hd3] at hyE ⊢
        simp only at hyE ⊢
        have oyE := hyE.one
        have byE : (∀ x ∈ bfc zB.w zB.h yE, x.one = true) = True := eq_true (by simp [bfc, oyE])
        replace hgc := hgc.trans hyE.sub
        generalize Hc2 = Hc at *
        have kzc := hgc _ _ kz8
        have hnb := fun k => Rw.news (hbG.sub hgc) (k := k)
        simp [kzc, l6, e0, ob, cb, hnb, m0, m2, m3, m7, m9, m11, m13, hG1]
        refine newK_of fun yF hyF => ?_
        have gyF : G yF = none := hgc.none_of hyF
        have sc : Sub Hc (upd Hc yF (.cells [vi 0, vi 0, vnil])) := (Sub.refl Hc).upd hyF
        have kyF : upd Hc yF (.cells [vi 0, vi 0, vnil]) yF = some (.cells [vi 0, vi 0, vnil]) := by simp [upd_apply]
        replace hgc := hgc.trans sc
        clear sc
        generalize upd Hc yF (.cells [vi 0, vi 0, vnil]) = Hc at *
        have kzc := hgc _ _ kz8
        have hnb := fun k => Rw.news (hbG.sub hgc) (k := k)
        simp [kzc, l6, e0, ob, cb, hnb, m0, m2, m3, m7, m9, m11, m13, hG1, kyF, byE, bl, t3]
        exact ⟨by simp [m0], by simp [m2], by simp [m3], by simp [m7], by simp [m9], by simp [m11], fun x hx => (Option.some.inj hx) ▸ (by simp [m13]), fun x hx => (Option.some.inj hx) ▸ (by simp), hgc.upd gyF⟩
      · simp [kzc, l6, e0, ob, cb, hnb, m0, m2, m3, m7, m9, m11, m13, hG1]
        refine bothK_of ?_ ?_
        · simp [kzc, l6, e0, ob, cb, hnb, m0, m2, m3, m7, m9, m11, m13, hG1]
          refine newK_of fun yC hyC => ?_
          have gyC : G yC = none := hgc.none_of hyC
          have sc : Sub Hc (upd Hc yC (.cells [v8 1, v8 more, v8 0, v8 0, v8 0])) := (Sub.refl Hc).upd hyC
          have kyC : upd Hc yC (.cells [v8 1, v8 more, v8 0, v8 0, v8 0]) yC = some (.cells [v8 1, v8 more, v8 0, v8 0, v8 0]) := by simp [upd_apply]
          have nyAyC : ¬ yA = yC := ne_of_free kyA hyC
          have nyCyA : ¬ yC = yA := fun h => nyAyC h.symm
          replace kyA := sc _ _ kyA
          replace hgc := hgc.trans sc
          clear sc
          generalize upd Hc yC (.cells [v8 1, v8 more, v8 0, v8 0, v8 0]) = Hc at *
          generalize hxC : AV.sl yC 0 5 1 true = xC
          have kzc := hgc _ _ kz8
          have hnb := fun k => Rw.news (hbG.sub hgc) (k := k)
          have hnC : ∀ k : Nat → List AV → Prop, @NEWS Hc xC 1 ⟨k⟩ = k 5 [v8 1, v8 more, v8 0, v8 0, v8 0] := by intro k; rw [← hxC]; simp [kyC]
          simp [kzc, l6, e0, ob, cb, hnb, hnC, m0, m2, m3, m7, m9, m11, m13, hG1]
          rw [← hxA]
          refine appB kyA hgc gyA hb1 (by simp) (by omega) fun yB Hc2 kyB gyB hgc2 mv => ?_
          have nyByC : ¬ yB = yC := (mv _ _ kyC (fun h => nyAyC h.symm)).2
          have nyCyB : ¬ yC = yB := fun h => nyByC h.symm
          replace kyC := (mv _ _ kyC (fun h => nyAyC h.symm)).1
          rw [List.nil_append] at kyB
          clear mv
          replace hgc := hgc2
          clear hgc2
          generalize hxB : AV.sl yB 0 (0 + bs.length) 1 false = xB
          generalize Hc2 = Hc at *
          have kzc := hgc _ _ kz8
          have hnb := fun k => Rw.news (hbG.sub hgc) (k := k)
          have hnC : ∀ k : Nat → List AV → Prop, @NEWS Hc xC 1 ⟨k⟩ = k 5 [v8 1, v8 more, v8 0, v8 0, v8 0] := by intro k; rw [← hxC]; simp [kyC]
          simp [kzc, l6, e0, ob, cb, hnb, hnC, m0, m2, m3, m7, m9, m11, m13, hG1]
          rw [← hxB]
          refine appB (ns := [v8 1, v8 more, v8 0, v8 0, v8 0]) kyB hgc gyB rfl (by simp) (by omega) fun yD Hc2 kyD gyD hgc2 mv => ?_
          clear mv
          replace hgc := hgc2
          clear hgc2
          generalize Hc2 = Hc at *
          have kzc := hgc _ _ kz8
          have hnb := fun k => Rw.news (hbG.sub hgc) (k := k)
          have hxD : Rw Hc (.sl yD 0 (0 + bs.length + 5) 1 false) ((bs ++ [1, more, 0, 0, 0]).map v8) (bs ++ [1, more, 0, 0, 0]).length 1 := by
            rw [Nat.zero_add, List.length_append, show ([1, more, 0, 0, 0] : List Int).length = 5 from rfl]
            exact Rw.sl (by simp) (by rw [List.map_append]; exact kyD)
          generalize AV.sl yD 0 (0 + bs.length + 5) 1 false = xD at *
          have cxD := Rw.cells hxD
          simp [kzc, l6, e0, ob, cb, hnb, m0, m2, m3, m7, m9, m11, m13, hG1, cxD]
          refine c15 (o := o) (b := bs ++ [1, more, 0, 0, 0]) (hoG.sub hgc) hxD bo hd3u (by omega) hd3l fun yE Hc2 hyE => ?_
          rw [hd3] at hyE ⊢
          simp only at hyE ⊢
          have oyE := hyE.one
          have byE : (∀ x ∈ bfc zB.w zB.h yE, x.one = true) = True := eq_true (by simp [bfc, oyE])
          replace hgc := hgc.trans hyE.sub
          generalize Hc2 = Hc at *
          have kzc := hgc _ _ kz8
          have hnb := fun k => Rw.news (hbG.sub hgc) (k := k)
          simp [kzc, l6, e0, ob, cb, hnb, m0, m2, m3, m7, m9, m11, m13, hG1]
          refine newK_of fun yF hyF => ?_
          have gyF : G yF = none := hgc.none_of hyF
          have sc : Sub Hc (upd Hc yF (.cells [vi 0, vi 0, vnil])) := (Sub.refl Hc).upd hyF
          have kyF : upd Hc yF (.cells [vi 0, vi 0, vnil]) yF = some (.cells [vi 0, vi 0, vnil]) := by simp [upd_apply]
          replace hgc := hgc.trans sc
          clear sc
          generalize upd Hc yF (.cells [vi 0, vi 0, vnil]) = Hc at *
          have kzc := hgc _ _ kz8
          have hnb := fun k => Rw.news (hbG.sub hgc) (k := k)
          simp [kzc, l6, e0, ob, cb, hnb, m0, m2, m3, m7, m9, m11, m13, hG1, kyF, byE, bl, t3]
          exact ⟨by simp [m0], by simp [m2], by simp [m3], by simp [m7], by simp [m9], by simp [m11], fun x hx => (Option.some.inj hx) ▸ (by simp [m13]), fun x hx => (Option.some.inj hx) ▸ (by simp), hgc.upd gyF⟩
        · simp [kzc, l6, e0, ob, cb, hnb, m0, m2, m3, m7, m9, m11, m13, hG1]
          refine newK_of fun yF hyF => ?_
          have gyF : G yF = none := hgc.none_of hyF
          have sc : Sub Hc (upd Hc yF (.cells [vi 0, vi 0, vnil])) := (Sub.refl Hc).upd hyF
          have kyF : upd Hc yF (.cells [vi 0, vi 0, vnil]) yF = some (.cells [vi 0, vi 0, vnil]) := by simp [upd_apply]
          have nyAyF : ¬ yA = yF := ne_of_free kyA hyF
          have nyFyA : ¬ yF = yA := fun h => nyAyF h.symm
          replace kyA := sc _ _ kyA
          replace hgc := hgc.trans sc
          clear sc
          generalize upd Hc yF (.cells [vi 0, vi 0, vnil]) = Hc at *
          have kzc := hgc _ _ kz8
          have hnb := fun k => Rw.news (hbG.sub hgc) (k := k)
          simp [kzc, l6, e0, ob, cb, hnb, m0, m2, m3, m7, m9, m11, m13, hG1]
          refine bothK_of ?_ ?_
          · simp [kzc, l6, e0, ob, cb, hnb, m0, m2, m3, m7, m9, m11, m13, hG1]
            rw [← hxA]
            refine appB kyA hgc gyA hb1 (by simp) (by omega) fun yB Hc2 kyB gyB hgc2 mv => ?_
            have nyByF : ¬ yB = yF := (mv _ _ kyF (fun h => nyAyF h.symm)).2
            have nyFyB : ¬ yF = yB := fun h => nyByF h.symm
            replace kyF := (mv _ _ kyF (fun h => nyAyF h.symm)).1
            rw [List.nil_append] at kyB
            clear mv
            replace hgc := hgc2
            clear hgc2
            generalize hxB : AV.sl yB 0 (0 + bs.length) 1 false = xB
            generalize Hc2 = Hc at *
            have kzc := hgc _ _ kz8
            have hnb := fun k => Rw.news (hbG.sub hgc) (k := k)
            simp [kzc, l6, e0, ob, cb, hnb, m0, m2, m3, m7, m9, m11, m13, hG1]
            refine newK_of fun yC hyC => ?_
            have gyC : G yC = none := hgc.none_of hyC
            have sc : Sub Hc (upd Hc yC (.cells [v8 1, v8 more, v8 0, v8 0, v8 0])) := (Sub.refl Hc).upd hyC
            have kyC : upd Hc yC (.cells [v8 1, v8 more, v8 0, v8 0, v8 0]) yC = some (.cells [v8 1, v8 more, v8 0, v8 0, v8 0]) := by simp [upd_apply]
            have nyByC : ¬ yB = yC := ne_of_free kyB hyC
            have nyCyB : ¬ yC = yB := fun h => nyByC h.symm
            replace kyB := sc _ _ kyB
            have nyFyC : ¬ yF = yC := ne_of_free kyF hyC
            have nyCyF : ¬ yC = yF := fun h => nyFyC h.symm
            replace kyF := sc _ _ kyF
            replace hgc := hgc.trans sc
            clear sc
            generalize upd Hc yC (.cells [v8 1, v8 more, v8 0, v8 0, v8 0]) = Hc at *
            generalize hxC : AV.sl yC 0 5 1 true = xC
            have kzc := hgc _ _ kz8
            have hnb := fun k => Rw.news (hbG.sub hgc) (k := k)
            have hnC : ∀ k : Nat → List AV → Prop, @NEWS Hc xC 1 ⟨k⟩ = k 5 [v8 1, v8 more, v8 0, v8 0, v8 0] := by intro k; rw [← hxC]; simp [kyC]
            simp [kzc, l6, e0, ob, cb, hnb, hnC, m0, m2, m3, m7, m9, m11, m13, hG1]
            rw [← hxB]
            refine appB (ns := [v8 1, v8 more, v8 0, v8 0, v8 0]) kyB hgc gyB rfl (by simp) (by omega) fun yD Hc2 kyD gyD hgc2 mv => ?_
            have nyDyF : ¬ yD = yF := (mv _ _ kyF (fun h => nyByF h.symm)).2
            have nyFyD : ¬ yF = yD := fun h => nyDyF h.symm
            replace kyF := (mv _ _ kyF (fun h => nyByF h.symm)).1
            clear mv
            replace hgc := hgc2
            clear hgc2
            generalize Hc2 = Hc at *
            have kzc := hgc _ _ kz8
            have hnb := fun k => Rw.news (hbG.sub hgc) (k := k)
            have hxD : Rw Hc (.sl yD 0 (0 + bs.length + 5) 1 false) ((bs ++ [1, more, 0, 0, 0]).map v8) (bs ++ [1, more, 0, 0, 0]).length 1 := by
              rw [Nat.zero_add, List.length_append, show ([1, more, 0, 0, 0] : List Int).length = 5 from rfl]
              exact Rw.sl (by simp) (by rw [List.map_append]; exact kyD)
            generalize AV.sl yD 0 (0 + bs.length + 5) 1 false = xD at *
            have cxD := Rw.cells hxD
            simp [kzc, l6, e0, ob, cb, hnb, m0, m2, m3, m7, m9, m11, m13, hG1, cxD]
            refine c15 (o := o) (b := bs ++ [1, more, 0, 0, 0]) (hoG.sub hgc) hxD bo hd3u (by omega) hd3l fun yE Hc2 hyE => ?_
            rw [hd3] at hyE ⊢
            simp only at hyE ⊢
            have oyE := hyE.one
            have byE : (∀ x ∈ bfc zB.w zB.h yE, x.one = true) = True := eq_true (by simp [bfc, oyE])
            replace kyF := hyE.sub _ _ kyF
            replace hgc := hgc.trans hyE.sub
            generalize Hc2 = Hc at *
            have kzc := hgc _ _ kz8
            have hnb := fun k => Rw.news (hbG.sub hgc) (k := k)
            simp [kzc, l6, e0, ob, cb, hnb, m0, m2, m3, m7, m9, m11, m13, hG1, kyF, byE, bl, t3]
            exact ⟨by simp [m0], by simp [m2], by simp [m3], by simp [m7], by simp [m9], by simp [m11], fun x hx => (Option.some.inj hx) ▸ (by simp [m13]), fun x hx => (Option.some.inj hx) ▸ (by simp), hgc.upd gyF⟩
          · simp [kzc, l6, e0, ob, cb, hnb, m0, m2, m3, m7, m9, m11, m13, hG1]
            refine newK_of fun yC hyC => ?_
            have gyC : G yC = none := hgc.none_of hyC
            have sc : Sub Hc (upd Hc yC (.cells [v8 1, v8 more, v8 0, v8 0, v8 0])) := (Sub.refl Hc).upd hyC
            have kyC : upd Hc yC (.cells [v8 1, v8 more, v8 0, v8 0, v8 0]) yC = some (.cells [v8 1, v8 more, v8 0, v8 0, v8 0]) := by simp [upd_apply]
            have nyAyC : ¬ yA = yC := ne_of_free kyA hyC
            have nyCyA : ¬ yC = yA := fun h => nyAyC h.symm
            replace kyA := sc _ _ kyA
            have nyFyC : ¬ yF = yC := ne_of_free kyF hyC
            have nyCyF : ¬ yC = yF := fun h => nyFyC h.symm
            replace kyF := sc _ _ kyF
            replace hgc := hgc.trans sc
            clear sc
            generalize upd Hc yC (.cells [v8 1, v8 more, v8 0, v8 0, v8 0]) = Hc at *
            generalize hxC : AV.sl yC 0 5 1 true = xC
            have kzc := hgc _ _ kz8
            have hnb := fun k => Rw.news (hbG.sub hgc) (k := k)
            have hnC : ∀ k : Nat → List AV → Prop, @NEWS Hc xC 1 ⟨k⟩ = k 5 [v8 1, v8 more, v8 0, v8 0, v8 0] := by intro k; rw [← hxC]; simp [kyC]
            simp [kzc, l6, e0, ob, cb, hnb, hnC, m0, m2, m3, m7, m9, m11, m13, hG1]
            rw [← hxA]
            refine appB kyA hgc gyA hb1 (by simp) (by omega) fun yB Hc2 kyB gyB hgc2 mv => ?_
            have nyByC : ¬ yB = yC := (mv _ _ kyC (fun h => nyAyC h.symm)).2
            have nyCyB : ¬ yC = yB := fun h => nyByC h.symm
            replace kyC := (mv _ _ kyC (fun h => nyAyC h.symm)).1
            have nyByF : ¬ yB = yF := (mv _ _ kyF (fun h => nyAyF h.symm)).2
            have nyFyB : ¬ yF = yB := fun h => nyByF h.symm
            replace kyF := (mv _ _ kyF (fun h => nyAyF h.symm)).1
            rw [List.nil_append] at kyB
            clear mv
            replace hgc := hgc2
            clear hgc2
            generalize hxB : AV.sl yB 0 (0 + bs.length) 1 false = xB
            generalize Hc2 = Hc at *
            have kzc := hgc _ _ kz8
            have hnb := fun k => Rw.news (hbG.sub hgc) (k := k)
            have hnC : ∀ k : Nat → List AV → Prop, @NEWS Hc xC 1 ⟨k⟩ = k 5 [v8 1, v8 more, v8 0, v8 0, v8 0] := by intro k; rw [← hxC]; simp [kyC]
            simp [kzc, l6, e0, ob, cb, hnb, hnC, m0, m2, m3, m7, m9, m11, m13, hG1]
            rw [← hxB]
            refine appB (ns := [v8 1, v8 more, v8 0, v8 0, v8 0]) kyB hgc gyB rfl (by simp) (by omega) fun yD Hc2 kyD gyD hgc2 mv => ?_
            have nyDyF : ¬ yD = yF := (mv _ _ kyF (fun h => nyByF h.symm)).2
            have nyFyD : ¬ yF = yD := fun h => nyDyF h.symm
            replace kyF := (mv _ _ kyF (fun h => nyByF h.symm)).1
            clear mv
            replace hgc := hgc2
            clear hgc2
            generalize Hc2 = Hc at *
            have kzc := hgc _ _ kz8
            have hnb := fun k => Rw.news (hbG.sub hgc) (k := k)
            have hxD : Rw Hc (.sl yD 0 (0 + bs.length + 5) 1 false) ((bs ++ [1, more, 0, 0, 0]).map v8) (bs ++ [1, more, 0, 0, 0]).length 1 := by
              rw [Nat.zero_add, List.length_append, show ([1, more, 0, 0, 0] : List Int).length = 5 from rfl]
              exact Rw.sl (by simp) (by rw [List.map_append]; exact kyD)
            generalize AV.sl yD 0 (0 + bs.length + 5) 1 false = xD at *
            have cxD := Rw.cells hxD
            simp [kzc, l6, e0, ob, cb, hnb, m0, m2, m3, m7, m9, m11, m13, hG1, cxD]
            refine c15 (o := o) (b := bs ++ [1, more, 0, 0, 0]) (hoG.sub hgc) hxD bo hd3u (by omega) hd3l fun yE Hc2 hyE => ?_
            rw [hd3] at hyE ⊢
            simp only at hyE ⊢
            have oyE := hyE.one
            have byE : (∀ x ∈ bfc zB.w zB.h yE, x.one = true) = True := eq_true (by simp [bfc, oyE])
            replace kyF := hyE.sub _ _ kyF
            replace hgc := hgc.trans hyE.sub
            generalize Hc2 = Hc at *
            have kzc := hgc _ _ kz8
            have hnb := fun k => Rw.news (hbG.sub hgc) (k := k)
            simp [kzc, l6, e0, ob, cb, hnb, m0, m2, m3, m7, m9, m11, m13, hG1, kyF, byE, bl, t3]
            exact ⟨by simp [m0], by simp [m2], by simp [m3], by simp [m7], by simp [m9], by simp [m11], fun x hx => (Option.some.inj hx) ▸ (by simp [m13]), fun x hx => (Option.some.inj hx) ▸ (by simp), hgc.upd gyF⟩
    · simp [kzc, l6, e0, ob, cb, hnb, m0, m2, m3, m7, m9, m11, m13, hG1]
      refine bothK_of ?_ ?_
      · simp [kzc, l6, e0, ob, cb, hnb, m0, m2, m3, m7, m9, m11, m13, hG1]
        refine newK_of fun yC hyC => ?_
        have hgc : Sub G (upd G yC (.cells [v8 1, v8 more, v8 0, v8 0, v8 0])) := (Sub.refl G).upd hyC
        have gyC : G yC = none := hyC
        have kyC : upd G yC (.cells [v8 1, v8 more, v8 0, v8 0, v8 0]) yC = some (.cells [v8 1, v8 more, v8 0, v8 0, v8 0]) := by simp [upd_apply]
        generalize upd G yC (.cells [v8 1, v8 more, v8 0, v8 0, v8 0]) = Hc at *
        generalize hxC : AV.sl yC 0 5 1 true = xC
        have kzc := hgc _ _ kz8
        have hnb := fun k => Rw.news (hbG.sub hgc) (k := k)
        have hnC : ∀ k : Nat → List AV → Prop, @NEWS Hc xC 1 ⟨k⟩ = k 5 [v8 1, v8 more, v8 0, v8 0, v8 0] := by intro k; rw [← hxC]; simp [kyC]
        simp [kzc, l6, e0, ob, cb, hnb, hnC, m0, m2, m3, m7, m9, m11, m13, hG1]
        refine newK_of fun yA hyA => ?_
        have gyA : G yA = none := hgc.none_of hyA
        have sc : Sub Hc (upd Hc yA (.cells ([] : List AV))) := (Sub.refl Hc).upd hyA
        have kyA : upd Hc yA (.cells ([] : List AV)) yA = some (.cells ([] : List AV)) := by simp [upd_apply]
        have nyCyA : ¬ yC = yA := ne_of_free kyC hyA
        have nyAyC : ¬ yA = yC := fun h => nyCyA h.symm
        replace kyC := sc _ _ kyC
        replace hgc := hgc.trans sc
        clear sc
        generalize upd Hc yA (.cells ([] : List AV)) = Hc at *
        have kzc := hgc _ _ kz8
        have hnb := fun k => Rw.news (hbG.sub hgc) (k := k)
        have hnC : ∀ k : Nat → List AV → Prop, @NEWS Hc xC 1 ⟨k⟩ = k 5 [v8 1, v8 more, v8 0, v8 0, v8 0] := by intro k; rw [← hxC]; simp [kyC]
        generalize hxA : AV.sl yA 0 0 1 true = xA
        simp [kzc, l6, e0, ob, cb, hnb, hnC, m0, m2, m3, m7, m9, m11, m13, hG1]
        rw [← hxA]
        refine appB kyA hgc gyA hb1 (by simp) (by omega) fun yB Hc2 kyB gyB hgc2 mv => ?_
        have nyByC : ¬ yB = yC := (mv _ _ kyC (fun h => nyAyC h.symm)).2
        have nyCyB : ¬ yC = yB := fun h => nyByC h.symm
        replace kyC := (mv _ _ kyC (fun h => nyAyC h.symm)).1
        rw [List.nil_append] at kyB
        clear mv
        replace hgc := hgc2
        clear hgc2
        generalize hxB : AV.sl yB 0 (0 + bs.length) 1 false = xB
        generalize Hc2 = Hc at *
        have kzc := hgc _ _ kz8
        have hnb := fun k => Rw.news (hbG.sub hgc) (k := k)
        have hnC : ∀ k : Nat → List AV → Prop, @NEWS Hc xC 1 ⟨k⟩ = k 5 [v8 1, v8 more, v8 0, v8 0, v8 0] := by intro k; rw [← hxC]; simp [kyC]
        simp [kzc, l6, e0, ob, cb, hnb, hnC, m0, m2, m3, m7, m9, m11, m13, hG1]
        rw [← hxB]
        refine appB (ns := [v8 1, v8 more, v8 0, v8 0, v8 0]) kyB hgc gyB rfl (by simp) (by omega) fun yD Hc2 kyD gyD hgc2 mv => ?_
        clear mv
        replace hgc := hgc2
        clear hgc2
        generalize Hc2 = Hc at *
        have kzc := hgc _ _ kz8
        have hnb := fun k => Rw.news (hbG.sub hgc) (k := k)
        have hxD : Rw Hc (.sl yD 0 (0 + bs.length + 5) 1 false) ((bs ++ [1, more, 0, 0, 0]).map v8) (bs ++ [1, more, 0, 0, 0]).length 1 := by
          rw [Nat.zero_add, List.length_append, show ([1, more, 0, 0, 0] : List Int).length = 5 from rfl]
          exact Rw.sl (by simp) (by rw [List.map_append]; exact kyD)
        generalize AV.sl yD 0 (0 + bs.length + 5) 1 false = xD at *
        have cxD := Rw.cells hxD
        simp [kzc, l6, e0, ob, cb, hnb, m0, m2, m3, m7, m9, m11, m13, hG1, cxD]
        refine c15 (o := o) (b := bs ++ [1, more, 0, 0, 0]) (hoG.sub hgc) hxD bo hd3u (by omega) hd3l fun yE Hc2 hyE => ?_
        rw [hd3] at hyE ⊢
        simp only at hyE ⊢
        have oyE := hyE.one
        have byE : (∀ x ∈ bfc zB.w zB.h yE, x.one = true) = True := eq_true (by simp [bfc, oyE])
        replace hgc := hgc.trans hyE.sub
        generalize Hc2 = Hc at *
        have kzc := hgc _ _ kz8
        have hnb := fun k => Rw.news (hbG.sub hgc) (k := k)
        simp [kzc, l6, e0, ob, cb, hnb, m0, m2, m3, m7, m9, m11, m13, hG1]
        refine newK_of fun yF hyF => ?_
        have gyF : G yF = none := hgc.none_of hyF
        have sc : Sub Hc (upd Hc yF (.cells [vi 0, vi 0, vnil])) := (Sub.refl Hc).upd hyF
        have kyF : upd Hc yF (.cells [vi 0, vi 0, vnil]) yF = some (.cells [vi 0, vi 0, vnil]) := by simp [upd_apply]
        replace hgc := hgc.trans sc
        clear sc
        generalize upd Hc yF (.cells [vi 0, vi 0, vnil]) = Hc at *
        have kzc := hgc _ _ kz8
        have hnb := fun k => Rw.news (hbG.sub hgc) (k := k)
        simp [kzc, l6, e0, ob, cb, hnb, m0, m2, m3, m7, m9, m11, m13, hG1, kyF, byE, bl, t3]
        exact ⟨by simp [m0], by simp [m2], by simp [m3], by simp [m7], by simp [m9], by simp [m11], fun x hx => (Option.some.inj hx) ▸ (by simp [m13]), fun x hx => (Option.some.inj hx) ▸ (by simp), hgc.upd gyF⟩
      · simp [kzc, l6, e0, ob, cb, hnb, m0, m2, m3, m7, m9, m11, m13, hG1]
        refine newK_of fun yF hyF => ?_
        have hgc : Sub G (upd G yF (.cells [vi 0, vi 0, vnil])) := (Sub.refl G).upd hyF
        have gyF : G yF = none := hyF
        have kyF : upd G yF (.cells [vi 0, vi 0, vnil]) yF = some (.cells [vi 0, vi 0, vnil]) := by simp [upd_apply]
        generalize upd G yF (.cells [vi 0, vi 0, vnil]) = Hc at *
        have kzc := hgc _ _ kz8
        have hnb := fun k => Rw.news (hbG.sub hgc) (k := k)
        simp [kzc, l6, e0, ob, cb, hnb, m0, m2, m3, m7, m9, m11, m13, hG1]
        refine bothK_of ?_ ?_
        · simp [kzc, l6, e0, ob, cb, hnb, m0, m2, m3, m7, m9, m11, m13, hG1]
          refine newK_of fun yA hyA => ?_
          have gyA : G yA = none := hgc.none_of hyA
          have sc : Sub Hc (upd Hc yA (.cells ([] : List AV))) := (Sub.refl Hc).upd hyA
          have kyA : upd Hc yA (.cells ([] : List AV)) yA = some (.cells ([] : List AV)) := by simp [upd_apply]
          have nyFyA : ¬ yF = yA := ne_of_free kyF hyA
          have nyAyF : ¬ yA = yF := fun h => nyFyA h.symm
          replace kyF := sc _ _ kyF
          replace hgc := hgc.trans sc
          clear sc
          generalize upd Hc yA (.cells ([] : List AV)) = Hc at *
          have kzc := hgc _ _ kz8
          have hnb := fun k => Rw.news (hbG.sub hgc) (k := k)
          generalize hxA : AV.sl yA 0 0 1 true = xA
          simp [kzc, l6, e0, ob, cb, hnb, m0, m2, m3, m7, m9, m11, m13, hG1]
          refine bothK_of ?_ ?_
          · simp [kzc, l6, e0, ob, cb, hnb, m0, m2, m3, m7, m9, m11, m13, hG1]
            rw [← hxA]
            refine appB kyA hgc gyA hb1 (by simp) (by omega) fun yB Hc2 kyB gyB hgc2 mv => ?_
            have nyByF : ¬ yB = yF := (mv _ _ kyF (fun h => nyAyF h.symm)).2
            have nyFyB : ¬ yF = yB := fun h => nyByF h.symm
            replace kyF := (mv _ _ kyF (fun h => nyAyF h.symm)).1
            rw [List.nil_append] at kyB
            clear mv
            replace hgc := hgc2
            clear hgc2
            generalize hxB : AV.sl yB 0 (0 + bs.length) 1 false = xB
            generalize Hc2 = Hc at *
            have kzc := hgc _ _ kz8
            have hnb := fun k => Rw.news (hbG.sub hgc) (k := k)
            simp [kzc, l6, e0, ob, cb, hnb, m0, m2, m3, m7, m9, m11, m13, hG1]
            refine newK_of fun yC hyC => ?_
            have gyC : G yC = none := hgc.none_of hyC
            have sc : Sub Hc (upd Hc yC (.cells [v8 1, v8 more, v8 0, v8 0, v8 0])) := (Sub.refl Hc).upd hyC
            have kyC : upd Hc yC (.cells [v8 1, v8 more, v8 0, v8 0, v8 0]) yC = some (.cells [v8 1, v8 more, v8 0, v8 0, v8 0]) := by simp [upd_apply]
            have nyByC : ¬ yB = yC := ne_of_free kyB hyC
            have nyCyB : ¬ yC = yB := fun h => nyByC h.symm
            replace kyB := sc _ _ kyB
            have nyFyC : ¬ yF = yC := ne_of_free kyF hyC
            have nyCyF : ¬ yC = yF := fun h => nyFyC h.symm
            replace kyF := sc _ _ kyF
            replace hgc := hgc.trans sc
            clear sc
            generalize upd Hc yC (.cells [v8 1, v8 more, v8 0, v8 0, v8 0]) = Hc at *
            generalize hxC : AV.sl yC 0 5 1 true = xC
            have kzc := hgc _ _ kz8
            have hnb := fun k => Rw.news (hbG.sub hgc) (k := k)
            have hnC : ∀ k : Nat → List AV → Prop, @NEWS Hc xC 1 ⟨k⟩ = k 5 [v8 1, v8 more, v8 0, v8 0, v8 0] := by intro k; rw [← hxC]; simp [kyC]
            simp [kzc, l6, e0, ob, cb, hnb, hnC, m0, m2, m3, m7, m9, m11, m13, hG1]
            rw [← hxB]
            refine appB (ns := [v8 1, v8 more, v8 0, v8 0, v8 0]) kyB hgc gyB rfl (by simp) (by omega) fun yD Hc2 kyD gyD hgc2 mv => ?_
            have nyDyF : ¬ yD = yF := (mv _ _ kyF (fun h => nyByF h.symm)).2
            have nyFyD : ¬ yF = yD := fun h => nyDyF h.symm
            replace kyF := (mv _ _ kyF (fun h => nyByF h.symm)).1
            clear mv
            replace hgc := hgc2
            clear hgc2
            generalize Hc2 = Hc at *
            have kzc := hgc _ _ kz8
            have hnb := fun k => Rw.news (hbG.sub hgc) (k := k)
            have hxD : Rw Hc (.sl yD 0 (0 + bs.length + 5) 1 false) ((bs ++ [1, more, 0, 0, 0]).map v8) (bs ++ [1, more, 0, 0, 0]).length 1 := by
              rw [Nat.zero_add, List.length_append, show ([1, more, 0, 0, 0] : List Int).length = 5 from rfl]
              exact Rw.sl (by simp) (by rw [List.map_append]; exact kyD)
            generalize AV.sl yD 0 (0 + bs.length + 5) 1 false = xD at *
            have cxD := Rw.cells hxD
            simp [kzc, l6, e0, ob, cb, hnb, m0, m2, m3, m7, m9, m11, m13, hG1, cxD]
            refine c15 (o := o) (b := bs ++ [1, more, 0, 0, 0]) (hoG.sub hgc) hxD bo hd3u (by omega) hd3l fun yE Hc2 hyE => ?_
            rw [hd3] at hyE ⊢
            simp only at hyE ⊢
            have oyE := hyE.one
            have byE : (∀ x ∈ bfc zB.w zB.h yE, x.one = true) = True := eq_true (by simp [bfc, oyE])
            replace kyF := hyE.sub _ _ kyF
            replace hgc := hgc.trans hyE.sub
            generalize Hc2 = Hc at *
            have kzc := hgc _ _ kz8
            have hnb := fun k => Rw.news (hbG.sub hgc) (k := k)
            simp [kzc, l6, e0, ob, cb, hnb, m0, m2, m3, m7, m9, m11, m13, hG1, kyF, byE, bl, t3]
            exact ⟨by simp [m0], by simp [m2], by simp [m3], by simp [m7], by simp [m9], by simp [m11], fun x hx => (Option.some.inj hx) ▸ (by simp [m13]), fun x hx => (Option.some.inj hx) ▸ (by simp), hgc.upd gyF⟩
          · simp [kzc, l6, e0, ob, cb, hnb, m0, m2, m3, m7, m9, m11, m13, hG1]
            refine newK_of fun yC hyC => ?_
            have gyC : G yC = none := hgc.none_of hyC
            have sc : Sub Hc (upd Hc yC (.cells [v8 1, v8 more, v8 0, v8 0, v8 0])) := (Sub.refl Hc).upd hyC
            have kyC : upd Hc yC (.cells [v8 1, v8 more, v8 0, v8 0, v8 0]) yC = some (.cells [v8 1, v8 more, v8 0, v8 0, v8 0]) := by simp [upd_apply]
            have nyAyC : ¬ yA = yC := ne_of_free kyA hyC
            have nyCyA : ¬ yC = yA := fun h => nyAyC h.symm
            replace kyA := sc _ _ kyA
            have nyFyC : ¬ yF = yC := ne_of_free kyF hyC
            have nyCyF : ¬ yC = yF := fun h => nyFyC h.symm
            replace kyF := sc _ _ kyF
            replace hgc := hgc.trans sc
            clear sc
            generalize upd Hc yC (.cells [v8 1, v8 more, v8 0, v8 0, v8 0]) = Hc at *
            generalize hxC : AV.sl yC 0 5 1 true = xC
            have kzc := hgc _ _ kz8
            have hnb := fun k => Rw.news (hbG.sub hgc) (k := k)
            have hnC : ∀ k : Nat → List AV → Prop, @NEWS Hc xC 1 ⟨k⟩ = k 5 [v8 1, v8 more, v8 0, v8 0, v8 0] := by intro k; rw [← hxC]; simp [kyC]
            simp [kzc, l6, e0, ob, cb, hnb, hnC, m0, m2, m3, m7, m9, m11, m13, hG1]
            rw [← hxA]
            refine appB kyA hgc gyA hb1 (by simp) (by omega) fun yB Hc2 kyB gyB hgc2 mv => ?_
            have nyByC : ¬ yB = yC := (mv _ _ kyC (fun h => nyAyC h.symm)).2
            have nyCyB : ¬ yC = yB := fun h => nyByC h.symm
            replace kyC := (mv _ _ kyC (fun h => nyAyC h.symm)).1
            have nyByF : ¬ yB = yF := (mv _ _ kyF (fun h => nyAyF h.symm)).2
            have nyFyB : ¬ yF = yB := fun h => nyByF h.symm
            replace kyF := (mv _ _ kyF (fun h => nyAyF h.symm)).1
            rw [List.nil_append] at kyB
            clear mv
            replace hgc := hgc2
            clear hgc2
            generalize hxB : AV.sl yB 0 (0 + bs.length) 1 false = xB
            generalize Hc2 = Hc at *
            have kzc := hgc _ _ kz8
            have hnb := fun k => Rw.news (hbG.sub hgc) (k := k)
            have hnC : ∀ k : Nat → List AV → Prop, @NEWS Hc xC 1 ⟨k⟩ = k 5 [v8 1, v8 more, v8 0, v8 0, v8 0] := by intro k; rw [← hxC]; simp [kyC]
            simp [kzc, l6, e0, ob, cb, hnb, hnC, m0, m2, m3, m7, m9, m11, m13, hG1]
            rw [← hxB]
            refine appB (ns := [v8 1, v8 more, v8 0, v8 0, v8 0]) kyB hgc gyB rfl (by simp) (by omega) fun yD Hc2 kyD gyD hgc2 mv => ?_
            have nyDyF : ¬ yD = yF := (mv _ _ kyF (fun h => nyByF h.symm)).2
            have nyFyD : ¬ yF = yD := fun h => nyDyF h.symm
            replace kyF := (mv _ _ kyF (fun h => nyByF h.symm)).1
            clear mv
            replace hgc := hgc2
            clear hgc2
            generalize Hc2 = Hc at *
            have kzc := hgc _ _ kz8
            have hnb := fun k => Rw.news (hbG.sub hgc) (k := k)
            have hxD : Rw Hc (.sl yD 0 (0 + bs.length + 5) 1 false) ((bs ++ [1, more, 0, 0, 0]).map v8) (bs ++ [1, more, 0, 0, 0]).length 1 := by
              rw [Nat.zero_add, List.length_append, show ([1, more, 0, 0, 0] : List Int).length = 5 from rfl]
              exact Rw.sl (by simp) (by rw [List.map_append]; exact kyD)
            generalize AV.sl yD 0 (0 + bs.length + 5) 1 false = xD at *
            have cxD := Rw.cells hxD
            simp [kzc, l6, e0, ob, cb, hnb, m0, m2, m3, m7, m9, m11, m13, hG1, cxD]
            refine c15 (o := o) (b := bs ++ [1, more, 0, 0, 0]) (hoG.sub hgc) hxD bo hd3u (by omega) hd3l fun yE Hc2 hyE => ?_
            rw [hd3] at hyE ⊢
            simp only at hyE ⊢
            have oyE := hyE.one
            have byE : (∀ x ∈ bfc zB.w zB.h yE, x.one = true) = True := eq_true (by simp [bfc, oyE])
            replace kyF := hyE.sub _ _ kyF
            replace hgc := hgc.trans hyE.sub
            generalize Hc2 = Hc at *
            have kzc := hgc _ _ kz8
            have hnb := fun k => Rw.news (hbG.sub hgc) (k := k)
            simp [kzc, l6, e0, ob, cb, hnb, m0, m2, m3, m7, m9, m11, m13, hG1, kyF, byE, bl, t3]
            exact ⟨by simp [m0], by simp [m2], by simp [m3], by simp [m7], by simp [m9], by simp [m11], fun x hx => (Option.some.inj hx) ▸ (by simp [m13]), fun x hx => (Option.some.inj hx) ▸ (by simp), hgc.upd gyF⟩
        · simp [kzc, l6, e0, ob, cb, hnb, m0, m2, m3, m7, m9, m11, m13, hG1]
          refine newK_of fun yC hyC => ?_
          have gyC : G yC = none := hgc.none_of hyC
          have sc : Sub Hc (upd Hc yC (.cells [v8 1, v8 more, v8 0, v8 0, v8 0])) := (Sub.refl Hc).upd hyC
          have kyC : upd Hc yC (.cells [v8 1, v8 more, v8 0, v8 0, v8 0]) yC = some (.cells [v8 1, v8 more, v8 0, v8 0, v8 0]) := by simp [upd_apply]
          have nyFyC : ¬ yF = yC := ne_of_free kyF hyC
          have nyCyF : ¬ yC = yF := fun h => nyFyC h.symm
          replace kyF := sc _ _ kyF
          replace hgc := hgc.trans sc
          clear sc
          generalize upd Hc yC (.cells [v8 1, v8 more, v8 0, v8 0, v8 0]) = Hc at *
          generalize hxC : AV.sl yC 0 5 1 true = xC
          have kzc := hgc _ _ kz8
          have hnb := fun k => Rw.news (hbG.sub hgc) (k := k)
          have hnC : ∀ k : Nat → List AV → Prop, @NEWS Hc xC 1 ⟨k⟩ = k 5 [v8 1, v8 more, v8 0, v8 0, v8 0] := by intro k; rw [← hxC]; simp [kyC]
          simp [kzc, l6, e0, ob, cb, hnb, hnC, m0, m2, m3, m7, m9, m11, m13, hG1]
          refine newK_of fun yA hyA => ?_
          have gyA : G yA = none := hgc.none_of hyA
          have sc : Sub Hc (upd Hc yA (.cells ([] : List AV))) := (Sub.refl Hc).upd hyA
          have kyA : upd Hc yA (.cells ([] : List AV)) yA = some (.cells ([] : List AV)) := by simp [upd_apply]
          have nyCyA : ¬ yC = yA := ne_of_free kyC hyA
          have nyAyC : ¬ yA = yC := fun h => nyCyA h.symm
          replace kyC := sc _ _ kyC
          have nyFyA : ¬ yF = yA := ne_of_free kyF hyA
          have nyAyF : ¬ yA = yF := fun h => nyFyA h.symm
          replace kyF := sc _ _ kyF
          replace hgc := hgc.trans sc
          clear sc
          generalize upd Hc yA (.cells ([] : List AV)) = Hc at *
          have kzc := hgc _ _ kz8
          have hnb := fun k => Rw.news (hbG.sub hgc) (k := k)
          have hnC : ∀ k : Nat → List AV → Prop, @NEWS Hc xC 1 ⟨k⟩ = k 5 [v8 1, v8 more, v8 0, v8 0, v8 0] := by intro k; rw [← hxC]; simp [kyC]
          generalize hxA : AV.sl yA 0 0 1 true = xA
          simp [kzc, l6, e0, ob, cb, hnb, hnC, m0, m2, m3, m7, m9, m11, m13, hG1]
          rw [← hxA]
          refine appB kyA hgc gyA hb1 (by simp) (by omega) fun yB Hc2 kyB gyB hgc2 mv => ?_
          have nyByC : ¬ yB = yC := (mv _ _ kyC (fun h => nyAyC h.symm)).2
          have nyCyB : ¬ yC = yB := fun h => nyByC h.symm
          replace kyC := (mv _ _ kyC (fun h => nyAyC h.symm)).1
          have nyByF : ¬ yB = yF := (mv _ _ kyF (fun h => nyAyF h.symm)).2
          have nyFyB : ¬ yF = yB := fun h => nyByF h.symm
          replace kyF := (mv _ _ kyF (fun h => nyAyF h.symm)).1
          rw [List.nil_append] at kyB
          clear mv
          replace hgc := hgc2
          clear hgc2
          generalize hxB : AV.sl yB 0 (0 + bs.length) 1 false = xB
          generalize Hc2 = Hc at *
          have kzc := hgc _ _ kz8
          have hnb := fun k => Rw.news (hbG.sub hgc) (k := k)
          have hnC : ∀ k : Nat → List AV → Prop, @NEWS Hc xC 1 ⟨k⟩ = k 5 [v8 1, v8 more, v8 0, v8 0, v8 0] := by intro k; rw [← hxC]; simp [kyC]
          simp [kzc, l6, e0, ob, cb, hnb, hnC, m0, m2, m3, m7, m9, m11, m13, hG1]
          rw [← hxB]
          refine appB (ns := [v8 1, v8 more, v8 0, v8 0, v8 0]) kyB hgc gyB rfl (by simp) (by omega) fun yD Hc2 kyD gyD hgc2 mv => ?_
          have nyDyF : ¬ yD = yF := (mv _ _ kyF (fun h => nyByF h.symm)).2
          have nyFyD : ¬ yF = yD := fun h => nyDyF h.symm
          replace kyF := (mv _ _ kyF (fun h => nyByF h.symm)).1
          clear mv
          replace hgc := hgc2
          clear hgc2
          generalize Hc2 = Hc at *
          have kzc := hgc _ _ kz8
          have hnb := fun k => Rw.news (hbG.sub hgc) (k := k)
          have hxD : Rw Hc (.sl yD 0 (0 + bs.length + 5) 1 false) ((bs ++ [1, more, 0, 0, 0]).map v8) (bs ++ [1, more, 0, 0, 0]).length 1 := by
            rw [Nat.zero_add, List.length_append, show ([1, more, 0, 0, 0] : List Int).length = 5 from rfl]
            exact Rw.sl (by simp) (by rw [List.map_append]; exact kyD)
          generalize AV.sl yD 0 (0 + bs.length + 5) 1 false = xD at *
          have cxD := Rw.cells hxD
          simp [kzc, l6, e0, ob, cb, hnb, m0, m2, m3, m7, m9, m11, m13, hG1, cxD]
          refine c15 (o := o) (b := bs ++ [1, more, 0, 0, 0]) (hoG.sub hgc) hxD bo hd3u (by omega) hd3l fun yE Hc2 hyE => ?_
          rw [hd3] at hyE ⊢
          simp only at hyE ⊢
          have oyE := hyE.one
          have byE : (∀ x ∈ bfc zB.w zB.h yE, x.one = true) = True := eq_true (by simp [bfc, oyE])
          replace kyF := hyE.sub _ _ kyF
          replace hgc := hgc.trans hyE.sub
          generalize Hc2 = Hc at *
          have kzc := hgc _ _ kz8
          have hnb := fun k => Rw.news (hbG.sub hgc) (k := k)
          simp [kzc, l6, e0, ob, cb, hnb, m0, m2, m3, m7, m9, m11, m13, hG1, kyF, byE, bl, t3]
          exact ⟨by simp [m0], by simp [m2], by simp [m3], by simp [m7], by simp [m9], by simp [m11], fun x hx => (Option.some.inj hx) ▸ (by simp [m13]), fun x hx => (Option.some.inj hx) ▸ (by simp), hgc.upd gyF⟩
  obtain ⟨q0, q2, q3, q7, q9, q11, q13, q15, hqs⟩ := hm2
  replace q13 := q13 _ rfl
  replace q15 := q15 _ rfl
  replace kz8 := hqs _ _ kz8
  replace k98 := hqs _ _ k98
  replace hoG := hoG.sub hqs
  replace hrG := hrG.sub hqs
  replace hHG := hHG.trans hqs
  generalize hG2 : s2.H = G at *
  simp [q0, q2, q3, q7, q9, q11, q13, q15, hG2, kz8, k98, l6, e0, bl, t3]
  refine c19 hrG hoG (by omega) ?_
  simp
  refine c8 ?_
  simp
  exact ⟨H, hHG, hk⟩
end Go.Proofs.Ytkjkolacnpknoaa
end

/-! CodecTruncated: for every buffers, cut and byte the law returns true, and its arguments read as they did. No conditions: every input that the row admits. -/
section
namespace Go.Proofs.Ytkjkolacnpknoaa
open Go Go.Ab Go.RowKit Go.ChangeShapes Go.WideShapes Go.ChangeAt
set_option linter.unusedSimpArgs false
set_option linter.unusedVariables false
set_option linter.unnecessarySimpa false

attribute [local simp] condK_true condK_false condK_not wpc_skip wpc_ret wpc_exit wpc_seq wpc_reg wpc_regD testA_bool wpc_cond wpc_block thenA_normal thenA_ret thenA_exit blockA_normal blockA_ret blockA_exit blockA_other endA_normal endA_ret ev_tmp' ev_const ev_func ev_global cv_int cv_bool cv_string cv_pointer cv_slice cv_agg cv_map put_some put_none wH_s setE_apply setE_env less_eq env_cons env_nil upd_upd upd_apply del_apply startA_eq cells_ag cells_sl one_sl cells_vs one_vs cells_ep one_ep cells_fn one_fn cells_int one_int cells_bool one_bool cells_string one_string cells_pointer one_pointer cells_slice one_slice cells_map one_map cells_agg resK_one resK_nil resK_two rvK_t rvK_c rvsK_nil rvsK_cons iseq_nil iseq_cons gdA_true gdA_false gdA_undef istep_free istep_guard istepV_free istepV_guard dseq_nil dseq_pu dseq_rd dseq_ef wpc_regT dtree_nil dtree_pu dtree_rd dtree_ef dtree_br chkAll_nil chkAll_cons andK_true pickK_true pickK_false pickK_tb pickK_fb bin2K_pl eqbK_eq eqbK_ne eqpK_eq eqpK_ne eqmK_eq eqmK_ne eqzK_eq eqzK_ne eqzK_sl eqzK_vs un1K_pl convK_int fillK_some fillA_cons fillA_nil cellsK_some needK_true needK_ok seeK_ep seeK_ptr oneK_agg oneK_one nilcK_ptr nilcK_ep fadrK_ptr fadrK_ep fldK_ag iadAK_ptr iadAK_ep iadSK_sl iadSK_vs extK_0 extK_1 extK_2 extK_3 lenK_pl lenK_sl lenK_vs lensK_pl boxK_some minmax1K_int storeK_ptr callvK_fn callvK_pl newsK_nil newsK_vs newsK_sl appK_nil appK_nil0 appK_sl appK_vs bnd1K_int bndK_none bndK_some slsK_vs slsK_nil slsK_sl0 slsK_sl slstrK_pl boolK_some eqsK_ag iop_eqs iop_sls iop_slstr seesK_some seesK_ro mapsK_some MAP_some findK_some findK_none plK_pl nmapK_none nmapK_some iop_mlook iop_mlen iop_mmk iop_mupd iop_mdel iop_mrng itK_none itK_some ptr0K_ptr iop_mnxt iop_ment it1K_some entK_some iop_mov iop_pick iop_bin iop_eqb iop_eqp iop_eqm iop_eqz iop_un capK_pl capK_sl capK_vs iop_cap iop_b2s b2sK_nil b2sK_sl b2sK_vs strK_some iop_idxv idxvK_ag atK_some apzK_nil iop_apz mksK_int iop_mks clrK_sl clrK_vs clrK_nil iop_clr iop_conv iop_build iop_load iop_nilc iop_fadr iop_fld iop_iadA iop_iadS iop_ext iop_mkf iop_len iop_lens iop_minmax iop_al iop_box iop_bsl iop_store iop_call iop_callv iop_app BIN_add BIN_sub BIN_mul BIN_and BIN_or BIN_xor BIN_andNot BIN_eql BIN_neq BIN_lss BIN_leq BIN_gtr BIN_geq BIN_quo BIN_rem BIN_shl BIN_shr BIN_sadd BIN_seql BIN_sneq BIN_slss BIN_sleq BIN_sgtr BIN_sgeq UN_neg UN_xor UN_not MM_nil MM_cons partsA argsA ptrA lessL eqL min2I slotN_int slotP_int slotI_int

theorem u16_of {n : Int} (h : (Lit.int .u16 n).wf = true) : 0 ≤ n ∧ n < 65536 := by
  have h2 : 0 ≤ n ∧ n ≤ 65535 := by simpa [Lit.wf, IntKind.signed, IntKind.min, IntKind.max, IntKind.bits] using h
  omega
theorem law_CodecTruncated (xs : List AV) (hf : FitsT [(true, bfL ++ bfL), (false, [.i .u16]), (false, [.i .u8])] xs) : ACall Try.prog 6 xs (fun _ => none) (fun v _ => v = vb true) := by
  obtain ⟨a, r, rfl, h1, hf⟩ := hf.cons
  obtain ⟨b, r, rfl, h2, hf⟩ := hf.cons
  obtain ⟨c, rfl, h3⟩ := hf.one
  obtain ⟨o, n, p, q, rfl, g1, g2, g3, g4⟩ := fitPair h1
  obtain ⟨x, rfl, w⟩ := (fitOne (ls := []) h2).i_inv
  obtain ⟨y, rfl, w2⟩ := (fitOne (ls := []) h3).i_inv
  exact c6 (g1 _) (g2 _) g3 g4 (u16_of w) (u8_of w2) rfl
set_option maxRecDepth 100000

theorem codecTruncated_lifted (os : Os) (started : os.Started) (H : Type) (enc : TypeId × Value → H) :
    ReturnsInHanded {} Try.checked os 6 .any (Rows.codecTruncatedSpec.pre6 enc Try.prog Try.f6 Rows.codecTruncatedRow.domain false) (Rows.codecTruncatedSpec.post enc Try.prog Try.f6 false true false false) := by
  refine returnsInHanded_of_change_sized (C := Try.checked) own started (by kernel_rfl) Try.func6
    (ChangeSpec.witness6 (enc := enc) (C := Try.checked) false ⟨#[], #[.agg #[.int .i64 0, .int .i64 0, .slice none 0 0, .int .i64 0, .int .i64 0, .slice none 0 0], .int .u16 0, .int .u8 0], []⟩ 8 (by kernel_rfl) (by kernel_rfl) (by kernel_rfl) (by kernel_rfl)) ?_
  intro W base args ds gs before hval hW _ _ _
  refine law_contract (L := [(true, bfL ++ bfL), (false, [.i .u16]), (false, [.i .u8])]) laidOut (by kernel_rfl) rfl (fun ds hd => ?_) ⟨_, rfl, by kernel_rfl⟩ ?_ (fun xs hf => law_CodecTruncated xs hf) W base args ds gs before hval hW
  · match ds, hd with
    | [d0, d1, d2], _ => exact ⟨rfl, rfl, rfl⟩
  · exact of_decide_eq_true (by kernel_rfl)

theorem codecTruncated_holds : Rows.CodecTruncatedSaid :=
  OpenClaim.holds_of_wide 6 Try.f6 rfl rfl rfl rfl rfl rfl rfl ⟨rfl, rfl, rfl, rfl, rfl⟩ rfl rfl rfl rfl rfl (by kernel_rfl) Try.func6 (by kernel_rfl)
    (of_decide_eq_true (by kernel_rfl)) (by unfold Func.isWrapper; first | (rw [if_pos (by decide +kernel)]; kernel_rfl) | (rw [if_neg (by decide +kernel)]; exact ⟨rfl, rfl⟩))
    (fun os started H enc _ => codecTruncated_lifted os started H enc)
end Go.Proofs.Ytkjkolacnpknoaa
end
