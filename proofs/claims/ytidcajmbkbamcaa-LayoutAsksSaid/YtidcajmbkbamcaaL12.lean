/-
  The outputs of a layout are valid; what overlaps a rectangle. Conditions: as each lemma states them.
-/
import Derived.Test.YtidcajmbkbamcaaL11
namespace Go.Proofs.Ytidcajmbkbamcaa
open Go Go.Ab Go.RowKit
set_option linter.unusedSimpArgs false
set_option linter.unusedVariables false
set_option linter.unnecessarySimpa false

attribute [local simp] condK_true condK_false condK_not wpc_skip wpc_ret wpc_exit wpc_seq wpc_reg wpc_regD testA_bool wpc_cond wpc_block thenA_normal thenA_ret thenA_exit blockA_normal blockA_ret blockA_exit blockA_other endA_normal endA_ret ev_tmp' ev_const ev_func ev_global cv_int cv_bool cv_string cv_pointer cv_slice cv_agg put_some put_none wH_s setE_apply setE_env less_eq env_cons env_nil upd_upd upd_apply del_apply startA_eq cells_ag cells_sl one_sl cells_vs one_vs cells_ep one_ep cells_fn one_fn cells_int one_int cells_bool one_bool cells_string one_string cells_pointer one_pointer cells_slice one_slice cells_map one_map cells_agg resK_one resK_nil resK_two rvK_t rvK_c rvsK_nil rvsK_cons iseq_nil iseq_cons gdA_true gdA_false gdA_undef istep_free istep_guard istepV_free istepV_guard dseq_nil dseq_pu dseq_rd dseq_ef chkAll_nil chkAll_cons andK_true pickK_true pickK_false pickK_tb pickK_fb bin2K_pl eqbK_eq eqbK_ne eqpK_eq eqpK_ne un1K_pl convK_int fillK_some fillA_cons fillA_nil cellsK_some needK_true needK_ok seeK_ep seeK_ptr oneK_agg oneK_one nilcK_ptr nilcK_ep fadrK_ptr fadrK_ep fldK_ag iadAK_ptr iadAK_ep iadSK_sl iadSK_vs extK_0 extK_1 extK_2 extK_3 lenK_pl lenK_sl lenK_vs lensK_pl boxK_some minmax1K_int storeK_ptr callvK_fn callvK_pl newsK_nil newsK_vs newsK_sl appK_nil appK_nil0 appK_sl appK_vs bnd1K_int bndK_none bndK_some slsK_vs slsK_nil slsK_sl0 slsK_sl slstrK_pl boolK_some eqsK_ag iop_eqs iop_sls iop_slstr seesK_some seesK_ro mapsK_some MAP_some findK_some findK_none plK_pl nmapK_none nmapK_some iop_mlook iop_mlen iop_mmk iop_mupd iop_mdel iop_mrng itK_none itK_some ptr0K_ptr iop_mnxt iop_ment it1K_some entK_some iop_mov iop_pick iop_bin iop_eqb iop_eqp iop_un iop_conv iop_build iop_load iop_nilc iop_fadr iop_fld iop_iadA iop_iadS iop_ext iop_mkf iop_len iop_lens iop_minmax iop_al iop_box iop_bsl iop_store iop_call iop_callv iop_app BIN_add BIN_sub BIN_mul BIN_and BIN_or BIN_xor BIN_andNot BIN_eql BIN_neq BIN_lss BIN_leq BIN_gtr BIN_geq BIN_quo BIN_rem BIN_shl BIN_shr BIN_sadd BIN_seql BIN_sneq BIN_slss BIN_sleq BIN_sgtr BIN_sgeq UN_neg UN_xor UN_not MM_nil MM_cons partsA argsA ptrA lessL eqL min2I slotN_int slotP_int slotI_int
attribute [local simp] oc_len oc_tt oc_dd oc_one oc_ag oc_t1 oc_t2 oc_t3 oc_t4 oc_t5 oc_t6 oc_t7 oc_d1 oc_d2 oc_d3 oc_d4 oc_d5 oc_d6 oc_d7 opq_len opq_tt opq_dd opq_one opq_ag opq_t1 opq_t2 opq_t3 opq_t4 opq_t5 opq_t6 opq_t7 opq_t8 opq_d1 opq_d2 opq_d3 opq_d4 opq_d5 opq_d6 opq_d7 opq_d8 rc_len rc_t4 rc_t1 rc_t2 rc_t3 rc_d1 rc_d2 rc_d3 rc_d4 rc_ag rc_one rc_eq min2_t min2_f

theorem chk_parts (o : O) (h : chk o = 0) : nmbad o = false ∧ okt o.tr = true ∧ 1 ≤ o.sc ∧ o.sc ≤ 4 ∧ lenok o.w o.sc = true ∧ lenok o.h o.sc = true ∧ 1000 ≤ o.rf ∧ o.rf ≤ 240000 ∧ okc o.x = true ∧ okc o.y = true ∧ rvalid (lrect o) = true := by
  unfold chk at h
  repeat' (split at h <;> first | (exact absurd h (by decide)) | skip)
  simp_all
theorem chk_dims (o : O) (h : chk o = 0) : (0 ≤ o.tr ∧ o.tr ≤ 7) ∧ (1 ≤ o.sc ∧ o.sc ≤ 4) ∧ (1 ≤ o.w ∧ o.w ≤ 256) ∧ (1 ≤ o.h ∧ o.h ≤ 256) ∧ o.w % o.sc = 0 ∧ o.h % o.sc = 0 ∧ (-16384 ≤ o.x ∧ o.x ≤ 16384) ∧ (-16384 ≤ o.y ∧ o.y ≤ 16384) := by
  obtain ⟨h0, h1, h2, h3, h4, h5, h6, h7, h8, h9, h10⟩ := chk_parts o h
  simp [okt] at h1
  simp [lenok] at h4 h5
  simp [okc] at h8 h9
  have e1 : o.w.tmod o.sc = o.w % o.sc := Int.tmod_eq_emod_of_nonneg (by omega)
  have e2 : o.h.tmod o.sc = o.h % o.sc := Int.tmod_eq_emod_of_nonneg (by omega)
  omega
theorem part_ok (a k : Int) (ha : 1 ≤ a ∧ a ≤ 256) (hk : 1 ≤ k ∧ k ≤ 4) (hm : a % k = 0) : 1 ≤ W64 (a.tdiv k) ∧ W64 (a.tdiv k) ≤ 256 := by
  have e : a.tdiv k = a / k := Int.tdiv_eq_ediv_of_nonneg (by omega)
  have : k = 1 ∨ k = 2 ∨ k = 3 ∨ k = 4 := by omega
  have hb : 1 ≤ a / k ∧ a / k ≤ 256 := by rcases this with rfl | rfl | rfl | rfl <;> omega
  rw [e, W64, IntWalk.i64_in _ (by omega)]
  exact hb
theorem lg_ne {o : O} (h : chk o = 0) : rempty (lg o) = false := by
  obtain ⟨_, hk, hw, hh, mw, mh, hx, hy⟩ := chk_dims o h
  have hv := (chk_parts o h).2.2.2.2.2.2.2.2.2.2
  have p1 := part_ok o.w o.sc hw hk mw
  have p2 := part_ok o.h o.sc hh hk mh
  rw [lg, if_pos h]
  have hs : (1 ≤ (sz o).1 ∧ (sz o).1 ≤ 256) ∧ 1 ≤ (sz o).2 ∧ (sz o).2 ≤ 256 := by
    unfold sz swp
    split
    · exact ⟨p2, p1⟩
    · exact ⟨p1, p2⟩
  have w1 : W64 (o.x + (sz o).1) = o.x + (sz o).1 := IntWalk.i64_in _ (by omega)
  have w2 : W64 (o.y + (sz o).2) = o.y + (sz o).2 := IntWalk.i64_in _ (by omega)
  simp only [rvalid, lrect, okc, w1, w2] at hv
  refine rempty_of _ ?_
  simp only [lrect, w1, w2]
  simp at hv
  omega
theorem nm_ne {o : O} (h : chk o = 0) : o.nm ≠ ⟨#[]⟩ := by
  have := (chk_parts o h).1
  intro e
  rw [nmbad, e] at this
  have h2 : (⟨#[]⟩ : ByteArray).toList = [] := by rw [ByteArray.toList_eq]
  rw [h2] at this
  simp at this
/-- Names apart, outputs valid. -/
structure Inv (m : List O) : Prop where
  nd : (m.map okey).Nodup
  ck : ∀ o ∈ m, chk o = 0
theorem has_false {m : List O} {s : ByteArray} (h : has m s = false) : ∀ x ∈ m, okey x ≠ s := by
  rw [has, List.any_eq_false] at h
  intro x hx e
  exact h x hx (by simpa using e)
theorem plugE_parts {m : List O} {o : O} (h : plugE m o = 0) : chk o = 0 ∧ has m o.nm = false ∧ ovl m o = false ∧ m.length < 8 := by
  unfold plugE at h
  split at h
  · rename_i c; exact absurd h c
  · rename_i c
    split at h
    · cases h
    · rename_i c2
      split at h
      · cases h
      · rename_i c3
        split at h
        · cases h
        · exact ⟨by simpa using c, by simpa using c2, by simpa using c3, by omega⟩
theorem Inv.plug {m : List O} {o : O} (h : Inv m) : Inv (plugM m o) := by
  unfold plugM
  split
  · rename_i c
    obtain ⟨h1, h2, h3, h4⟩ := plugE_parts c
    refine ⟨?_, fun x hx => ?_⟩
    · rw [List.map_append, List.nodup_append]
      exact ⟨h.nd, by simp, fun a ha b hb => by
        obtain ⟨y, hy, rfl⟩ := List.mem_map.1 ha
        have : b = o.nm := by simpa using hb
        rw [this]; exact has_false h2 y hy⟩
    · rcases List.mem_append.1 hx with hx | hx
      · exact h.ck x hx
      · obtain rfl := List.mem_singleton.1 hx; exact h1
  · exact h
theorem Inv.del {m : List O} (h : Inv m) (s : ByteArray) : Inv (delM m s) :=
  ⟨h.nd.sublist ((List.filter_sublist ..).map okey), fun o ho => h.ck o (List.mem_filter.1 ho).1⟩
theorem movE_parts {m : List O} {s : ByteArray} {x y : Int} (h : movE m s x y = 0) : has m s = true ∧ chk (at_ (look m s) x y) = 0 ∧ ovl m (at_ (look m s) x y) = false := by
  unfold movE at h
  split at h
  · cases h
  · rename_i c
    split at h
    · rename_i c2; exact absurd h c2
    · rename_i c2
      split at h
      · cases h
      · rename_i c3; exact ⟨by simpa using c, by simpa using c2, by simpa using c3⟩
theorem Inv.mov {m : List O} (h : Inv m) (s : ByteArray) (x y : Int) : Inv (movM m s x y) := by
  unfold movM
  split
  · rename_i c
    obtain ⟨h1, h2, h3⟩ := movE_parts c
    refine ⟨?_, fun o ho => ?_⟩
    · rw [List.map_map]
      have : (okey ∘ fun o : O => if o.nm = s then at_ o x y else o) = okey := by
        funext o; simp only [Function.comp]; split <;> rfl
      rw [this]; exact h.nd
    · obtain ⟨z, hz, rfl⟩ := List.mem_map.1 ho
      split
      · rename_i c2
        subst c2
        rw [look_of h.nd hz] at h2
        exact h2
      · exact h.ck z hz
  · exact h
theorem Inv.doM {m : List O} (h : Inv m) (x : Op) : Inv (doM m x) := by
  unfold Go.Proofs.Ytidcajmbkbamcaa.doM
  split
  · exact h.plug
  · split
    · exact h.del _
    · exact h.mov _ _ _
theorem inv_run : ∀ (l : List Op) (m : List O), Inv m → Inv (l.foldl doM m)
  | [], m, h => h
  | x :: l, m, h => inv_run l _ (h.doM x)
theorem inv_nil : Inv [] := ⟨.nil, fun _ h => by cases h⟩
theorem rcap_comm (a b : R) : rcap a b = rcap b a := by
  unfold rcap
  rw [Bool.or_comm, Int.max_comm a.x0, Int.max_comm a.y0, Int.min_comm a.x1, Int.min_comm a.y1]
theorem rcap_self {a : R} (h : rempty a = false) : rcap a a = a := by
  unfold rcap rcan
  rw [h]
  simp only [Bool.or_self, Bool.false_eq_true, if_false, Int.max_self, Int.min_self]
  cases a
  simp only at h ⊢
  rw [h]; rfl
def ovF (L : List O) (r : R) : List ByteArray := (L.filter fun o => !rempty (rcap (lg o) r)).map okey
theorem ovF_len (L : List O) (r : R) : (ovF L r).length ≤ L.length := by rw [ovF, List.length_map]; exact List.length_filter_le ..
theorem c22 {H : AH} {K : AV → AH → Prop} {p b : Nat} {m : List O} {st : List Nat} {cl : Nat} (r : R) (h : LS H p b m st cl) (hm : m.length ≤ 1000000)
    (hk : ∀ out H', Row H H' out ((ovF (souts m) r).map vs8) (ovF (souts m) r).length 1 → K out H') : @AC Try.prog 22 [pA p, .ag (rc r)] H ⟨K⟩ := by
  refine AC_of (.forget ?_)
  refine call_c follows cf22_ok (by simp) ?_
  simp
  refine newK_of fun z hz => ?_
  have hz1 : Sub H (upd H z (.cells (rc r))) := (Sub.refl H).upd hz
  have hzz : upd H z (.cells (rc r)) z = some (.cells (rc r)) := by simp [upd_apply]
  have h1 := h.sub hz1
  simp
  generalize upd H z (.cells (rc r)) = H1 at *
  refine c15 h1 hm fun on H2 hr => ?_
  have hS := hz1.trans hr.sub
  have hz2 := hr.sub.at hzz
  have hlen := souts_len m
  have hx := hr.rin (by rw [oc_flat_len])
  have lx := fun k => hx.lenK (k := k)
  simp [lx]
  generalize souts m = N at *
  refine wpc_loop (fun s => ∃ (i : Nat) (out : AV) (L : List ByteArray), s.n = 28 ∧ s.t 3 = pA z ∧ s.t 5 = out ∧ s.t 9 = on ∧ s.t 10 = vi N.length ∧ s.t 11 = vi i ∧ i ≤ N.length ∧ L = ovF (N.take i) r ∧ Row H2 s.H out (L.map vs8) L.length 1) (fun s => N.length - slotN (s.t 11)) ?_ ?_
  · exact FgK.same ⟨0, vnil, [], by simp, by simp, by simp, by simp, by simp, by simp, by omega, by simp [ovF], by simp; exact Row.nil _ 1⟩
  rintro s ⟨i, out, L, hn, e3, e5, e9, e10, e11, hi, hL, hrow⟩
  have w := IntWalk.i64_in ((i : Int) + 1) (by omega)
  have hsub := hrow.sub
  have hz3 := hsub.at hz2
  have hLl : L.length ≤ i := by
    have := ovF_len (N.take i) r
    rw [hL]; simp at this; omega
  by_cases hlt : i < N.length
  · have hd := oc_at hlt
    have hsp := take_snoc hlt
    have hbd : i * 8 + 8 ≤ (flat oc N).length := by rw [oc_flat_len]; omega
    generalize N[i] = o at hd hsp
    obtain ⟨q, f, rfl, hq⟩ := hx.sl (by omega)
    have hq3 := hsub.at hq
    simp (disch := omega) [hn, e3, e5, e9, e10, e11, hlt, hq3, hd, hbd]
    refine newK_of fun u hu => ?_
    have nuz := free_ne hu z (by simp [hz3])
    have hsu : Sub s.H (upd s.H u (.cells (oc o))) := (Sub.refl _).upd hu
    simp (disch := omega) [hn, e3, e5, e9, e10, e11, nuz, hz3]
    refine (c39 o).ac ?_
    simp (disch := omega) [hn, e3, e5, e9, e10, e11, nuz, hz3]
    refine (c45 (lg o) r).ac ?_
    try simp (disch := omega) [hn, e3, e5, e9, e10, e11]
    refine (c44 _).ac ?_
    cases c2 : rempty (rcap (lg o) r) with
    | true =>
      have hF : ovF (N.take (i + 1)) r = L := by rw [hL, hsp, ovF, List.filter_append]; simp [c2, ovF]
      simp (disch := omega) [hn, e3, e5, e9, e10, e11, w]
      exact FgK.of _ hsu ⟨⟨i + 1, out, L, by simp [hn], by simp [e3], by simp [e5], by simp [e9], by simp [e10], by simp, by omega, hF.symm, hrow⟩, by simp [e11]; omega⟩
    | false =>
      have hF : ovF (N.take (i + 1)) r = L ++ [o.nm] := by rw [hL, hsp, ovF, List.filter_append]; simp [c2, ovF]
      simp (disch := omega) [hn, e3, e5, e9, e10, e11]
      refine newK_of fun v hv => ?_
      have hsv := hsu.trans ((Sub.refl _).upd hv (o := .cells [vs8 o.nm]))
      try simp (disch := omega) [hn, e3, e5, e9, e10, e11]
      refine hrow.app (by exact hsv) (by decide) rfl (by simp) (by omega) fun g H' hg hsg => ?_
      simp (disch := omega) [hn, e3, e5, e9, e10, e11, w]
      refine FgK.of _ hsg ⟨⟨i + 1, .sl g 0 (L.length + 1) 1 false, L ++ [o.nm], by simp [hn], by simp [e3], by simp, by simp [e9], by simp [e10], by simp, by omega, hF.symm, ?_⟩, by simp [e11]; omega⟩
      have := Row.mk (cs := L.map vs8 ++ [vs8 o.nm]) (n := L.length + 1) (sz := 1) hg
      simpa using this
  · rw [List.take_of_length_le (by omega)] at hL
    subst hL
    simp (disch := omega) [hn, e3, e5, e9, e10, e11, hlt]
    obtain ⟨H1, h3, h4⟩ := hrow.out hS
    exact ⟨H1, h3, hk _ _ h4⟩
end Go.Proofs.Ytidcajmbkbamcaa
