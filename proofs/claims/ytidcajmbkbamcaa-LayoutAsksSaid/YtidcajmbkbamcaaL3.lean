/-
  The layout: pixels of rectangles, distances, what overlaps. Conditions: as each lemma states them.
-/
import Derived.Test.YtidcajmbkbamcaaL2
namespace Go.Proofs.Ytidcajmbkbamcaa
open Go Go.Ab Go.RowKit
set_option linter.unusedSimpArgs false
set_option linter.unusedVariables false
set_option linter.unnecessarySimpa false

attribute [local simp] condK_true condK_false condK_not wpc_skip wpc_ret wpc_exit wpc_seq wpc_reg wpc_regD testA_bool wpc_cond wpc_block thenA_normal thenA_ret thenA_exit blockA_normal blockA_ret blockA_exit blockA_other endA_normal endA_ret ev_tmp' ev_const ev_func ev_global cv_int cv_bool cv_string cv_pointer cv_slice cv_agg put_some put_none wH_s setE_apply setE_env less_eq env_cons env_nil upd_upd upd_apply del_apply startA_eq cells_ag cells_sl one_sl cells_vs one_vs cells_ep one_ep cells_fn one_fn cells_int one_int cells_bool one_bool cells_string one_string cells_pointer one_pointer cells_slice one_slice cells_map one_map cells_agg resK_one resK_nil resK_two rvK_t rvK_c rvsK_nil rvsK_cons iseq_nil iseq_cons gdA_true gdA_false gdA_undef istep_free istep_guard istepV_free istepV_guard dseq_nil dseq_pu dseq_rd dseq_ef chkAll_nil chkAll_cons andK_true pickK_true pickK_false pickK_tb pickK_fb bin2K_pl eqbK_eq eqbK_ne eqpK_eq eqpK_ne un1K_pl convK_int fillK_some fillA_cons fillA_nil cellsK_some needK_true needK_ok seeK_ep seeK_ptr oneK_agg oneK_one nilcK_ptr nilcK_ep fadrK_ptr fadrK_ep fldK_ag iadAK_ptr iadAK_ep iadSK_sl iadSK_vs extK_0 extK_1 extK_2 extK_3 lenK_pl lenK_sl lenK_vs lensK_pl boxK_some minmax1K_int storeK_ptr callvK_fn callvK_pl newsK_nil newsK_vs newsK_sl appK_nil appK_nil0 appK_sl appK_vs bnd1K_int bndK_none bndK_some slsK_vs slsK_nil slsK_sl0 slsK_sl slstrK_pl boolK_some eqsK_ag iop_eqs iop_sls iop_slstr seesK_some seesK_ro mapsK_some MAP_some findK_some findK_none plK_pl nmapK_none nmapK_some iop_mlook iop_mlen iop_mmk iop_mupd iop_mdel iop_mrng itK_none itK_some ptr0K_ptr iop_mnxt iop_ment it1K_some entK_some iop_mov iop_pick iop_bin iop_eqb iop_eqp iop_un iop_conv iop_build iop_load iop_nilc iop_fadr iop_fld iop_iadA iop_iadS iop_ext iop_mkf iop_len iop_lens iop_minmax iop_al iop_box iop_bsl iop_store iop_call iop_callv iop_app BIN_add BIN_sub BIN_mul BIN_and BIN_or BIN_xor BIN_andNot BIN_eql BIN_neq BIN_lss BIN_leq BIN_gtr BIN_geq BIN_quo BIN_rem BIN_shl BIN_shr BIN_sadd BIN_seql BIN_sneq BIN_slss BIN_sleq BIN_sgtr BIN_sgeq UN_neg UN_xor UN_not MM_nil MM_cons partsA argsA ptrA lessL eqL min2I slotN_int slotP_int slotI_int
attribute [local simp] oc_len oc_tt oc_dd oc_one oc_ag oc_t1 oc_t2 oc_t3 oc_t4 oc_t5 oc_t6 oc_t7 oc_d1 oc_d2 oc_d3 oc_d4 oc_d5 oc_d6 oc_d7 rc_len rc_t4 rc_t1 rc_t2 rc_t3 rc_d1 rc_d2 rc_d3 rc_d4 rc_ag rc_one rc_eq min2_t min2_f

def rcont (r : R) (x y : Int) : Bool := decide ((rcan r).x0 ≤ x) && decide (x < (rcan r).x1) && decide ((rcan r).y0 ≤ y) && decide (y < (rcan r).y1)
theorem c38 (r : R) (x y : Int) : PC Try.prog 38 [.ag (rc r), vi x, vi y] (vb (rcont r x y)) := by
  refine .tell fun H => ?_
  refine call_c follows cf38_ok (by simp) ?_
  repeat' (first | simp [*] | (with_reducible (refine newK_of fun _ h_ => ?_); have hn_ := free_ne h_; (try simp only [upd_none', ne_eq] at h_)) | (with_reducible (refine condK_of (fun h_ => ?_) (fun h_ => ?_))) | with_reducible (refine (c54 ..).ac ?_))
  all_goals ((try with_reducible refine And.intro ?_ ?_) <;> (try (repeat' (first | with_reducible exact Sub.refl _ | with_reducible refine Sub.of_upd (by simp [*]) ?_))))
  all_goals (simp_all [rcont] <;> omega)
def rclamp (r : R) (x y : Int) : Int × Int := if rempty r = true then (0, 0) else (min (max x r.x0) (r.x1 - 1), min (max y r.y0) (r.y1 - 1))
theorem rne_ok {r : R} (h : rempty r = false) : (-16384 ≤ r.x0 ∧ r.x0 < r.x1 ∧ r.x1 ≤ 16384) ∧ -16384 ≤ r.y0 ∧ r.y0 < r.y1 ∧ r.y1 ≤ 16384 := by
  simp [rempty, rvalid, okc] at h
  omega
theorem c33 (r : R) (x y : Int) : PC Try.prog 33 [.ag (rc r), vi x, vi y] (.tp [vi (rclamp r x y).1, vi (rclamp r x y).2]) := by
  refine .tell fun H => ?_
  refine call_c follows cf33_ok (by simp) ?_
  simp
  refine newK_of fun z hz => ?_
  simp
  refine (c44 r).ac ?_
  cases h : rempty r with
  | true =>
    simp [rclamp, h]
    exact (Sub.refl H).upd hz
  | false =>
    have := rne_ok h
    have w1 := IntWalk.i64_in (r.x1 - 1) (by omega)
    have w2 := IntWalk.i64_in (r.y1 - 1) (by omega)
    simp [rclamp, h, w1, w2]
    exact (Sub.refl H).upd hz
abbrev vu (n : Int) : AV := .pl (.int .u64 n)
def awy (a b : Int) : Int := if a < b then IntKind.u64.wrap (IntKind.u64.wrap b - IntKind.u64.wrap a) else IntKind.u64.wrap (IntKind.u64.wrap a - IntKind.u64.wrap b)
theorem c35 (a b : Int) : PC Try.prog 35 [vi a, vi b] (vu (awy a b)) := by
  refine .tell fun H => ?_
  refine call_c follows cf35_ok (by simp) ?_
  by_cases h : a < b
  · simp [awy, h]
    exact Sub.refl H
  · simp [awy, h]
    exact Sub.refl H
def nrr (ax ay bx by_ : Int) : Bool :=
  if ax ≤ bx ∧ ay ≤ by_ then decide (ax < bx) || decide (ay < by_) else if bx ≤ ax ∧ by_ ≤ ay then false
  else if ax < bx then decide (IntKind.u64.wrap (ay - by_) < IntKind.u64.wrap (bx - ax)) else decide (IntKind.u64.wrap (ax - bx) < IntKind.u64.wrap (by_ - ay))
theorem c34 (a b c d : Int) : PC Try.prog 34 [vu a, vu b, vu c, vu d] (vb (nrr a b c d)) := by
  refine .tell fun H => ?_
  refine call_c follows cf34_ok (by simp) ?_
  by_cases h1 : a ≤ c <;> by_cases h2 : b ≤ d <;> by_cases h3 : c ≤ a <;> by_cases h4 : d ≤ b <;> by_cases h5 : a < c <;> by_cases h6 : b < d <;> (first | (exfalso; omega) | skip)
  all_goals simp [nrr, h1, h2, h3, h4, h5, h6]
  all_goals exact Sub.refl H
/-- The first output with the pixel. -/
def atF (L : List O) (x y : Int) : ByteArray := match L.find? fun o => rcont (lg o) x y with
  | some o => o.nm
  | none => ⟨#[]⟩
theorem c16 {H : AH} {K : AV → AH → Prop} {p b : Nat} {m : List O} {st : List Nat} {cl : Nat} (x y : Int) (h : LS H p b m st cl) (hm : m.length ≤ 1000000)
    (hk : K (vs8 (atF (souts m) x y)) H) : @AC Try.prog 16 [pA p, vi x, vi y] H ⟨K⟩ := by
  refine AC_of (.forget ?_)
  refine call_c follows cf16_ok (by simp) ?_
  simp
  refine c15 h hm fun on H2 hr => ?_
  have hS := hr.sub
  have hlen := souts_len m
  have hx := hr.rin (by rw [oc_flat_len])
  have lx := fun k => hx.lenK (k := k)
  simp [lx]
  generalize souts m = N at *
  refine wpc_loop (fun s => ∃ (i : Nat), s.n = 24 ∧ s.t 1 = vi x ∧ s.t 2 = vi y ∧ s.t 10 = on ∧ s.t 11 = vi N.length ∧ s.t 12 = vi i ∧ i ≤ N.length ∧ (∀ o ∈ N.take i, rcont (lg o) x y = false) ∧ s.H = H2) (fun s => N.length - slotN (s.t 12)) ?_ ?_
  · exact FgK.same ⟨0, by simp, by simp, by simp, by simp, by simp, by simp, by omega, by simp, by simp⟩
  rintro s ⟨i, hn, e1, e2, e10, e11, e12, hi, hO, hH⟩
  have w := IntWalk.i64_in ((i : Int) + 1) (by omega)
  by_cases hlt : i < N.length
  · have hd := oc_at hlt
    have hsp := take_snoc hlt
    have hfl : N = N.take i ++ N[i] :: N.drop (i + 1) := by rw [← List.drop_eq_getElem_cons hlt, List.take_append_drop]
    have hbd : i * 8 + 8 ≤ (flat oc N).length := by rw [oc_flat_len]; omega
    generalize N[i] = o at hd hsp hfl
    obtain ⟨q, f, rfl, hq⟩ := hx.sl (by omega)
    have hfin : rcont (lg o) x y = true → atF N x y = o.nm := fun ht => by
      have h1 : (N.take i).find? (fun o => rcont (lg o) x y) = none := by rw [List.find?_eq_none]; intro z hz; simp [hO z hz]
      rw [atF, hfl, List.find?_append, h1, List.find?_cons, ht]; rfl
    clear hfl
    simp (disch := omega) [hn, hH, e1, e2, e10, e11, e12, hlt, hq, hd, hbd]
    refine newK_of fun u hu => ?_
    have hsu : Sub H2 (upd H2 u (.cells (oc o))) := (Sub.refl _).upd hu
    simp (disch := omega) [hn, hH, e1, e2, e10, e11, e12]
    refine (c39 o).ac ?_
    simp (disch := omega) [hn, hH, e1, e2, e10, e11, e12]
    refine (c38 (lg o) x y).ac ?_
    cases ht : rcont (lg o) x y with
    | true =>
      rw [hfin ht] at hk
      simp (disch := omega) [hn, hH, e1, e2, e10, e11, e12, hu]
      exact ⟨H, hS.trans hsu, hk⟩
    | false =>
      simp (disch := omega) [hn, hH, e1, e2, e10, e11, e12, w]
      refine FgK.of _ hsu ⟨⟨i + 1, by simp [hn], by simp [e1], by simp [e2], by simp [e10], by simp [e11], by simp, by omega, ?_, rfl⟩, by simp [e12]; omega⟩
      rw [hsp]
      intro z hz
      rcases List.mem_append.1 hz with hz | hz
      · exact hO z hz
      · obtain rfl := List.mem_singleton.1 hz; exact ht
  · rw [List.take_of_length_le (by omega)] at hO
    have : atF N x y = ⟨#[]⟩ := by
      have h1 : N.find? (fun o => rcont (lg o) x y) = none := by rw [List.find?_eq_none]; intro z hz; simp [hO z hz]
      rw [atF, h1]
    rw [this] at hk
    simp (disch := omega) [hn, hH, e1, e2, e10, e11, e12, hlt]
    exact ⟨H, hS, hk⟩
def ovT (o x : O) : Bool := !decide (x.nm = o.nm) && !rempty (rcap (lg o) (lg x))
def ovl (m : List O) (o : O) : Bool := m.any (ovT o)
theorem c48 {H : AH} {K : AV → AH → Prop} {p b : Nat} {m : List O} {st : List Nat} {cl : Nat} (o : O) (h : LS H p b m st cl)
    (hk : K (vb (ovl m o)) H) : @AC Try.prog 48 [pA p, .ag (oc o)] H ⟨K⟩ := by
  refine AC_of (.forget ?_)
  refine call_c follows cf48_ok (by simp) ?_
  simp
  refine newK_of fun z hz => ?_
  have hz1 : Sub H (upd H z (.cells (oc o))) := (Sub.refl H).upd hz
  have hzz : upd H z (.cells (oc o)) z = some (.cells (oc o)) := by simp [upd_apply]
  have h' := h.sub hz1
  have h1 := h'.ob
  have h2 := h'.mp
  simp [h.ob, h.mp, free_ne hz p (by simp [h.ob]), free_ne hz b (by simp [h.mp])]
  generalize upd H z (.cells (oc o)) = H2 at *
  refine newK_of fun it hit => ?_
  have hbi : b ≠ it := ne_of_free h2 hit
  have hzi : z ≠ it := ne_of_free hzz hit
  have hHit : H it = none := hz1.none_of hit
  simp
  refine wpc_loop (fun s => ∃ (seen : List Nat), s.n = 30 ∧ s.t 3 = pA z ∧ s.t 11 = pA it ∧ s.H = upd H2 it (.it b cl cl seen) ∧ ∀ x ∈ vis allO m st seen, ovT o x = false)
    (fun s => left st (slotSn s.H it)) ?_ ?_
  · refine FgK.same ⟨[], by simp, by simp, by simp, by simp, by rw [vis_nil]; simp⟩
  rintro s ⟨seen, hn, e3, e11, hH, hall0⟩
  have hHi : s.H it = some (.it b cl cl seen) := by rw [hH]; simp [upd_apply]
  have hHb : s.H b = some (.map (mS okey oval m) st cl) := by rw [hH]; simp [upd_apply, hbi, h2]
  have hms : left st (slotSn s.H it) = left st seen := by rw [slotSn_of hHi]
  simp [hn, e3, e11, hHi, hHb]
  refine nextK_of h.stp.2.2 (Nat.le_refl _) (fun hall => ?_) (fun j e s1 hj hs1 hns => ?_)
  · have e := vis_all allO m st seen h.stp.1.symm hall
    have hfa : m.filter allO = m := List.filter_eq_self.2 fun _ _ => rfl
    rw [e, hfa] at hall0
    have : ovl m o = false := by rw [ovl, List.any_eq_false]; intro x hx; simp [hall0 x hx]
    rw [this] at hk
    simp [hn]
    refine ⟨H, ?_, hk⟩
    rw [hH]; exact hz1.upd hHit
  · obtain ⟨x, hx, rfl⟩ : ∃ x, m[j]? = some x ∧ e = (.string (okey x), oval x) := by
      simp only [mS, List.getElem?_map, Option.map_eq_some_iff] at hj
      obtain ⟨x, h3, h4⟩ := hj
      exact ⟨x, h3, h4.symm⟩
    have he := entF_of (mS okey oval m) st j _ s1 h.stp.2.1 hj hs1
    have hst := vis_step allO m st seen j x s1 h.stp.2.1 hx hs1 hns
    have hlt := left_lt (List.mem_of_getElem? hs1) hns
    have htrue : ovT o x = true → ovl m o = true := fun e => by rw [ovl, List.any_eq_true]; exact ⟨x, List.mem_of_getElem? hx, e⟩
    have hfalse : ovT o x = false → ∀ y ∈ vis allO m st (s1 :: seen), ovT o y = false := fun e y hy => by
      rcases List.mem_append.1 (hst.mem_iff.1 hy) with hy | hy
      · exact hall0 y hy
      · simp [allO] at hy
        rw [hy]; exact e
    have hup : upd s.H it (.it b cl cl (s1 :: seen)) = upd H2 it (.it b cl cl (s1 :: seen)) := by rw [hH, upd_upd]
    have hZ : upd H2 it (.it b cl cl (s1 :: seen)) z = some (.cells (oc o)) := by simp [upd_apply, hzi, hzz]
    have hB : upd H2 it (.it b cl cl (s1 :: seen)) b = some (.map (mS okey oval m) st cl) := by simp [upd_apply, hbi, h2]
    have hI : upd H2 it (.it b cl cl (s1 :: seen)) it = some (.it b cl cl (s1 :: seen)) := by simp [upd_apply]
    have hSI : Sub H (upd H2 it (.it b cl cl (s1 :: seen))) := hz1.upd hHit
    rw [hup]
    generalize hH3 : upd H2 it (.it b cl cl (s1 :: seen)) = H3 at *
    simp [hn, e3, e11, hB, hI, he]
    refine newK_of fun u hu => ?_
    have nu := free_ne hu z (by simp [hZ])
    have hsu : Sub H3 (upd H3 u (.cells (oc x))) := (Sub.refl _).upd hu
    have gz := hsu.at hZ
    have gu : upd H3 u (.cells (oc x)) u = some (.cells (oc x)) := by simp [upd_apply]
    simp [hn, e3, e11, nu]
    generalize upd H3 u (.cells (oc x)) = H4 at *
    have goal2 : ovT o x = false → Sub H3 H4 := fun _ => hsu
    by_cases c1 : x.nm = o.nm
    · have hf : ovT o x = false := by simp [ovT, c1]
      simp [hn, e3, e11, hZ, gz, bytes_beq, c1]
      refine FgK.of H3 hsu ⟨⟨s1 :: seen, by simp [hn], by simp [e3], by simp [e11], hH3.symm, hfalse hf⟩, ?_⟩
      rw [slotSn_of (m := b) (since := cl) (last := cl) (seen := s1 :: seen) hI, hms]; exact hlt
    · simp [hn, e3, e11, hZ, gz, gu, bytes_beq, c1]
      refine (c39 o).ac ?_
      try simp [hn, e3, e11, gz, gu]
      refine (c39 x).ac ?_
      try simp [hn, e3, e11]
      refine (c45 (lg o) (lg x)).ac ?_
      try simp [hn, e3, e11]
      refine (c44 _).ac ?_
      cases c2 : rempty (rcap (lg o) (lg x)) with
      | true =>
        have hf : ovT o x = false := by simp [ovT, c2]
        try simp [hn, e3, e11]
        refine FgK.of H3 hsu ⟨⟨s1 :: seen, by simp [hn], by simp [e3], by simp [e11], hH3.symm, hfalse hf⟩, ?_⟩
        rw [slotSn_of (m := b) (since := cl) (last := cl) (seen := s1 :: seen) hI, hms]; exact hlt
      | false =>
        have hf : ovT o x = true := by simp [ovT, c1, c2]
        rw [htrue hf] at hk
        simp [hn, e3, e11]
        exact ⟨H, hSI.trans hsu, hk⟩
end Go.Proofs.Ytidcajmbkbamcaa
