/-
  The layout: its outputs and their areas in order. Conditions: as each lemma states them.
-/
import Derived.Test.YtidcajmbkbamcaaL1
import Derived.Test.YtidcajmbkbamcaaR1
namespace Go.Proofs.Ytidcajmbkbamcaa
open Go Go.Ab Go.RowKit
set_option linter.unusedSimpArgs false
set_option linter.unusedVariables false
set_option linter.unnecessarySimpa false

attribute [local simp] condK_true condK_false condK_not wpc_skip wpc_ret wpc_exit wpc_seq wpc_reg wpc_regD testA_bool wpc_cond wpc_block thenA_normal thenA_ret thenA_exit blockA_normal blockA_ret blockA_exit blockA_other endA_normal endA_ret ev_tmp' ev_const ev_func ev_global cv_int cv_bool cv_string cv_pointer cv_slice cv_agg put_some put_none wH_s setE_apply setE_env less_eq env_cons env_nil upd_upd upd_apply del_apply startA_eq cells_ag cells_sl one_sl cells_vs one_vs cells_ep one_ep cells_fn one_fn cells_int one_int cells_bool one_bool cells_string one_string cells_pointer one_pointer cells_slice one_slice cells_map one_map cells_agg resK_one resK_nil resK_two rvK_t rvK_c rvsK_nil rvsK_cons iseq_nil iseq_cons gdA_true gdA_false gdA_undef istep_free istep_guard istepV_free istepV_guard dseq_nil dseq_pu dseq_rd dseq_ef chkAll_nil chkAll_cons andK_true pickK_true pickK_false pickK_tb pickK_fb bin2K_pl eqbK_eq eqbK_ne eqpK_eq eqpK_ne un1K_pl convK_int fillK_some fillA_cons fillA_nil cellsK_some needK_true needK_ok seeK_ep seeK_ptr oneK_agg oneK_one nilcK_ptr nilcK_ep fadrK_ptr fadrK_ep fldK_ag iadAK_ptr iadAK_ep iadSK_sl iadSK_vs extK_0 extK_1 extK_2 extK_3 lenK_pl lenK_sl lenK_vs lensK_pl boxK_some minmax1K_int storeK_ptr callvK_fn callvK_pl newsK_nil newsK_vs newsK_sl appK_nil appK_nil0 appK_sl appK_vs bnd1K_int bndK_none bndK_some slsK_vs slsK_nil slsK_sl0 slsK_sl slstrK_pl boolK_some eqsK_ag iop_eqs iop_sls iop_slstr seesK_some seesK_ro mapsK_some MAP_some findK_some findK_none plK_pl nmapK_none nmapK_some iop_mlook iop_mlen iop_mmk iop_mupd iop_mdel iop_mrng itK_none itK_some ptr0K_ptr iop_mnxt iop_ment it1K_some entK_some iop_mov iop_pick iop_bin iop_eqb iop_eqp iop_un iop_conv iop_build iop_load iop_nilc iop_fadr iop_fld iop_iadA iop_iadS iop_ext iop_mkf iop_len iop_lens iop_minmax iop_al iop_box iop_bsl iop_store iop_call iop_callv iop_app BIN_add BIN_sub BIN_mul BIN_and BIN_or BIN_xor BIN_andNot BIN_eql BIN_neq BIN_lss BIN_leq BIN_gtr BIN_geq BIN_quo BIN_rem BIN_shl BIN_shr BIN_sadd BIN_seql BIN_sneq BIN_slss BIN_sleq BIN_sgtr BIN_sgeq UN_neg UN_xor UN_not MM_nil MM_cons partsA argsA ptrA lessL eqL min2I slotN_int slotP_int slotI_int
attribute [local simp] oc_len oc_tt oc_dd oc_one oc_ag oc_t1 oc_t2 oc_t3 oc_t4 oc_t5 oc_t6 oc_t7 oc_d1 oc_d2 oc_d3 oc_d4 oc_d5 oc_d6 oc_d7 rc_len rc_t4 rc_t1 rc_t2 rc_t3 rc_d1 rc_d2 rc_d3 rc_d4 rc_ag rc_one rc_eq

def o0 : O := ⟨⟨#[]⟩, 0, 0, 0, 0, 0, 0, 0⟩
def look (m : List O) (s : ByteArray) : O := (m.find? fun o => decide (o.nm = s)).getD o0
theorem look_mid {m1 m2 : List O} {x : O} {s : ByteArray} (h : ∀ y ∈ m1, okey y ≠ s) (hx : okey x = s) : look (m1 ++ x :: m2) s = x := by
  have h1 : m1.find? (fun o => decide (o.nm = s)) = none := by rw [List.find?_eq_none]; intro y hy; simpa using h y hy
  have h2 : decide (x.nm = s) = true := by simpa using hx
  simp [look, List.find?_append, h1, List.find?_cons, h2]
theorem look_of {m : List O} {x : O} (hn : (m.map okey).Nodup) (hx : x ∈ m) : look m x.nm = x := by
  obtain ⟨m1, m2, rfl⟩ := List.append_of_mem hx
  refine look_mid (fun y hy e => ?_) rfl
  rw [List.map_append, List.nodup_append] at hn
  exact hn.2.2 _ (List.mem_map.2 ⟨y, hy, rfl⟩) x.nm (by simp) e
theorem snames_perm (m : List O) : (snames m).Perm (m.map okey) := by
  unfold snames srtL
  refine ((List.mergeSort_perm _ _).map toB).trans ?_
  rw [List.map_map]
  have : (toB ∘ fun o : O => o.nm.toList) = okey := by funext o; exact toB_toList o.nm
  rw [this]
/-- The outputs in order. -/
def souts (m : List O) : List O := (snames m).map (look m)
theorem souts_perm {m : List O} (hn : (m.map okey).Nodup) : (souts m).Perm m := by
  unfold souts
  refine ((snames_perm m).map (look m)).trans ?_
  rw [List.map_map]
  have : m.map (look m ∘ okey) = m := by
    conv => rhs; rw [← List.map_id m]
    exact List.map_congr_left fun x hx => look_of hn hx
  rw [this]
theorem souts_len (m : List O) : (souts m).length = m.length := by simp [souts, snames_len]
theorem nm_at {l : List ByteArray} {j : Nat} (h : j < l.length) : ((l.map vs8).drop j).take 1 = [vs8 l[j]] := by
  rw [← List.map_drop, List.drop_eq_getElem_cons h]; rfl
theorem oc_flat_len (L : List O) : (flat oc L).length = L.length * 8 := flat_len (enc := oc) (fun _ => rfl) L
theorem take_snoc {E : Type} {L : List E} {i : Nat} (h : i < L.length) : L.take (i + 1) = L.take i ++ [L[i]] := List.take_succ_eq_append_getElem h
theorem c15 {H : AH} {K : AV → AH → Prop} {p b : Nat} {m : List O} {st : List Nat} {cl : Nat} (h : LS H p b m st cl) (hm : m.length ≤ 1000000)
    (hk : ∀ out H', Row H H' out (flat oc (souts m)) (souts m).length 8 → K out H') : @AC Try.prog 15 [pA p] H ⟨K⟩ := by
  refine AC_of (.forget ?_)
  refine call_c follows cf15_ok (by simp) ?_
  simp
  refine c36 h ?_
  simp
  refine c37 h hm fun on H2 hr => ?_
  have h2 := h.sub hr.sub
  have hS := hr.sub
  have hN := snames_perm m
  have hlen := snames_len m
  rw [← hlen] at hr
  have hx := hr.rin (by simp)
  have lx := fun k => hx.lenK (k := k)
  have ox := hx.one
  simp [lx]
  have hO : souts m = (snames m).map (look m) := rfl
  generalize snames m = N at *
  refine wpc_loop (fun s => ∃ (i : Nat) (out : AV) (L : List O), s.n = 27 ∧ s.t 0 = pA p ∧ s.t 3 = out ∧ s.t 10 = on ∧ s.t 11 = vi N.length ∧ s.t 12 = vi i ∧ i ≤ N.length ∧ L = (N.take i).map (look m) ∧ Row H2 s.H out (flat oc L) L.length 8) (fun s => N.length - slotN (s.t 12)) ?_ ?_
  · exact FgK.same ⟨0, vnil, [], by simp, by simp, by simp, by simp, by simp [hlen], by simp, by omega, by simp, by simp [flat_nil]; exact Row.nil _ 8⟩
  rintro s ⟨i, out, L, hn, e0, e3, e10, e11, e12, hi, hL, hrow⟩
  have w := IntWalk.i64_in ((i : Int) + 1) (by omega)
  have hsub := hrow.sub
  have h3 := h2.sub hsub
  have hone := hrow.one
  by_cases hlt : i < N.length
  · have hd := nm_at hlt
    have hsp := take_snoc hlt
    have hmem : N[i] ∈ m.map okey := hN.mem_iff.1 (List.getElem_mem hlt)
    generalize N[i] = nm at hd hsp hmem
    obtain ⟨q, f, rfl, hq⟩ := hx.sl (by omega)
    have hq3 := hsub.at hq
    have hob := h3.ob
    have hmp := h3.mp
    have hll : L.length = i := by rw [hL]; simp; omega
    have hml : (N.map vs8).length = N.length := by simp
    rcases splitS okey nm m with e | ⟨m1, x, m2, rfl, e4, e5⟩
    · obtain ⟨x, hx, rfl⟩ := List.mem_map.1 hmem
      exact absurd rfl (e x hx)
    · have ef := sfind_some (val := oval) (m2 := m2) m1 0 e4 e5
      have hlk : look (m1 ++ x :: m2) nm = x := look_mid e4 e5
      have hb1 : i + 1 ≤ N.length := by omega
      simp (disch := omega) [hn, e0, e3, e10, e11, e12, hlt, hq3, hd, hob, hmp, ef, hb1]
      refine newK_of fun u hu => ?_
      have hsu : Sub s.H (upd s.H u (.cells (oc x))) := (Sub.refl _).upd hu
      try simp (disch := omega) [hn, e0, e3, e10, e11, e12]
      refine hrow.app (by exact hsu) (by decide) rfl (by rw [oc_flat_len]) (by omega) fun g H' hg hsg => ?_
      simp (disch := omega) [hn, e0, e3, e10, e11, e12, w]
      refine FgK.of _ hsg ⟨⟨i + 1, .sl g 0 (L.length + 1) 8 false, L ++ [x], by simp [hn], by simp [e0], by simp, by simp [e10], by simp [e11], by simp, by omega, ?_, ?_⟩, by simp [e12]; omega⟩
      · rw [hL, hsp, List.map_append, List.map_cons, hlk]; rfl
      · rw [flat_snoc]
        have h9 := Row.mk (cs := flat oc (L ++ [x])) (n := L.length + 1) (sz := 8) hg
        simpa using h9
  · rw [List.take_of_length_le (by omega)] at hL
    rw [hO] at hk
    subst hL
    simp (disch := omega) [hn, e0, e3, e10, e11, e12, hlt]
    obtain ⟨H1, h3, h4⟩ := hrow.out hS
    exact ⟨H1, h3, hk _ _ h4⟩
def sareas (m : List O) : List R := (souts m).map lg
theorem rc_flat_len (L : List R) : (flat rc L).length = L.length * 4 := flat_len (enc := rc) (fun _ => rfl) L
theorem oc_at {L : List O} {i : Nat} (h : i < L.length) : ((flat oc L).drop (i * 8)).take 8 = oc L[i] := by
  rw [flat_drop (enc := oc) (fun _ => rfl) L i h]; rfl
theorem rc_at {L : List R} {i : Nat} (h : i < L.length) : ((flat rc L).drop (i * 4)).take 4 = rc L[i] := by
  rw [flat_drop (enc := rc) (fun _ => rfl) L i h]; rfl
theorem c32 {H : AH} {K : AV → AH → Prop} {p b : Nat} {m : List O} {st : List Nat} {cl : Nat} (h : LS H p b m st cl) (hm : m.length ≤ 1000000)
    (hk : ∀ out H', Row H H' out (flat rc (sareas m)) (sareas m).length 4 → K out H') : @AC Try.prog 32 [pA p] H ⟨K⟩ := by
  refine AC_of (.forget ?_)
  refine call_c follows cf32_ok (by simp) ?_
  simp
  refine c15 h hm fun on H2 hr => ?_
  have hS := hr.sub
  have hlen := souts_len m
  have hx := hr.rin (by rw [oc_flat_len])
  have lx := fun k => hx.lenK (k := k)
  simp [lx]
  have hA : sareas m = (souts m).map lg := rfl
  generalize souts m = N at *
  refine wpc_loop (fun s => ∃ (i : Nat) (out : AV) (L : List R), s.n = 20 ∧ s.t 3 = out ∧ s.t 7 = on ∧ s.t 8 = vi N.length ∧ s.t 9 = vi i ∧ i ≤ N.length ∧ L = (N.take i).map lg ∧ Row H2 s.H out (flat rc L) L.length 4) (fun s => N.length - slotN (s.t 9)) ?_ ?_
  · exact FgK.same ⟨0, vnil, [], by simp, by simp, by simp, by simp, by simp, by omega, by simp, by simp [flat_nil]; exact Row.nil _ 4⟩
  rintro s ⟨i, out, L, hn, e3, e7, e8, e9, hi, hL, hrow⟩
  have w := IntWalk.i64_in ((i : Int) + 1) (by omega)
  have hsub := hrow.sub
  by_cases hlt : i < N.length
  · have hd := oc_at hlt
    have hsp := take_snoc hlt
    have hbd : i * 8 + 8 ≤ (flat oc N).length := by rw [oc_flat_len]; omega
    generalize N[i] = x at hd hsp
    obtain ⟨q, f, rfl, hq⟩ := hx.sl (by omega)
    have hq3 := hsub.at hq
    have hll : L.length = i := by rw [hL]; simp; omega
    simp (disch := omega) [hn, e3, e7, e8, e9, hlt, hq3, hd, hbd]
    refine newK_of fun u hu => ?_
    have hsu : Sub s.H (upd s.H u (.cells (oc x))) := (Sub.refl _).upd hu
    simp (disch := omega) [hn, e3, e7, e8, e9]
    refine (c39 x).ac ?_
    simp (disch := omega) [hn, e3, e7, e8, e9]
    refine newK_of fun v hv => ?_
    have hsv := hsu.trans ((Sub.refl _).upd hv (o := .cells (rc (lg x))))
    try simp (disch := omega) [hn, e3, e7, e8, e9]
    refine hrow.app (by exact hsv) (by decide) rfl (by rw [rc_flat_len]) (by omega) fun g H' hg hsg => ?_
    simp (disch := omega) [hn, e3, e7, e8, e9, w]
    refine FgK.of _ hsg ⟨⟨i + 1, .sl g 0 (L.length + 1) 4 false, L ++ [lg x], by simp [hn], by simp, by simp [e7], by simp [e8], by simp, by omega, ?_, ?_⟩, by simp [e9]; omega⟩
    · rw [hL, hsp, List.map_append]; rfl
    · rw [flat_snoc]
      have h9 := Row.mk (cs := flat rc (L ++ [lg x])) (n := L.length + 1) (sz := 4) hg
      simpa using h9
  · rw [List.take_of_length_le (by omega)] at hL
    rw [hA] at hk
    subst hL
    simp (disch := omega) [hn, e3, e7, e8, e9, hlt]
    obtain ⟨H1, h3, h4⟩ := hrow.out hS
    exact ⟨H1, h3, hk _ _ h4⟩
end Go.Proofs.Ytidcajmbkbamcaa
