/-
  The reference's roles: find, without, with, Role, Active, Of, New. Conditions: as each lemma states them.
-/
import Derived.Test.YtnlckmkjhpaloaaQ10
import Derived.Test.YtnlckmkjhpaloaaAbN
namespace Go.Proofs.Ytnlckmkjhpaloaa
open Go Go.Ab Go.RowKit
set_option linter.unusedSimpArgs false
set_option linter.unusedVariables false
set_option linter.unnecessarySimpa false

attribute [local simp] condK_true condK_false condK_not wpc_skip wpc_ret wpc_exit wpc_seq wpc_reg wpc_regD testA_bool wpc_cond wpc_block thenA_normal thenA_ret thenA_exit blockA_normal blockA_ret blockA_exit blockA_other endA_normal endA_ret ev_tmp' ev_const ev_func ev_global cv_int cv_bool cv_string cv_pointer cv_slice cv_agg put_some put_none wH_s setE_apply setE_env less_eq env_cons env_nil upd_upd upd_apply del_apply startA_eq cells_ag cells_sl one_sl cells_vs one_vs cells_ep one_ep cells_fn one_fn cells_int one_int cells_bool one_bool cells_string one_string cells_pointer one_pointer cells_slice one_slice cells_map one_map cells_agg resK_one resK_nil resK_two rvK_t rvK_c rvsK_nil rvsK_cons iseq_nil iseq_cons gdA_true gdA_false gdA_undef istep_free istep_guard istepV_free istepV_guard dseq_nil dseq_pu dseq_rd dseq_ef chkAll_nil chkAll_cons andK_true pickK_true pickK_false pickK_tb pickK_fb bin2K_pl eqbK_eq eqbK_ne eqpK_eq eqpK_ne un1K_pl convK_int fillK_some fillA_cons fillA_nil cellsK_some needK_true needK_ok seeK_ep seeK_ptr oneK_agg oneK_one nilcK_ptr nilcK_ep fadrK_ptr fadrK_ep fldK_ag iadAK_ptr iadAK_ep iadSK_sl iadSK_vs extK_0 extK_1 extK_2 extK_3 lenK_pl lenK_sl lenK_vs lensK_pl boxK_some minmax1K_int storeK_ptr callvK_fn callvK_pl newsK_nil newsK_vs newsK_sl appK_nil appK_nil0 appK_sl appK_vs bnd1K_int bndK_none bndK_some slsK_vs slsK_nil slsK_sl0 slsK_sl slstrK_pl boolK_some eqsK_ag iop_eqs iop_sls iop_slstr seesK_some seesK_ro mapsK_some MAP_some findK_some findK_none plK_pl nmapK_none nmapK_some iop_mlook iop_mlen iop_mmk iop_mupd iop_mdel iop_mrng itK_none itK_some ptr0K_ptr iop_mnxt iop_ment it1K_some entK_some iop_mov iop_pick iop_bin iop_eqb iop_eqp iop_un iop_conv iop_build iop_load iop_nilc iop_fadr iop_fld iop_iadA iop_iadS iop_ext iop_mkf iop_len iop_lens iop_minmax iop_al iop_box iop_bsl iop_store iop_call iop_callv iop_app BIN_add BIN_sub BIN_mul BIN_and BIN_or BIN_xor BIN_andNot BIN_eql BIN_neq BIN_lss BIN_leq BIN_gtr BIN_geq BIN_quo BIN_rem BIN_shl BIN_shr BIN_sadd BIN_seql BIN_sneq BIN_slss BIN_sleq BIN_sgtr BIN_sgeq UN_neg UN_xor UN_not MM_nil MM_cons partsA argsA ptrA lessL eqL min2I slotN_int slotP_int slotI_int

structure En where
  s : Int
  r : Int
  a : Bool
  deriving DecidableEq
def en (r : En) : List AV := [vi r.s, vi r.r, vb r.a]
theorem en_len (r : En) : (en r).length = 3 := rfl
theorem en_tt (r : En) : (en r).take 3 = en r := rfl
theorem en_dd (r : En) : (en r).drop 3 = [] := rfl
theorem en_one (r : En) : (en r).all AV.one = true := rfl
theorem en_t1 (r : En) : (en r).take 1 = [vi r.s] := rfl
theorem en_d1 (r : En) : (en r).tail = [vi r.r, vb r.a] := rfl
theorem en_t2 (r : En) : (en r).take 2 = [vi r.s, vi r.r] := rfl
theorem en_d2 (r : En) : (en r).drop 2 = [vb r.a] := rfl
theorem en_ag (c0 : Int) (c1 : Int) (c2 : Bool) : AV.ag [vi c0, vi c1, vb c2] = .ag (en ⟨c0, c1, c2⟩) := rfl
attribute [local simp] en_len en_tt en_dd en_one en_ag en_t1 en_t2 en_d1 en_d2
def rz : En := ⟨0, 0, false⟩
def rfind (L : List En) (s : Int) : En := (L.find? fun e => e.s == s).getD rz
theorem rfind_miss {L : List En} {s : Int} (h : ∀ e ∈ L, e.s ≠ s) : rfind L s = rz := by
  have : L.find? (fun e => e.s == s) = none := by rw [List.find?_eq_none]; intro e he; simpa using h e he
  simp [rfind, this]
theorem rfind_mid {L1 L2 : List En} {e : En} {s : Int} (h : ∀ e ∈ L1, e.s ≠ s) (he : e.s = s) : rfind (L1 ++ e :: L2) s = e := by
  have h1 : L1.find? (fun e => e.s == s) = none := by rw [List.find?_eq_none]; intro e he; simpa using h e he
  have h2 : (e.s == s) = true := by simpa using he
  simp [rfind, List.find?_append, h1, List.find?_cons, h2]
theorem split_at {E : Type} {L : List E} {i : Nat} (h : i < L.length) : L = L.take i ++ L[i] :: L.drop (i + 1) := by
  rw [← List.drop_eq_getElem_cons h, List.take_append_drop]
theorem take_snoc {E : Type} {L : List E} {i : Nat} (h : i < L.length) : L.take (i + 1) = L.take i ++ [L[i]] := List.take_succ_eq_append_getElem h
theorem en_at {L : List En} {i : Nat} (h : i < L.length) : ∃ rest, (flat en L).drop (i * 3) = vi L[i].s :: vi L[i].r :: vb L[i].a :: rest := ⟨_, flat_drop (enc := en) (fun _ => rfl) L i h⟩
theorem en_flat_len (L : List En) : (flat en L).length = L.length * 3 := flat_len (enc := en) (fun _ => rfl) L
theorem en_bnd {L : List En} {i : Nat} (h : i < L.length) : i * 3 + 1 ≤ (flat en L).length ∧ i * 3 + 1 + 1 ≤ (flat en L).length ∧ i * 3 + 2 + 1 ≤ (flat en L).length ∧ i * 3 + 3 ≤ (flat en L).length := by rw [en_flat_len]; omega
theorem c28 {H : AH} {K : AV → AH → Prop} {x : AV} (L : List En) (s : Int) (hx : RowIn H x (flat en L) L.length 3) (hl : L.length ≤ 1000000) (hk : K (.ag (en (rfind L s))) H) : @AC Try.prog 28 [.ag [x], vi s] H ⟨K⟩ := by
  refine AC_of (.forget ?_)
  have ox := hx.one
  refine call_c follows cf28_ok (by simp) ?_
  simp [ox]
  refine newK_of fun z hz => ?_
  have nz := free_ne hz
  simp
  refine newK_of fun y hy => ?_
  obtain ⟨n1, n2, hy'⟩ := upd_none'.1 hy
  simp
  have hS : Sub H (upd (upd H z (.cells [x])) y (.cells [vi 0, vi 0, vb false])) := ((Sub.refl H).upd hz).upd hy'
  have h2z : (upd (upd H z (.cells [x])) y (.cells [vi 0, vi 0, vb false])) z = some (.cells [x]) := by simp [upd_apply, n2]
  have h2y : (upd (upd H z (.cells [x])) y (.cells [vi 0, vi 0, vb false])) y = some (.cells [vi 0, vi 0, vb false]) := by simp [upd_apply]
  generalize upd (upd H z (.cells [x])) y (.cells [vi 0, vi 0, vb false]) = H2 at *
  have hx2 := hx.sub hS
  have lx := fun k => hx.lenK (k := k)
  have ox := hx.one
  refine wpc_loop (fun s' => ∃ i : Nat, s'.n = 27 ∧ s'.H = H2 ∧ s'.t 1 = vi s ∧ s'.t 2 = pA z ∧ s'.t 4 = pA y ∧ s'.t 5 = vi i ∧ i ≤ L.length ∧ ∀ e ∈ L.take i, e.s ≠ s) (fun s' => L.length - slotN (s'.t 5)) ?_ ?_
  · exact FgK.same ⟨0, by simp, by simp, by simp, by simp, by simp, by simp, by omega, by simp⟩
  rintro s' ⟨i, hn, hH, e1, e2, e4, e5, hi, ht⟩
  have w := IntWalk.i64_in ((i : Int) + 1) (by omega)
  by_cases hlt : i < L.length
  · obtain ⟨rest, hd⟩ := en_at hlt
    obtain ⟨m1, m2, m3, m4⟩ := en_bnd hlt
    have hsp := split_at hlt
    have hsn := take_snoc hlt
    generalize L[i] = e at hd hsp hsn
    obtain ⟨es, er, ea⟩ := e
    simp only at hd
    obtain ⟨q, f, rfl, hq⟩ := hx2.sl (by omega)
    by_cases b1 : es = s
    · subst b1
      have hr : rfind L es = ⟨es, er, ea⟩ := by rw [hsp]; exact rfind_mid ht rfl
      rw [hr] at hk
      simp (disch := omega) [hn, hH, e1, e2, e4, e5, h2z, h2y, hq, hd, m1, m2, m3, m4, hlt]
      exact ⟨H, hS.upd hy', hk⟩
    · clear hsp
      simp (disch := omega) [hn, hH, e1, e2, e4, e5, h2z, h2y, hq, hd, m1, m2, m3, m4, hlt, b1, w]
      refine FgK.same ⟨⟨i + 1, by simp [*], by simp [*], by simp [*], by simp [*], by simp [*], by simp [*], by omega, ?_⟩, by simp [*]; omega⟩
      intro e he
      rw [hsn] at he
      rcases List.mem_append.1 he with he | he
      · exact ht e he
      · obtain rfl := List.mem_singleton.1 he; exact b1
  · have hr : rfind L s = rz := by
      refine rfind_miss fun e he => ht e ?_
      rw [List.take_of_length_le (by omega)]; exact he
    rw [hr] at hk
    simp (disch := omega) [hn, hH, e1, e2, e4, e5, h2z, h2y, lx, hlt]
    exact ⟨H, hS.upd hy', by exact hk⟩
def rout (L : List En) (s : Int) : List En := L.filter fun e => e.s != s
theorem rout_len (L : List En) (s : Int) : (rout L s).length ≤ L.length := List.length_filter_le ..
theorem c34 {H : AH} {K : AV → AH → Prop} {x : AV} (L : List En) (s : Int) (hx : RowIn H x (flat en L) L.length 3) (hl : L.length ≤ 1000000)
    (hk : ∀ out H', Row H H' out (flat en (rout L s)) (rout L s).length 3 → K (.ag [out]) H') : @AC Try.prog 34 [.ag [x], vi s] H ⟨K⟩ := by
  refine AC_of (.forget ?_)
  have ox := hx.one
  refine call_c follows cf34_ok (by simp) ?_
  simp [ox]
  refine newK_of fun z hz => ?_
  simp
  refine newK_of fun v hv => ?_
  obtain ⟨n1, n2, hv'⟩ := upd_none'.1 hv
  simp
  refine newK_of fun y hy => ?_
  obtain ⟨n5, n6, hy1⟩ := upd_none'.1 hy
  obtain ⟨n3, n4, hy2⟩ := upd_none'.1 hy1
  simp
  have hS : Sub H (upd (upd H z (.cells [x])) v (.cells [vnil])) := ((Sub.refl H).upd hz).upd hv'
  have h2z : (upd (upd H z (.cells [x])) v (.cells [vnil])) z = some (.cells [x]) := by simp [upd_apply, n2]
  have h2v : (upd (upd H z (.cells [x])) v (.cells [vnil])) v = some (.cells [vnil]) := by simp [upd_apply]
  generalize upd (upd H z (.cells [x])) v (.cells [vnil]) = H2 at *
  have hx2 := hx.sub hS
  have lx := fun k => hx.lenK (k := k)
  have ox := hx.one
  have up : ∀ o, Sub H2 (upd H2 y o) := fun o => (Sub.refl H2).upd hy
  refine wpc_loop (fun s' => ∃ (i : Nat) (out : AV) (O : List En), s'.n = 33 ∧ s'.t 1 = vi s ∧ s'.t 2 = pA z ∧ s'.t 4 = pA v ∧ s'.t 5 = pA y ∧ s'.t 6 = vi i ∧ i ≤ L.length ∧ O = rout (L.take i) s ∧ Row (upd H2 y (.cells [out])) s'.H out (flat en O) O.length 3) (fun s' => L.length - slotN (s'.t 6)) ?_ ?_
  · exact FgK.same ⟨0, vnil, [], by simp, by simp, by simp, by simp, by simp, by simp, by omega, by simp [rout], by simp [flat_nil]; exact Row.nil _ 3⟩
  rintro s' ⟨i, out, O, hn, e1, e2, e4, e5, e6, hi, hO, hrow⟩
  have w := IntWalk.i64_in ((i : Int) + 1) (by omega)
  have hsub := hrow.sub
  have hone := hrow.one
  have hz3 := hsub.at ((up _).at h2z)
  have hv3 := hsub.at ((up _).at h2v)
  have hy3 : s'.H y = some (.cells [out]) := hsub.at (by simp [upd_apply])
  by_cases hlt : i < L.length
  · obtain ⟨rest, hd⟩ := en_at hlt
    obtain ⟨m1, m2, m3, m4⟩ := en_bnd hlt
    have hsp := take_snoc hlt
    generalize L[i] = e at hd hsp
    obtain ⟨es, er, ea⟩ := e
    simp only at hd
    obtain ⟨q, f, rfl, hq⟩ := (hx2.sub (up _)).sl (by omega)
    have hq3 := hsub.at hq
    have hOl : O.length ≤ i := by
      have := rout_len (L.take i) s
      rw [hO]; simp at this; omega
    by_cases b1 : es = s
    · simp (disch := omega) [hn, e1, e2, e4, e5, e6, hz3, hy3, hq3, hd, m1, m2, m3, m4, hlt, b1, w]
      refine FgK.same ⟨⟨i + 1, out, O, by simp [*], by simp [*], by simp [*], by simp [*], by simp [*], by simp [*], by omega, ?_, by simpa using hrow⟩, by simp [*]; omega⟩
      rw [hO, hsp]; simp [rout, b1]
    · simp (disch := omega) [hn, e1, e2, e4, e5, e6, hz3, hy3, hq3, hd, m1, m2, m3, m4, hlt, b1, w]
      refine newK_of fun u hu => ?_
      have nu := free_ne hu y (by simp [hy3])
      have nq := free_ne hu q (by simp [hq3])
      have nz := free_ne hu z (by simp [hz3])
      have hsu : Sub s'.H (upd s'.H u (.cells (en ⟨es, er, ea⟩))) := (Sub.refl _).upd hu
      simp (disch := omega) [hn, e1, e2, e4, e5, e6, hz3, hy3, hq3, hd, m1, m2, m3, m4, hlt, b1, w, nu, nq, nz]
      refine hrow.app (by exact hsu) (by decide) rfl (by rw [en_flat_len]) (by omega) fun g H' hg hsg => ?_
      obtain ⟨t1, t2, t3, t4, t5, t6⟩ := sub_turn hg hsg (.cells [.sl g 0 (O.length + 1) 3 false])
      simp (disch := omega) [hn, e1, e2, e4, e5, e6, t1, w]
      refine FgK.of _ t3 ⟨⟨i + 1, .sl g 0 (O.length + 1) 3 false, O ++ [⟨es, er, ea⟩], by simp [*], by simp [*], by simp [*], by simp [*], by simp [*], by simp [*], by omega, ?_, ?_⟩, by simp [*]; omega⟩
      · rw [hO, hsp]; simp [rout, b1]
      · rw [flat_snoc] 
        simpa using Row.mk (cs := flat en (O ++ [⟨es, er, ea⟩])) (n := O.length + 1) (sz := 3) t2
  · rw [List.take_of_length_le (by omega)] at hO
    subst hO
    simp (disch := omega) [hn, e1, e2, e4, e5, e6, hz3, hy3, hv3, lx, hlt, hone]
    obtain ⟨H1, h3, h4⟩ := hrow.out2 (H := H) (hS.trans (up _)) (y := v) (by assumption) ((up _).at h2v) (.cells [out])
    exact ⟨H1, h3, hk _ _ h4⟩
end Go.Proofs.Ytnlckmkjhpaloaa
