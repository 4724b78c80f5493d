/-
  Several texts in one: P33; P34. Conditions: as each lemma states them.
-/
import Derived.Test.YtmpncpamndhmcaaMQ
import Derived.Test.YtmpncpamndhmcaaXRow
import Derived.Test.YtmpncpamndhmcaaRows
import Derived.WalkKit
import Derived.ProofKit
/-! PointerNil, walked: pointers that New did not return. Conditions: as each lemma states them. -/
section
namespace Go.Proofs.Ytmpncpamndhmcaa
open Go Go.Ab Go.RowKit
set_option linter.unusedSimpArgs false
set_option linter.unusedVariables false
set_option linter.unnecessarySimpa false

attribute [local simp] condK_true condK_false condK_not wpc_skip wpc_ret wpc_exit wpc_seq wpc_reg wpc_regD testA_bool wpc_cond wpc_block thenA_normal thenA_ret thenA_exit blockA_normal blockA_ret blockA_exit blockA_other endA_normal endA_ret ev_tmp' ev_const ev_func ev_global cv_int cv_bool cv_string cv_pointer cv_slice cv_agg cv_map put_some put_none wH_s setE_apply setE_env less_eq env_cons env_nil upd_upd upd_apply del_apply startA_eq cells_ag cells_sl one_sl cells_vs one_vs cells_ep one_ep cells_fn one_fn cells_int one_int cells_bool one_bool cells_string one_string cells_pointer one_pointer cells_slice one_slice cells_map one_map cells_agg resK_one resK_nil resK_two rvK_t rvK_c rvsK_nil rvsK_cons iseq_nil iseq_cons gdA_true gdA_false gdA_undef istep_free istep_guard istepV_free istepV_guard dseq_nil dseq_pu dseq_rd dseq_ef wpc_regT dtree_nil dtree_pu dtree_rd dtree_ef dtree_br chkAll_nil chkAll_cons andK_true pickK_true pickK_false pickK_tb pickK_fb bin2K_pl eqbK_eq eqbK_ne eqpK_eq eqpK_ne eqmK_eq eqmK_ne eqzK_eq eqzK_ne eqzK_sl eqzK_vs un1K_pl convK_int fillK_some fillA_cons fillA_nil cellsK_some needK_true needK_ok seeK_ep seeK_ptr oneK_agg oneK_one nilcK_ptr nilcK_ep fadrK_ptr fadrK_ep fldK_ag iadAK_ptr iadAK_ep iadSK_sl iadSK_vs extK_0 extK_1 extK_2 extK_3 lenK_pl lenK_sl lenK_vs lensK_pl boxK_some minmax1K_int storeK_ptr callvK_fn callvK_pl newsK_nil newsK_vs newsK_sl appK_nil appK_nil0 appK_sl appK_vs bnd1K_int bndK_none bndK_some slsK_vs slsK_nil slsK_sl0 slsK_sl slstrK_pl boolK_some eqsK_ag iop_eqs iop_sls iop_slstr seesK_some seesK_ro mapsK_some MAP_some findK_some findK_none plK_pl nmapK_none nmapK_some iop_mlook iop_mlen iop_mmk iop_mupd iop_mdel iop_mrng itK_none itK_some ptr0K_ptr iop_mnxt iop_ment it1K_some entK_some iop_mov iop_pick iop_bin iop_eqb iop_eqp iop_eqm iop_eqz iop_un capK_pl capK_sl capK_vs iop_cap apzK_nil iop_apz mksK_int iop_mks clrK_sl clrK_vs clrK_nil iop_clr iop_conv iop_build iop_load iop_nilc iop_fadr iop_fld iop_iadA iop_iadS iop_ext iop_mkf iop_len iop_lens iop_minmax iop_al iop_box iop_bsl iop_store iop_call iop_callv iop_app BIN_add BIN_sub BIN_mul BIN_and BIN_or BIN_xor BIN_andNot BIN_eql BIN_neq BIN_lss BIN_leq BIN_gtr BIN_geq BIN_quo BIN_rem BIN_shl BIN_shr BIN_sadd BIN_seql BIN_sneq BIN_slss BIN_sleq BIN_sgtr BIN_sgeq UN_neg UN_xor UN_not MM_nil MM_cons partsA argsA ptrA lessL eqL min2I slotN_int slotP_int slotI_int
attribute [local simp] rc_len rc_t4 rc_t1 rc_t2 rc_t3 rc_d1 rc_d2 rc_d3 rc_d4 rc_ag rc_one rc_eq

abbrev pnil : AV := .pl (.pointer none)
/-- A pointer that New did not return. -/
def NoP (H : AH) (v : AV) : Prop := v = pnil ∨ ∃ b cs, v = pA b ∧ H b = some (.cells (pnil :: cs))
theorem NoP.sub {H H' : AH} {v : AV} (h : NoP H v) (hs : Sub H H') : NoP H' v := by
  rcases h with h | ⟨b, cs, h1, h2⟩
  · exact .inl h
  · exact .inr ⟨b, cs, h1, hs _ _ h2⟩
theorem NoP.one {H : AH} {v : AV} (h : NoP H v) : v.one = true ∧ v.cells = some [v] := by
  rcases h with rfl | ⟨b, cs, rfl, h2⟩ <;> exact ⟨rfl, rfl⟩
section
variable {H : AH} {K : AV → AH → Prop} {v : AV}
theorem nMade (h : NoP H v) (hk : K (vb false) H) : @AC Try.prog 29 [v] H ⟨K⟩ := by
  rcases h with rfl | ⟨b, cs, rfl, h2⟩
  · refine call_c follows cf29_ok (by simp) ?_
    simp
    exact hk
  · refine call_c follows cf29_ok (by simp) ?_
    simp [h2]
    exact hk
theorem nFeed {a : AV} {e : Ev} (h : NoP H v) (hk : K (.tp [vnil, vi 1]) H) : @AC Try.prog 14 [v, a, .ag (evc e)] H ⟨K⟩ := by
  obtain ⟨h1, h2⟩ := h.one
  refine AC_of (.forget ?_)
  refine call_c follows cf14_ok (by simp) ?_
  have hel : (evc e).length = 6 := rfl
  simp [hel]
  refine newK_of fun z hz => ?_
  have hS : Sub H (upd H z (.cells (evc e))) := (Sub.refl H).upd hz
  simp [h1, h2]
  refine nMade (h.sub hS) ?_
  simp
  exact ⟨H, hS, hk⟩
theorem nPosition (h : NoP H v) (hk : K (.tp [vi 0, vi 0]) H) : @AC Try.prog 15 [v] H ⟨K⟩ := by
  obtain ⟨h1, h2⟩ := h.one
  refine call_c follows cf15_ok (by simp) ?_
  simp [h1, h2]
  refine nMade h ?_
  simp
  exact hk
theorem nButtons (h : NoP H v) (hk : K vnil H) : @AC Try.prog 16 [v] H ⟨K⟩ := by
  obtain ⟨h1, h2⟩ := h.one
  refine call_c follows cf16_ok (by simp) ?_
  simp [h1, h2]
  refine nMade h ?_
  simp
  exact hk
theorem nGrabs (h : NoP H v) (hk : K pnil H) : @AC Try.prog 17 [v] H ⟨K⟩ := by
  obtain ⟨h1, h2⟩ := h.one
  refine call_c follows cf17_ok (by simp) ?_
  simp [h1, h2]
  refine nMade h ?_
  simp
  exact hk
theorem nFocus (h : NoP H v) (hk : K pnil H) : @AC Try.prog 12 [v] H ⟨K⟩ := by
  obtain ⟨h1, h2⟩ := h.one
  refine call_c follows cf12_ok (by simp) ?_
  simp [h1, h2]
  refine nMade h ?_
  simp
  exact hk
theorem nGone {s : Int} (h : NoP H v) (hk : K vnil H) : @AC Try.prog 18 [v, vi s] H ⟨K⟩ := by
  obtain ⟨h1, h2⟩ := h.one
  refine call_c follows cf18_ok (by simp) ?_
  simp [h1, h2]
  refine nMade h ?_
  simp
  exact hk
end
set_option maxRecDepth 20000 in
theorem c5 {H : AH} {K : AV → AH → Prop} {e : Ev} {sf : Int} (hk : K (vb true) H) : @AC Try.prog 5 [.ag (evc e), vi sf] H ⟨K⟩ := by
  refine AC_of (.forget ?_)
  refine call_c follows cf5_ok (by simp) ?_
  have hel : (evc e).length = 6 := rfl
  have het : (evc e).take 6 = evc e := rfl
  simp [hel]
  refine newK_of fun z hz => ?_
  have hzz : upd H z (.cells (evc e)) z = some (.cells (evc e)) := by simp [upd_apply]
  have hS : Sub H (upd H z (.cells (evc e))) := (Sub.refl H).upd hz
  simp
  generalize upd H z (.cells (evc e)) = H1 at *
  refine newK_of fun q hq => ?_
  have hqq : upd H1 q (.cells [pnil, pnil, pnil, .pl (.map none), vi 0, vi 0, vi 0, vb false, vi 0]) q = some (.cells (pnil :: [pnil, pnil, .pl (.map none), vi 0, vi 0, vi 0, vb false, vi 0])) := by simp [upd_apply]
  have hSq : Sub H1 (upd H1 q (.cells [pnil, pnil, pnil, .pl (.map none), vi 0, vi 0, vi 0, vb false, vi 0])) := (Sub.refl H1).upd hq
  simp
  generalize upd H1 q (.cells [pnil, pnil, pnil, .pl (.map none), vi 0, vi 0, vi 0, vb false, vi 0]) = H2 at *
  refine newK_of fun w hw => ?_
  have hr : Rw (upd H2 w (.cells [pnil, pA q])) (.sl w 0 2 1 true) [pnil, pA q] 2 1 := Rw.sl rfl (by simp [upd_apply])
  have hSw : Sub H2 (upd H2 w (.cells [pnil, pA q])) := (Sub.refl H2).upd hw
  have hall : ∀ i (hi : i < 2), NoP (upd H2 w (.cells [pnil, pA q])) ([pnil, pA q][i]'hi) := by
    intro i hi
    rcases (show i = 0 ∨ i = 1 by omega) with rfl | rfl
    · exact .inl rfl
    · exact .inr ⟨q, _, rfl, hSw _ _ hqq⟩
  have hSH : Sub H (upd H2 w (.cells [pnil, pA q])) := hS.trans (hSq.trans hSw)
  have hz3 := (hSq.trans hSw) _ _ hzz
  generalize AV.sl w 0 2 1 true = x9 at *
  have x9c := Rw.cells hr
  have x9o := Rw.one hr
  have lx := fun k => Rw.lenK hr (k := k)
  simp [x9c, x9o]
  generalize upd H2 w (.cells [pnil, pA q]) = HH at *
  refine wpc_loop (fun s => ∃ (i : Nat), s.n = 90 ∧ s.H = HH ∧ s.t 1 = vi sf ∧ s.t 2 = pA z ∧ s.t 6 = x9 ∧ s.t 7 = vi i ∧ i ≤ 2) (fun s => 2 - slotN (s.t 7)) ?_ ?_
  · exact FgK.same ⟨0, by simp, by simp, by simp, by simp, by simp, by simp, by omega⟩
  rintro s ⟨i, hn, hH, e1, e2, e6, e7, hi⟩
  by_cases hlt : i < 2
  · have wr := IntWalk.i64_in ((i : Int) + 1) (by omega)
    have hlt' : (i : Int) < 2 := by omega
    have hp := hall i hlt
    obtain ⟨p, hp1, hp2⟩ := Rw.see hr hlt
    have hone : ([pnil, pA q].drop (i * 1)).take 1 = [([pnil, pA q][i]'hlt)] := by rw [Nat.mul_one, List.drop_eq_getElem_cons (by simpa using hlt)]; rfl
    have hp3 := hp2 HH (Sub.refl _)
    rw [hone] at hp3
    generalize ([pnil, pA q][i]'hlt) = v at *
    obtain ⟨v1, v2⟩ := hp.one
    simp (disch := omega) [hn, hH, e1, e2, e6, e7, lx, hlt', hp1, hp3, v1, v2, hz3, hel, het, x9c, x9o]
    refine nFeed hp ?_
    simp (disch := omega) [e1, e6, e7, hp1, hp3, v1, v2]
    refine nPosition hp ?_
    simp (disch := omega) [e1, e6, e7, hp1, hp3, v1, v2]
    refine nButtons hp ?_
    simp (disch := omega) [e1, e6, e7, hp1, hp3, v1, v2]
    refine nGrabs hp ?_
    simp (disch := omega) [e1, e6, e7, hp1, hp3, v1, v2]
    refine nFocus hp ?_
    simp (disch := omega) [e1, e6, e7, hp1, hp3, v1, v2]
    refine nGone hp ?_
    simp (disch := omega) [e1, e6, e7, wr]
    exact FgK.same ⟨⟨i + 1, by simp, by simp, by simp, by simp, by simp, by simp, by omega⟩, by simp [e7]; omega⟩
  · have hlt' : ¬ (i : Int) < 2 := by omega
    simp (disch := omega) [hn, hH, e1, e2, e6, e7, lx, hlt']
    refine c8 ?_
    simp
    exact ⟨H, hSH, hk⟩
abbrev evL : List Lf := [.i .i64, .i .i64, .i .i64, .i .i64, .i .i64, .i .i64]
theorem fitEv {a : AV} (h : FitT true evL a) : ∃ e : Ev, a = .ag (evc e) := by
  obtain ⟨cs, rfl, h⟩ := h
  obtain ⟨_, _, rfl, h0, h⟩ := h.cons_inv
  obtain ⟨_, _, rfl, h1, h⟩ := h.cons_inv
  obtain ⟨_, _, rfl, h2, h⟩ := h.cons_inv
  obtain ⟨_, _, rfl, h3, h⟩ := h.cons_inv
  obtain ⟨_, _, rfl, h4, h⟩ := h.cons_inv
  obtain ⟨_, _, rfl, h5, h⟩ := h.cons_inv
  obtain rfl := h.nil_inv
  obtain ⟨a0, rfl, _⟩ := h0.i_inv
  obtain ⟨a1, rfl, _⟩ := h1.i_inv
  obtain ⟨a2, rfl, _⟩ := h2.i_inv
  obtain ⟨a3, rfl, _⟩ := h3.i_inv
  obtain ⟨a4, rfl, _⟩ := h4.i_inv
  obtain ⟨a5, rfl, _⟩ := h5.i_inv
  exact ⟨⟨a0, a1, a2, a3, a4, a5⟩, rfl⟩
theorem law_PointerNil (xs : List AV) (hf : FitsT [(true, evL), (false, [.i .i64])] xs) : ACall Try.prog 5 xs (fun _ => none) (fun v _ => v = vb true) := by
  obtain ⟨a, _, rfl, h1, hf⟩ := hf.cons
  obtain ⟨b, _, rfl, h2, hf⟩ := hf.cons
  obtain rfl := hf.nil
  obtain ⟨e, rfl⟩ := fitEv h1
  obtain ⟨n, rfl, _⟩ := (FitL.one_inv h2).i_inv
  exact c5 rfl
end Go.Proofs.Ytmpncpamndhmcaa
end

/-! PointerNil: for every event and surface the law returns true, and its arguments read as it did. No conditions: every input that the row admits. -/
section
namespace Go.Proofs.Ytmpncpamndhmcaa
open Go Go.Ab Go.RowKit Go.ChangeShapes Go.WideShapes Go.ChangeAt
set_option linter.unusedSimpArgs false
set_option linter.unusedVariables false
set_option linter.unnecessarySimpa false

attribute [local simp] condK_true condK_false condK_not wpc_skip wpc_ret wpc_exit wpc_seq wpc_reg wpc_regD testA_bool wpc_cond wpc_block thenA_normal thenA_ret thenA_exit blockA_normal blockA_ret blockA_exit blockA_other endA_normal endA_ret ev_tmp' ev_const ev_func ev_global cv_int cv_bool cv_string cv_pointer cv_slice cv_agg cv_map put_some put_none wH_s setE_apply setE_env less_eq env_cons env_nil upd_upd upd_apply del_apply startA_eq cells_ag cells_sl one_sl cells_vs one_vs cells_ep one_ep cells_fn one_fn cells_int one_int cells_bool one_bool cells_string one_string cells_pointer one_pointer cells_slice one_slice cells_map one_map cells_agg resK_one resK_nil resK_two rvK_t rvK_c rvsK_nil rvsK_cons iseq_nil iseq_cons gdA_true gdA_false gdA_undef istep_free istep_guard istepV_free istepV_guard dseq_nil dseq_pu dseq_rd dseq_ef wpc_regT dtree_nil dtree_pu dtree_rd dtree_ef dtree_br chkAll_nil chkAll_cons andK_true pickK_true pickK_false pickK_tb pickK_fb bin2K_pl eqbK_eq eqbK_ne eqpK_eq eqpK_ne eqmK_eq eqmK_ne eqzK_eq eqzK_ne eqzK_sl eqzK_vs un1K_pl convK_int fillK_some fillA_cons fillA_nil cellsK_some needK_true needK_ok seeK_ep seeK_ptr oneK_agg oneK_one nilcK_ptr nilcK_ep fadrK_ptr fadrK_ep fldK_ag iadAK_ptr iadAK_ep iadSK_sl iadSK_vs extK_0 extK_1 extK_2 extK_3 lenK_pl lenK_sl lenK_vs lensK_pl boxK_some minmax1K_int storeK_ptr callvK_fn callvK_pl newsK_nil newsK_vs newsK_sl appK_nil appK_nil0 appK_sl appK_vs bnd1K_int bndK_none bndK_some slsK_vs slsK_nil slsK_sl0 slsK_sl slstrK_pl boolK_some eqsK_ag iop_eqs iop_sls iop_slstr seesK_some seesK_ro mapsK_some MAP_some findK_some findK_none plK_pl nmapK_none nmapK_some iop_mlook iop_mlen iop_mmk iop_mupd iop_mdel iop_mrng itK_none itK_some ptr0K_ptr iop_mnxt iop_ment it1K_some entK_some iop_mov iop_pick iop_bin iop_eqb iop_eqp iop_eqm iop_eqz iop_un capK_pl capK_sl capK_vs iop_cap apzK_nil iop_apz mksK_int iop_mks clrK_sl clrK_vs clrK_nil iop_clr iop_conv iop_build iop_load iop_nilc iop_fadr iop_fld iop_iadA iop_iadS iop_ext iop_mkf iop_len iop_lens iop_minmax iop_al iop_box iop_bsl iop_store iop_call iop_callv iop_app BIN_add BIN_sub BIN_mul BIN_and BIN_or BIN_xor BIN_andNot BIN_eql BIN_neq BIN_lss BIN_leq BIN_gtr BIN_geq BIN_quo BIN_rem BIN_shl BIN_shr BIN_sadd BIN_seql BIN_sneq BIN_slss BIN_sleq BIN_sgtr BIN_sgeq UN_neg UN_xor UN_not MM_nil MM_cons partsA argsA ptrA lessL eqL min2I slotN_int slotP_int slotI_int

set_option maxRecDepth 100000

theorem pointerNil_lifted (os : Os) (started : os.Started) (H : Type) (enc : TypeId × Value → H) :
    ReturnsInHanded {} Try.checked os 5 .any (Rows.pointerNilSpec.pre6 enc Try.prog Try.f5 Rows.pointerNilRow.domain false) (Rows.pointerNilSpec.post enc Try.prog Try.f5 false true false false) := by
  refine returnsInHanded_of_change_sized (C := Try.checked) own started (by kernel_rfl) Try.func5
    (ChangeSpec.witness6 (enc := enc) (C := Try.checked) false ⟨#[], #[.agg #[.int .i64 0, .int .i64 0, .int .i64 0, .int .i64 0, .int .i64 0, .int .i64 0], .int .i64 0], []⟩ 8 (by kernel_rfl) (by kernel_rfl) (by kernel_rfl) (by kernel_rfl)) ?_
  intro W base args ds gs before hval hW _ _ _
  refine law_contract (L := [(true, evL), (false, [.i .i64])]) laidOut (by kernel_rfl) rfl (fun ds hd => ?_) ⟨_, rfl, by kernel_rfl⟩ ?_ (fun xs hf => law_PointerNil xs hf) W base args ds gs before hval hW
  · match ds, hd with
    | [d0, d1], _ => exact ⟨rfl, rfl, rfl⟩
  · exact of_decide_eq_true (by kernel_rfl)

theorem pointerNil_holds : Rows.PointerNilSaid :=
  OpenClaim.holds_of_wide 5 Try.f5 rfl rfl rfl rfl rfl rfl rfl ⟨rfl, rfl, rfl, rfl, rfl⟩ rfl rfl rfl rfl rfl (by kernel_rfl) Try.func5 (by kernel_rfl)
    (of_decide_eq_true (by kernel_rfl)) (by unfold Func.isWrapper; first | (rw [if_pos (by decide +kernel)]; kernel_rfl) | (rw [if_neg (by decide +kernel)]; exact ⟨rfl, rfl⟩))
    (fun os started H enc _ => pointerNil_lifted os started H enc)
end Go.Proofs.Ytmpncpamndhmcaa
end
