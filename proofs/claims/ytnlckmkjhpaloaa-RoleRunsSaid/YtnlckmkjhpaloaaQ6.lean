/-
  RoleNil: for every call the law returns true, and its argument reads as it did. No conditions: every input that the row admits.
-/
import Derived.Test.YtnlckmkjhpaloaaQ5
import Derived.Test.YtnlckmkjhpaloaaXRow
import Derived.Test.YtnlckmkjhpaloaaRows
import Derived.WalkKit
import Derived.ProofKit
namespace Go.Proofs.Ytnlckmkjhpaloaa
open Go Go.Ab Go.RowKit Go.ChangeShapes Go.WideShapes Go.ChangeAt
set_option linter.unusedSimpArgs false
set_option linter.unusedVariables false
set_option linter.unnecessarySimpa false

attribute [local simp] condK_true condK_false condK_not wpc_skip wpc_ret wpc_exit wpc_seq wpc_reg wpc_regD testA_bool wpc_cond wpc_block thenA_normal thenA_ret thenA_exit blockA_normal blockA_ret blockA_exit blockA_other endA_normal endA_ret ev_tmp' ev_const ev_func ev_global cv_int cv_bool cv_string cv_pointer cv_slice cv_agg put_some put_none wH_s setE_apply setE_env less_eq env_cons env_nil upd_upd upd_apply del_apply startA_eq cells_ag cells_sl one_sl cells_vs one_vs cells_ep one_ep cells_fn one_fn cells_int one_int cells_bool one_bool cells_string one_string cells_pointer one_pointer cells_slice one_slice cells_map one_map cells_agg resK_one resK_nil resK_two rvK_t rvK_c rvsK_nil rvsK_cons iseq_nil iseq_cons gdA_true gdA_false gdA_undef istep_free istep_guard istepV_free istepV_guard dseq_nil dseq_pu dseq_rd dseq_ef chkAll_nil chkAll_cons andK_true pickK_true pickK_false pickK_tb pickK_fb bin2K_pl eqbK_eq eqbK_ne eqpK_eq eqpK_ne un1K_pl convK_int fillK_some fillA_cons fillA_nil cellsK_some needK_true needK_ok seeK_ep seeK_ptr oneK_agg oneK_one nilcK_ptr nilcK_ep fadrK_ptr fadrK_ep fldK_ag iadAK_ptr iadAK_ep iadSK_sl iadSK_vs extK_0 extK_1 extK_2 extK_3 lenK_pl lenK_sl lenK_vs lensK_pl boxK_some minmax1K_int storeK_ptr callvK_fn callvK_pl newsK_nil newsK_vs newsK_sl appK_nil appK_nil0 appK_sl appK_vs bnd1K_int bndK_none bndK_some slsK_vs slsK_nil slsK_sl0 slsK_sl slstrK_pl boolK_some eqsK_ag iop_eqs iop_sls iop_slstr seesK_some seesK_ro mapsK_some MAP_some findK_some findK_none plK_pl nmapK_none nmapK_some iop_mlook iop_mlen iop_mmk iop_mupd iop_mdel iop_mrng itK_none itK_some ptr0K_ptr iop_mnxt iop_ment it1K_some entK_some iop_mov iop_pick iop_bin iop_eqb iop_eqp iop_un iop_conv iop_build iop_load iop_nilc iop_fadr iop_fld iop_iadA iop_iadS iop_ext iop_mkf iop_len iop_lens iop_minmax iop_al iop_box iop_bsl iop_store iop_call iop_callv iop_app BIN_add BIN_sub BIN_mul BIN_and BIN_or BIN_xor BIN_andNot BIN_eql BIN_neq BIN_lss BIN_leq BIN_gtr BIN_geq BIN_quo BIN_rem BIN_shl BIN_shr BIN_sadd BIN_seql BIN_sneq BIN_slss BIN_sleq BIN_sgtr BIN_sgeq UN_neg UN_xor UN_not MM_nil MM_cons partsA argsA ptrA lessL eqL min2I slotN_int slotP_int slotI_int
attribute [local simp] ent_len ent_tt ent_dd ent_one ent_ag ent_t1 ent_d1 opc_len opc_tt opc_dd opc_one opc_ag opc_t1 opc_t2 opc_d1 opc_d2 ent_eq

theorem c8 (x : Op) : PC Try.prog 8 [.ag (opc x)] (vb true) := by
  refine .tell fun H => ?_
  refine call_c follows cf8_ok (by simp) ?_
  simp
  refine newK_of fun y hy => ?_
  simp
  refine newK_of fun z hz => ?_
  have hzy := (upd_none'.1 hz)
  simp
  refine newK_of fun q hq => ?_
  have hqz := (upd_none'.1 hq)
  have hqy := (upd_none'.1 hqz.2.2)
  have hS : Sub H (upd (upd (upd H y (.cells (opc x))) z (.cells [vb false, .pl (.map none)])) q (.cells [.pl (.pointer none), pA z])) := (((Sub.refl H).upd hy).upd hzy.2.2).upd hqy.2.2
  have k1 : (upd (upd (upd H y (.cells (opc x))) z (.cells [vb false, .pl (.map none)])) q (.cells [.pl (.pointer none), pA z])) y = some (.cells (opc x)) := by simp [upd_apply, hzy, hqz, hqy]
  have k2 : (upd (upd (upd H y (.cells (opc x))) z (.cells [vb false, .pl (.map none)])) q (.cells [.pl (.pointer none), pA z])) z = some (.cells [vb false, .pl (.map none)]) := by simp [upd_apply, hzy, hqz, hqy]
  have k3 : (upd (upd (upd H y (.cells (opc x))) z (.cells [vb false, .pl (.map none)])) q (.cells [.pl (.pointer none), pA z])) q = some (.cells [.pl (.pointer none), pA z]) := by simp [upd_apply, hzy, hqz, hqy]
  simp
  generalize (upd (upd (upd H y (.cells (opc x))) z (.cells [vb false, .pl (.map none)])) q (.cells [.pl (.pointer none), pA z])) = Hs at hS k1 k2 k3 ⊢
  clear hy hz hzy hq hqz hqy
  refine wpc_loop (fun s => ∃ i : Nat, s.n = 77 ∧ s.H = Hs ∧ s.t 1 = pA y ∧ s.t 4 = .sl q 0 2 1 true ∧ s.t 5 = vi i ∧ i ≤ 2) (fun s => 2 - slotN (s.t 5)) ?_ ?_
  · exact FgK.same ⟨0, by simp, by simp, by simp, by simp, by simp, by omega⟩
  rintro s ⟨i, hn, hH, e1, e4, e5, hi⟩
  have hb : ∀ H, H z = some (.cells [vb false, .pl (.map none)]) → Bad H (pA z) := fun H h => .inr ⟨z, rfl, h⟩
  have hb0 : ∀ H, Bad H (.pl (.pointer none)) := fun H => .inl rfl
  rcases (show i = 0 ∨ i = 1 ∨ i = 2 by omega) with rfl | rfl | rfl
  · have h := hb0 Hs
    simp [*]
    repeat' (first | simp [*] | with_reducible (refine c21n _ _ h ?_) | with_reducible (refine c22n _ h ?_) | with_reducible (refine c23n _ h ?_) | with_reducible (refine c14n _ h ?_) | with_reducible (refine c16n _ h ?_) | with_reducible (refine c19n _ h ?_))
    exact FgK.same ⟨⟨1, by simp [*], by simp [*], by simp [*], by simp [*], by simp; decide, by omega⟩, by simp [*]; decide⟩
  · have h := hb Hs k2
    simp [*]
    repeat' (first | simp [*] | with_reducible (refine c21n _ _ h ?_) | with_reducible (refine c22n _ h ?_) | with_reducible (refine c23n _ h ?_) | with_reducible (refine c14n _ h ?_) | with_reducible (refine c16n _ h ?_) | with_reducible (refine c19n _ h ?_))
    exact FgK.same ⟨⟨2, by simp [*], by simp [*], by simp [*], by simp [*], by simp; decide, by omega⟩, by simp [*]; decide⟩
  · simp [*]
    repeat' (first | simp [*] | with_reducible (refine (c9 ..).ac ?_))
abbrev opL : List Lf := [.i .i64, .i .i64, .i .i64]
theorem fitOpL {cs : List AV} (h : FitL opL cs) : ∃ x : Op, cs = opc x := by
  obtain ⟨_, _, rfl, h0, h⟩ := h.cons_inv
  obtain ⟨_, _, rfl, h1, h⟩ := h.cons_inv
  obtain ⟨_, _, rfl, h2, h⟩ := h.cons_inv
  obtain rfl := h.nil_inv
  obtain ⟨_, rfl, _⟩ := h0.i_inv
  obtain ⟨_, rfl, _⟩ := h1.i_inv
  obtain ⟨_, rfl, _⟩ := h2.i_inv
  exact ⟨⟨_, _, _⟩, rfl⟩
theorem fitOps {a : AV} (h : FitT false [.sl opL] a) : ∃ l : List Op, a = .vs l.length false (flat opc l) ∧ l.length ≤ maxLen := by
  obtain ⟨n, cs, rfl, hn, hl, hf⟩ := (FitL.one_inv h).sl_inv
  obtain ⟨l, rfl, rfl⟩ := FitL.elems (enc := opc) (by decide) (fun cs h => fitOpL h) n cs hl hf
  exact ⟨l, rfl, hn⟩
theorem fitInt {a : AV} (h : FitT false [.i .i64] a) : ∃ n : Int, a = vi n := by
  obtain ⟨n, rfl, _⟩ := (FitL.one_inv h).i_inv
  exact ⟨n, rfl⟩
theorem law_RoleNil (xs : List AV) (hf : FitsT [(true, opL)] xs) : ACall Try.prog 8 xs (fun _ => none) (fun v _ => v = vb true) := by
  match xs, hf with
  | [a], ⟨h1, _⟩ =>
    obtain ⟨cs, rfl, h⟩ := h1
    obtain ⟨x, rfl⟩ := fitOpL h
    exact (c8 x).same rfl

theorem roleNil_lifted (os : Os) (started : os.Started) (H : Type) (enc : TypeId × Value → H) :
    ReturnsInHanded {} Try.checked os 8 .any (Rows.roleNilSpec.pre6 enc Try.prog Try.f8 Rows.roleNilRow.domain false) (Rows.roleNilSpec.post enc Try.prog Try.f8 false true false false) := by
  refine returnsInHanded_of_change_sized (C := Try.checked) own started (by kernel_rfl) Try.func8
    (ChangeSpec.witness6 (enc := enc) (C := Try.checked) false ⟨#[], #[.agg #[.int .i64 0, .int .i64 0, .int .i64 0]], []⟩ 8 (by kernel_rfl) (by kernel_rfl) (by kernel_rfl) (by kernel_rfl)) ?_
  intro W base args ds gs before hval hW _ _ _
  refine law_contract (L := [(true, opL)]) laidOut (by kernel_rfl) rfl (fun ds hd => ?_) ⟨_, rfl, by kernel_rfl⟩ ?_ (fun xs hf => law_RoleNil xs hf) W base args ds gs before hval hW
  · match ds, hd with
    | [d0], _ => exact ⟨rfl, rfl, rfl⟩
  · exact of_decide_eq_true (by kernel_rfl)

theorem roleNil_holds : Rows.RoleNilSaid :=
  OpenClaim.holds_of_wide 8 Try.f8 rfl rfl rfl rfl rfl rfl rfl ⟨rfl, rfl, rfl, rfl, rfl⟩ rfl rfl rfl rfl rfl (by kernel_rfl) Try.func8 (by kernel_rfl)
    (of_decide_eq_true (by kernel_rfl)) (by unfold Func.isWrapper; first | (rw [if_pos (by decide +kernel)]; kernel_rfl) | (rw [if_neg (by decide +kernel)]; exact ⟨rfl, rfl⟩))
    (fun os started H enc _ => roleNil_lifted os started H enc)
end Go.Proofs.Ytnlckmkjhpaloaa
