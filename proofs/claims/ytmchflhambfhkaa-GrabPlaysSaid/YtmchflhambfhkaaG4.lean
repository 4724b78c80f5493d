/-
  The examples of the chapter hold, and a nil stack answers as the law GrabNil says. No conditions but those that each lemma states.
-/
import Derived.Test.YtmchflhambfhkaaG3
namespace Go.Proofs.Ytmchflhambfhkaa
open Go Go.Ab Go.RowKit
set_option linter.unusedSimpArgs false
set_option linter.unusedVariables false
set_option linter.unnecessarySimpa false

attribute [local simp] condK_true condK_false condK_not wpc_skip wpc_ret wpc_exit wpc_seq wpc_reg wpc_regD testA_bool wpc_cond wpc_block thenA_normal thenA_ret thenA_exit blockA_normal blockA_ret blockA_exit blockA_other endA_normal endA_ret ev_tmp' ev_const ev_func ev_global cv_int cv_bool cv_string cv_pointer cv_slice cv_agg put_some put_none wH_s setE_apply less_eq env_cons env_nil upd_apply del_apply startA_eq cells_ag cells_sl one_sl cells_vs one_vs cells_ep one_ep cells_fn one_fn cells_int one_int cells_bool one_bool cells_string one_string cells_pointer one_pointer cells_slice one_slice cells_map one_map cells_agg resK_one resK_nil resK_two rvK_t rvK_c rvsK_nil rvsK_cons iseq_nil iseq_cons gdA_true gdA_false gdA_undef istep_free istep_guard istepV_free istepV_guard dseq_nil dseq_pu dseq_rd dseq_ef chkAll_nil chkAll_cons andK_true pickK_true pickK_false pickK_tb pickK_fb bin2K_pl eqbK_eq eqbK_ne eqpK_eq eqpK_ne un1K_pl convK_int fillK_some fillA_cons fillA_nil cellsK_some needK_true needK_ok seeK_ep seeK_ptr oneK_agg oneK_one nilcK_ptr nilcK_ep fadrK_ptr fadrK_ep fldK_ag iadAK_ptr iadAK_ep iadSK_sl iadSK_vs extK_0 extK_1 extK_2 extK_3 lenK_pl lenK_sl lenK_vs lensK_pl boxK_some minmax1K_int storeK_ptr callvK_fn callvK_pl newsK_nil newsK_vs newsK_sl appK_nil appK_nil0 appK_sl appK_vs bnd1K_int bndK_none bndK_some slsK_vs slsK_nil slsK_sl0 slsK_sl slstrK_pl boolK_some eqsK_ag iop_eqs iop_sls iop_slstr iop_mov iop_pick iop_bin iop_eqb iop_eqp iop_un iop_conv iop_build iop_load iop_nilc iop_fadr iop_fld iop_iadA iop_iadS iop_ext iop_mkf iop_len iop_lens iop_minmax iop_al iop_box iop_bsl iop_store iop_call iop_callv iop_app BIN_add BIN_sub BIN_mul BIN_and BIN_or BIN_xor BIN_andNot BIN_eql BIN_neq BIN_lss BIN_leq BIN_gtr BIN_geq BIN_quo BIN_rem BIN_shl BIN_shr BIN_sadd BIN_seql BIN_sneq BIN_slss BIN_sleq BIN_sgtr BIN_sgeq UN_neg UN_xor UN_not MM_nil MM_cons partsA argsA ptrA lessL eqL min2I
attribute [local simp] slotN_int slotP_int

theorem LRow.len {H : AH} {l : List (Int × Int)} {a : AV} {G : Nat → Prop} (h : LRow H l a G) {k : AV → Prop} (hk : k (vi l.length)) : @lenK a ⟨k⟩ := by
  rcases h with ⟨rfl, rfl⟩ | ⟨_, _, rfl, _, _⟩ <;> exact hk

theorem c10 {H : AH} {K : AV → AH → Prop} (hk : ∀ H', (∀ j, H j ≠ none → H' j = H j) → K (vb true) H') : ACall Try.prog 10 [] H K := by
  refine call_c follows cf10_ok (by simp) ?_
  simp
  refine c11 fun i hi H1 h1 t1 => ?_
  simp
  refine c21 h1 (by simp) 1 5 4 fun H2 F2 h2 t => ?_
  replace t1 := t1.trans t
  simp [popupM, fnd] at h2 ⊢
  refine c21 h2 (by simp) 1 6 5 fun H3 F3 h3 t => ?_
  replace t1 := t1.trans t
  simp [popupM, fnd] at h3 ⊢
  refine c16 h3 (by simp) ?_
  simp [topM]
  refine c21 h3 (by simp) 1 7 5 fun H4 F4 h4 t => ?_
  replace t1 := t1.trans t
  simp [popupM, fnd] at h4 ⊢
  refine c21 h4 (by simp) 2 7 6 fun H5 F5 h5 t => ?_
  replace t1 := t1.trans t
  simp [popupM, fnd] at h5 ⊢
  refine c22 h5 (by simp) 1 5 fun H6 F6 a h6 t hl => ?_
  replace t1 := t1.trans t
  simp [clickM, cutM, fnd] at h6 hl ⊢
  rcases hl with ⟨h, _⟩ | ⟨r, x, rfl, hr, hr1, hr2⟩
  · simp at h
  simp [dcell] at hr
  simp [hr, AV.cells, AV.one]
  refine c21 h6 (by simp) 1 6 5 fun H7 F7 h7 t => ?_
  replace t1 := t1.trans t
  simp [popupM, fnd] at h7 ⊢
  refine c22 h7 (by simp) 2 9 fun H8 F8 a h8 t hl => ?_
  replace t1 := t1.trans t
  simp [clickM, cutM, fnd] at h8 hl ⊢
  refine hl.len ?_
  simp
  refine c26 h8 3 8 fun H9 F9 h9 t => ?_
  replace t1 := t1.trans t
  simp [implM] at h9 ⊢
  refine c18 h9 (by simp) 3 ?_
  simp [allowsM, topM]
  refine c18 h9 (by simp) 1 ?_
  simp [allowsM, topM]
  refine c27 h9 3 0 fun H10 F10 h10 t => ?_
  replace t1 := t1.trans t
  simp [dragM] at h10 ⊢
  refine c18 h10 (by simp) 3 ?_
  simp [allowsM, topM]
  refine c25 h10 fun H11 F11 h11 t => ?_
  replace t1 := t1.trans t
  simp [releaseM] at h11 ⊢
  refine c24 h11 fun H12 F12 h12 t => ?_
  replace t1 := t1.trans t
  simp [endM] at h12 ⊢
  refine c24 h12 fun H13 F13 h13 t => ?_
  replace t1 := t1.trans t
  simp [endM] at h13 ⊢
  refine c18 h13 (by simp) 1 ?_
  simp [allowsM, topM]
  exact hk _ fun j hj => t1.2 j (fun h => h) hj

/-- The call's four numbers. -/
theorem grabNil {x0 x1 x2 x3 : Int} {K : AV → AH → Prop} (hk : ∀ H', K (vb true) H') : ACall Try.prog 9 [.ag [vi x0, vi x1, vi x2, vi x3]] (fun _ => none) K := by
  refine call_c follows cf9_ok (by simp) ?_
  simp
  refine newK_of fun b hb => ?_
  simp
  refine c16n ?_
  simp
  refine c25n ?_
  simp
  refine c24n ?_
  simp
  refine c18n x1 ?_
  simp
  refine c22n x1 x2 ?_
  simp
  refine c23n x2 ?_
  simp
  refine c26n x1 x2 ?_
  simp
  refine c21n x1 x2 x3 ?_
  simp
  refine c27n x1 x2 ?_
  simp
  refine c10 fun H' _ => ?_
  simp
  exact hk _
end Go.Proofs.Ytmchflhambfhkaa
