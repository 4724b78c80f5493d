/-
  From physical to logical rectangles; the transform that undoes another one, off the table of products. Conditions: as each lemma states them.
-/
import Derived.Test.YtohedpgoioemnaaDoorO8
import Derived.Test.YtohedpgoioemnaaDoorR2
namespace Go.Proofs.YtohedpgoioemnaaDoor
open Go Go.Ab Go.RowKit
set_option linter.unusedSimpArgs false
set_option linter.unusedVariables false
set_option linter.unnecessarySimpa false

attribute [local simp] condK_true condK_false condK_not wpc_skip wpc_ret wpc_exit wpc_seq wpc_reg wpc_regD testA_bool wpc_cond wpc_block thenA_normal thenA_ret thenA_exit blockA_normal blockA_ret blockA_exit blockA_other endA_normal endA_ret ev_tmp' ev_const ev_func ev_global cv_int cv_bool cv_string cv_pointer cv_slice cv_agg put_some put_none wH_s setE_apply setE_env less_eq env_cons env_nil upd_upd upd_apply del_apply startA_eq cells_ag cells_sl one_sl cells_vs one_vs cells_ep one_ep cells_fn one_fn cells_int one_int cells_bool one_bool cells_string one_string cells_pointer one_pointer cells_slice one_slice cells_map one_map cells_agg resK_one resK_nil resK_two rvK_t rvK_c rvsK_nil rvsK_cons iseq_nil iseq_cons gdA_true gdA_false gdA_undef istep_free istep_guard istepV_free istepV_guard dseq_nil dseq_pu dseq_rd dseq_ef chkAll_nil chkAll_cons andK_true pickK_true pickK_false pickK_tb pickK_fb bin2K_pl eqbK_eq eqbK_ne eqpK_eq eqpK_ne un1K_pl convK_int fillK_some fillA_cons fillA_nil cellsK_some needK_true needK_ok seeK_ep seeK_ptr oneK_agg oneK_one nilcK_ptr nilcK_ep fadrK_ptr fadrK_ep fldK_ag iadAK_ptr iadAK_ep iadSK_sl iadSK_vs extK_0 extK_1 extK_2 extK_3 lenK_pl lenK_sl lenK_vs lensK_pl boxK_some minmax1K_int storeK_ptr callvK_fn callvK_pl newsK_nil newsK_vs newsK_sl appK_nil appK_nil0 appK_sl appK_vs bnd1K_int bndK_none bndK_some slsK_vs slsK_nil slsK_sl0 slsK_sl slstrK_pl boolK_some eqsK_ag iop_eqs iop_sls iop_slstr seesK_some seesK_ro mapsK_some MAP_some findK_some findK_none plK_pl nmapK_none nmapK_some iop_mlook iop_mlen iop_mmk iop_mupd iop_mdel iop_mrng itK_none itK_some ptr0K_ptr iop_mnxt iop_ment it1K_some entK_some iop_mov iop_pick iop_bin iop_eqb iop_eqp iop_un iop_conv iop_build iop_load iop_nilc iop_fadr iop_fld iop_iadA iop_iadS iop_ext iop_mkf iop_len iop_lens iop_minmax iop_al iop_box iop_bsl iop_store iop_call iop_callv iop_app BIN_add BIN_sub BIN_mul BIN_and BIN_or BIN_xor BIN_andNot BIN_eql BIN_neq BIN_lss BIN_leq BIN_gtr BIN_geq BIN_quo BIN_rem BIN_shl BIN_shr BIN_sadd BIN_seql BIN_sneq BIN_slss BIN_sleq BIN_sgtr BIN_sgeq UN_neg UN_xor UN_not MM_nil MM_cons partsA argsA ptrA lessL eqL min2I slotN_int slotP_int slotI_int
attribute [local simp] rc_len rc_t4 rc_t1 rc_t2 rc_t3 rc_d1 rc_d2 rc_d3 rc_d4 rc_ag rc_one rc_eq pc_len pc_t1 pc_t2 pc_d1 pc_d2 pc_ag pc_one oc_len oc_tt oc_dd oc_one oc_ag oc_t1 oc_t2 oc_t3 oc_t4 oc_t5 oc_t6 oc_t7 oc_d1 oc_d2 oc_d3 oc_d4 oc_d5 oc_d6 oc_d7 min2_t min2_f

def invT (t : Int) : Int := if nrm t = 1 then 3 else if nrm t = 3 then 1 else nrm t
def prodT : List Int := [0, 1, 2, 3, 4, 5, 6, 7, 1, 2, 3, 0, 7, 4, 5, 6, 2, 3, 0, 1, 6, 7, 4, 5, 3, 0, 1, 2, 5, 6, 7, 4, 4, 5, 6, 7, 0, 1, 2, 3, 5, 6, 7, 4, 3, 0, 1, 2, 6, 7, 4, 5, 2, 3, 0, 1, 7, 4, 5, 6, 1, 2, 3, 0]
def prodC : List AV := prodT.map vi
/-- The table of products in its place. -/
def Tab (H : AH) : Prop := H 0 = some (.ro prodC)
theorem prodC_len : prodC.length = 64 := by rfl
theorem prod_at (j : Nat) (h : j < 64) : (prodC.drop j).take 1 = [vi (prodT.getD j 0)] := by
  have : ∀ j : Fin 64, (prodT.drop j.1).take 1 = [prodT.getD j.1 0] := by decide +kernel
  unfold prodC
  rw [← List.map_drop, ← List.map_take, this ⟨j, h⟩]
  rfl
abbrev Tb := Ro 0 prodC
abbrev PT := PR 0 prodC
theorem prod_inv (n u : Int) (hn : 0 ≤ n ∧ n ≤ 7) (hu : 0 ≤ u ∧ u ≤ 7) : (prodT.getD (8 * n + u).toNat 0 = 0) ↔ u = (if n = 1 then 3 else if n = 3 then 1 else n) := by
  have : ∀ a b : Fin 8, (prodT.getD (8 * (a.1 : Int) + (b.1 : Int)).toNat 0 = 0) ↔ (b.1 : Int) = (if (a.1 : Int) = 1 then 3 else if (a.1 : Int) = 3 then 1 else (a.1 : Int)) := by decide +kernel
  have := this ⟨n.toNat, by omega⟩ ⟨u.toNat, by omega⟩
  simp only at this
  rwa [Int.toNat_of_nonneg hn.1, Int.toNat_of_nonneg hu.1] at this
theorem c27 (t : Int) : PT Tryd.prog 27 [vi t] (vi (invT t)) := by
  have hn := nrm_rng t
  refine .tell fun H hT => ?_
  refine call_c follows cf27_ok (by simp) ?_
  repeat' (first | simp [*] | (with_reducible (refine newK_of fun _ h_ => ?_); have hn_ := free_ne h_; (try simp only [upd_none', ne_eq] at h_)) | (with_reducible (refine condK_of (fun h_ => ?_) (fun h_ => ?_))) | with_reducible (refine (c28 ..).ac ?_))
  refine wpc_loop (fun s => s.n = 18 ∧ s.H = H ∧ s.t 0 = vi (nrm t) ∧ ∃ u : Int, s.t 6 = vi u ∧ 0 ≤ u ∧ u ≤ invT t) (fun s => (8 - slotI (s.t 6)).toNat) ?_ ?_
  · refine FgK.same ?_
    simp [invT]; repeat' split
    all_goals omega
  rintro s ⟨hsn, hsH, h0, u, h6, hu1, hu2⟩
  have hi : invT t ≤ 7 := by unfold invT; repeat' split
                             all_goals omega
  have hu3 : u < 8 := by omega
  have hq := prod_inv (nrm t) u hn ⟨hu1, by omega⟩
  have e1 : IntKind.i64.wrap (8 * nrm t) = 8 * nrm t := IntWalk.i64_in _ (by omega)
  have e2 : IntKind.i64.wrap (8 * nrm t + u) = 8 * nrm t + u := IntWalk.i64_in _ (by omega)
  have e3 : IntKind.i64.wrap (u + 1) = u + 1 := IntWalk.i64_in _ (by omega)
  have e4 : 0 ≤ 8 * nrm t + u ∧ 8 * nrm t + u < 64 := by omega
  have e5 : (8 * nrm t + u).toNat + 1 ≤ 64 := by omega
  have e6 := prod_at (8 * nrm t + u).toNat (by omega)
  have e7 : H 0 = some (.ro prodC) := hT
  have hq' : prodT.getD (8 * nrm t + u).toNat 0 = 0 ↔ u = invT t := hq
  clear hq
  simp only [List.getD_eq_getElem?_getD] at e6 hq'
  by_cases hx : u = invT t
  · simp only [hx, iff_true] at hq'
    subst hx
    simp [*, prodC_len]
    exact Sub.refl _
  · simp only [hx, iff_false] at hq'
    simp [*, prodC_len]
    exact FgK.same ⟨⟨by simp [*], by simp [*], by simp [*], u + 1, by simp [*], by omega, by omega⟩, by simp [*]; omega⟩
end Go.Proofs.YtohedpgoioemnaaDoor
