/-
  Rectangles: empty, canonical, the common part, the area; one within another. Conditions: as each lemma states them.
-/
import Derived.Test.YtidcajmbkbamcaaO2
namespace Go.Proofs.Ytidcajmbkbamcaa
open Go Go.Ab Go.RowKit
set_option linter.unusedSimpArgs false
set_option linter.unusedVariables false
set_option linter.unnecessarySimpa false

attribute [local simp] condK_true condK_false condK_not wpc_skip wpc_ret wpc_exit wpc_seq wpc_reg wpc_regD testA_bool wpc_cond wpc_block thenA_normal thenA_ret thenA_exit blockA_normal blockA_ret blockA_exit blockA_other endA_normal endA_ret ev_tmp' ev_const ev_func ev_global cv_int cv_bool cv_string cv_pointer cv_slice cv_agg put_some put_none wH_s setE_apply setE_env less_eq env_cons env_nil upd_upd upd_apply del_apply startA_eq cells_ag cells_sl one_sl cells_vs one_vs cells_ep one_ep cells_fn one_fn cells_int one_int cells_bool one_bool cells_string one_string cells_pointer one_pointer cells_slice one_slice cells_map one_map cells_agg resK_one resK_nil resK_two rvK_t rvK_c rvsK_nil rvsK_cons iseq_nil iseq_cons gdA_true gdA_false gdA_undef istep_free istep_guard istepV_free istepV_guard dseq_nil dseq_pu dseq_rd dseq_ef chkAll_nil chkAll_cons andK_true pickK_true pickK_false pickK_tb pickK_fb bin2K_pl eqbK_eq eqbK_ne eqpK_eq eqpK_ne un1K_pl convK_int fillK_some fillA_cons fillA_nil cellsK_some needK_true needK_ok seeK_ep seeK_ptr oneK_agg oneK_one nilcK_ptr nilcK_ep fadrK_ptr fadrK_ep fldK_ag iadAK_ptr iadAK_ep iadSK_sl iadSK_vs extK_0 extK_1 extK_2 extK_3 lenK_pl lenK_sl lenK_vs lensK_pl boxK_some minmax1K_int storeK_ptr callvK_fn callvK_pl newsK_nil newsK_vs newsK_sl appK_nil appK_nil0 appK_sl appK_vs bnd1K_int bndK_none bndK_some slsK_vs slsK_nil slsK_sl0 slsK_sl slstrK_pl boolK_some eqsK_ag iop_eqs iop_sls iop_slstr seesK_some seesK_ro mapsK_some MAP_some findK_some findK_none plK_pl nmapK_none nmapK_some iop_mlook iop_mlen iop_mmk iop_mupd iop_mdel iop_mrng itK_none itK_some ptr0K_ptr iop_mnxt iop_ment it1K_some entK_some iop_mov iop_pick iop_bin iop_eqb iop_eqp iop_un iop_conv iop_build iop_load iop_nilc iop_fadr iop_fld iop_iadA iop_iadS iop_ext iop_mkf iop_len iop_lens iop_minmax iop_al iop_box iop_bsl iop_store iop_call iop_callv iop_app BIN_add BIN_sub BIN_mul BIN_and BIN_or BIN_xor BIN_andNot BIN_eql BIN_neq BIN_lss BIN_leq BIN_gtr BIN_geq BIN_quo BIN_rem BIN_shl BIN_shr BIN_sadd BIN_seql BIN_sneq BIN_slss BIN_sleq BIN_sgtr BIN_sgeq UN_neg UN_xor UN_not MM_nil MM_cons partsA argsA ptrA lessL eqL min2I slotN_int slotP_int slotI_int

theorem rc_len (r : R) : (rc r).length = 4 := rfl
theorem rc_t4 (r : R) : (rc r).take 4 = rc r := rfl
theorem rc_t1 (r : R) : (rc r).take 1 = [vi r.x0] := rfl
theorem rc_t2 (r : R) : (rc r).take 2 = [vi r.x0, vi r.y0] := rfl
theorem rc_t3 (r : R) : (rc r).take 3 = [vi r.x0, vi r.y0, vi r.x1] := rfl
theorem rc_d1 (r : R) : (rc r).tail = [vi r.y0, vi r.x1, vi r.y1] := rfl
theorem rc_d2 (r : R) : (rc r).drop 2 = [vi r.x1, vi r.y1] := rfl
theorem rc_d3 (r : R) : (rc r).drop 3 = [vi r.y1] := rfl
theorem rc_d4 (r : R) : (rc r).drop 4 = [] := rfl
theorem rc_ag (a b c d : Int) : AV.ag [vi a, vi b, vi c, vi d] = .ag (rc ⟨a, b, c, d⟩) := rfl
theorem rc_one (r : R) : (rc r).all AV.one = true := rfl
theorem rc_inj (a b : R) : rc a = rc b ↔ a = b := by cases a; cases b; simp [rc]
def req (a b : R) : Bool := a.x0 == b.x0 && (a.y0 == b.y0 && (a.x1 == b.x1 && a.y1 == b.y1))
theorem rc_eq (a b : R) : eqL [1, 1, 1, 1] (rc a) (rc b) = some (req a b) := by simp [rc, eqL, req]
theorem req_iff (a b : R) : req a b = true ↔ a = b := by cases a; cases b; simp [req]
attribute [local simp] rc_len rc_t4 rc_t1 rc_t2 rc_t3 rc_d1 rc_d2 rc_d3 rc_d4 rc_ag rc_one rc_eq
theorem min2_t (a b : Int) : (if a < b then b else a) = max a b := by omega
theorem min2_f (a b : Int) : (if b < a then b else a) = min a b := by omega
attribute [local simp] min2_t min2_f

def rempty (r : R) : Bool := !rvalid r || decide (r.x1 ≤ r.x0) || decide (r.y1 ≤ r.y0)
theorem c44 (r : R) : PC Try.prog 44 [.ag (rc r)] (vb (rempty r)) := by
  refine .tell fun H => ?_
  refine call_c follows cf44_ok (by simp) ?_
  repeat' (first | simp [*] | (with_reducible (refine newK_of fun _ h_ => ?_); have hn_ := free_ne h_; (try simp only [upd_none', ne_eq] at h_)) | (with_reducible (refine condK_of (fun h_ => ?_) (fun h_ => ?_))) | with_reducible (refine (c59 ..).ac ?_))
  all_goals ((try with_reducible refine And.intro ?_ ?_) <;> (try (repeat' (first | with_reducible exact Sub.refl _ | with_reducible refine Sub.of_upd (by simp [*]) ?_))))
  all_goals (simp_all [rempty] <;> omega)
def rcan (r : R) : R := if rempty r then ⟨0, 0, 0, 0⟩ else r
theorem c54 (r : R) : PC Try.prog 54 [.ag (rc r)] (.ag (rc (rcan r))) := by
  refine .tell fun H => ?_
  refine call_c follows cf54_ok (by simp) ?_
  repeat' (first | simp [*] | (with_reducible (refine newK_of fun _ h_ => ?_); have hn_ := free_ne h_; (try simp only [upd_none', ne_eq] at h_)) | (with_reducible (refine condK_of (fun h_ => ?_) (fun h_ => ?_))) | with_reducible (refine (c44 ..).ac ?_))
  all_goals ((try with_reducible refine And.intro ?_ ?_) <;> (try (repeat' (first | with_reducible exact Sub.refl _ | with_reducible refine Sub.of_upd (by simp [*]) ?_))))
  all_goals (simp_all [rcan] <;> omega)
def rcap (a b : R) : R := if rempty a || rempty b then ⟨0, 0, 0, 0⟩ else rcan ⟨max a.x0 b.x0, max a.y0 b.y0, min a.x1 b.x1, min a.y1 b.y1⟩
theorem c45 (a b : R) : PC Try.prog 45 [.ag (rc a), .ag (rc b)] (.ag (rc (rcap a b))) := by
  refine .tell fun H => ?_
  refine call_c follows cf45_ok (by simp) ?_
  repeat' (first | simp [*] | (with_reducible (refine newK_of fun _ h_ => ?_); have hn_ := free_ne h_; (try simp only [upd_none', ne_eq] at h_)) | (with_reducible (refine condK_of (fun h_ => ?_) (fun h_ => ?_))) | with_reducible (refine (c44 ..).ac ?_) | with_reducible (refine (c54 ..).ac ?_))
  all_goals ((try with_reducible refine And.intro ?_ ?_) <;> (try (repeat' (first | with_reducible exact Sub.refl _ | with_reducible refine Sub.of_upd (by simp [*]) ?_))))
  all_goals (simp_all [rcap] <;> omega)

theorem rempty_ok (r : R) (h : rempty r = false) : -16384 ≤ r.x0 ∧ r.x0 < r.x1 ∧ r.x1 ≤ 16384 ∧ -16384 ≤ r.y0 ∧ r.y0 < r.y1 ∧ r.y1 ≤ 16384 := by
  simp [rempty, rvalid, okc] at h; omega
theorem rempty_of (r : R) (h : -16384 ≤ r.x0 ∧ r.x0 < r.x1 ∧ r.x1 ≤ 16384 ∧ -16384 ≤ r.y0 ∧ r.y0 < r.y1 ∧ r.y1 ≤ 16384) : rempty r = false := by
  simp [rempty, rvalid, okc]; omega
theorem rempty_iff (r : R) : rempty r = false ↔ -16384 ≤ r.x0 ∧ r.x0 < r.x1 ∧ r.x1 ≤ 16384 ∧ -16384 ≤ r.y0 ∧ r.y0 < r.y1 ∧ r.y1 ≤ 16384 := ⟨rempty_ok r, rempty_of r⟩
theorem rempty_zero : rempty ⟨0, 0, 0, 0⟩ = true := by decide
theorem rcan_rng (r : R) : -16384 ≤ (rcan r).x0 ∧ (rcan r).x0 ≤ 16384 ∧ -16384 ≤ (rcan r).x1 ∧ (rcan r).x1 ≤ 16384 ∧ -16384 ≤ (rcan r).y0 ∧ (rcan r).y0 ≤ 16384 ∧ -16384 ≤ (rcan r).y1 ∧ (rcan r).y1 ≤ 16384 := by
  unfold rcan
  cases h : rempty r with
  | true => simp
  | false => have := rempty_ok r h; simp; omega
end Go.Proofs.Ytidcajmbkbamcaa
