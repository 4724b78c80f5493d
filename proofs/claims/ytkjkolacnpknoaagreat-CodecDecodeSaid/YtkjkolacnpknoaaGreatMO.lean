/-
  Several texts in one: O1; O2; R1; V1; V2; V3; V4; V6; V5; V7; V8; V9; V10; V11; V12; V13; V14. Conditions: as each lemma states them.
-/
import Derived.Test.YtkjkolacnpknoaaGreatAbL
import Derived.Test.YtkjkolacnpknoaaGreatCf
import Derived.Test.YtkjkolacnpknoaaGreatAbO
import Derived.Test.YtkjkolacnpknoaaGreatAbS
import Derived.Test.YtkjkolacnpknoaaGreatShelf
/-! The small functions on rectangles and transforms. Conditions: as each lemma states them. -/
section
namespace Go.Proofs.YtkjkolacnpknoaaGreat
open Go Go.Ab Go.RowKit
set_option linter.unusedSimpArgs false
set_option linter.unusedVariables false
set_option linter.unnecessarySimpa false

attribute [local simp] condK_true condK_false condK_not wpc_skip wpc_ret wpc_exit wpc_seq wpc_reg wpc_regD testA_bool wpc_cond wpc_block thenA_normal thenA_ret thenA_exit blockA_normal blockA_ret blockA_exit blockA_other endA_normal endA_ret ev_tmp' ev_const ev_func ev_global cv_int cv_bool cv_string cv_pointer cv_slice cv_agg cv_map put_some put_none wH_s setE_apply setE_env less_eq env_cons env_nil upd_upd upd_apply del_apply startA_eq cells_ag cells_sl one_sl cells_vs one_vs cells_ep one_ep cells_fn one_fn cells_int one_int cells_bool one_bool cells_string one_string cells_pointer one_pointer cells_slice one_slice cells_map one_map cells_agg resK_one resK_nil resK_two rvK_t rvK_c rvsK_nil rvsK_cons iseq_nil iseq_cons gdA_true gdA_false gdA_undef istep_free istep_guard istepV_free istepV_guard dseq_nil dseq_pu dseq_rd dseq_ef wpc_regT dtree_nil dtree_pu dtree_rd dtree_ef dtree_br chkAll_nil chkAll_cons andK_true pickK_true pickK_false pickK_tb pickK_fb bin2K_pl eqbK_eq eqbK_ne eqpK_eq eqpK_ne eqmK_eq eqmK_ne eqzK_eq eqzK_ne eqzK_sl eqzK_vs un1K_pl convK_int fillK_some fillA_cons fillA_nil cellsK_some needK_true needK_ok seeK_ep seeK_ptr oneK_agg oneK_one nilcK_ptr nilcK_ep fadrK_ptr fadrK_ep fldK_ag iadAK_ptr iadAK_ep iadSK_sl iadSK_vs extK_0 extK_1 extK_2 extK_3 lenK_pl lenK_sl lenK_vs lensK_pl boxK_some minmax1K_int storeK_ptr callvK_fn callvK_pl newsK_nil newsK_vs newsK_sl appK_nil appK_nil0 appK_sl appK_vs bnd1K_int bndK_none bndK_some slsK_vs slsK_nil slsK_sl0 slsK_sl slstrK_pl boolK_some eqsK_ag iop_eqs iop_sls iop_slstr seesK_some seesK_ro mapsK_some MAP_some findK_some findK_none plK_pl nmapK_none nmapK_some iop_mlook iop_mlen iop_mmk iop_mupd iop_mdel iop_mrng itK_none itK_some ptr0K_ptr iop_mnxt iop_ment it1K_some entK_some iop_mov iop_pick iop_bin iop_eqb iop_eqp iop_eqm iop_eqz iop_un capK_pl capK_sl capK_vs iop_cap iop_b2s b2sK_nil b2sK_sl b2sK_vs strK_some iop_idxv idxvK_ag atK_some apzK_nil iop_apz mksK_int iop_mks clrK_sl clrK_vs clrK_nil iop_clr iop_conv iop_build iop_load iop_nilc iop_fadr iop_fld iop_iadA iop_iadS iop_ext iop_mkf iop_len iop_lens iop_minmax iop_al iop_box iop_bsl iop_store iop_call iop_callv iop_app BIN_add BIN_sub BIN_mul BIN_and BIN_or BIN_xor BIN_andNot BIN_eql BIN_neq BIN_lss BIN_leq BIN_gtr BIN_geq BIN_quo BIN_rem BIN_shl BIN_shr BIN_sadd BIN_seql BIN_sneq BIN_slss BIN_sleq BIN_sgtr BIN_sgeq UN_neg UN_xor UN_not MM_nil MM_cons partsA argsA ptrA lessL eqL min2I slotN_int slotP_int slotI_int

theorem follows : Tryz.prog.follows .mixedOrders = true := by kernel_rfl

def okc (n : Int) : Bool := decide (-16384 ≤ n) && decide (n ≤ 16384)
theorem c92 (n : Int) : PC Tryz.prog 92 [vi n] (vb (okc n)) := by
  intro H K hk
  refine call_c follows cf92_ok (by simp) ?_
  simp
  by_cases h : -16384 ≤ n
  · simp [h]
    have := hk H (.refl _)
    simpa [okc, h] using this
  · simp [h]
    have := hk H (.refl _)
    simpa [okc, h] using this
def okt (n : Int) : Bool := decide (0 ≤ n) && decide (n < 8)
def nrm (n : Int) : Int := if okt n then n else 0
end Go.Proofs.YtkjkolacnpknoaaGreat
end

/-! The size of a transformed image; valid, empty, canonical rectangles; the checks of lengths. Conditions: as each lemma states them. -/
section
namespace Go.Proofs.YtkjkolacnpknoaaGreat
open Go Go.Ab Go.RowKit
set_option linter.unusedSimpArgs false
set_option linter.unusedVariables false
set_option linter.unnecessarySimpa false

attribute [local simp] condK_true condK_false condK_not wpc_skip wpc_ret wpc_exit wpc_seq wpc_reg wpc_regD testA_bool wpc_cond wpc_block thenA_normal thenA_ret thenA_exit blockA_normal blockA_ret blockA_exit blockA_other endA_normal endA_ret ev_tmp' ev_const ev_func ev_global cv_int cv_bool cv_string cv_pointer cv_slice cv_agg cv_map put_some put_none wH_s setE_apply setE_env less_eq env_cons env_nil upd_upd upd_apply del_apply startA_eq cells_ag cells_sl one_sl cells_vs one_vs cells_ep one_ep cells_fn one_fn cells_int one_int cells_bool one_bool cells_string one_string cells_pointer one_pointer cells_slice one_slice cells_map one_map cells_agg resK_one resK_nil resK_two rvK_t rvK_c rvsK_nil rvsK_cons iseq_nil iseq_cons gdA_true gdA_false gdA_undef istep_free istep_guard istepV_free istepV_guard dseq_nil dseq_pu dseq_rd dseq_ef wpc_regT dtree_nil dtree_pu dtree_rd dtree_ef dtree_br chkAll_nil chkAll_cons andK_true pickK_true pickK_false pickK_tb pickK_fb bin2K_pl eqbK_eq eqbK_ne eqpK_eq eqpK_ne eqmK_eq eqmK_ne eqzK_eq eqzK_ne eqzK_sl eqzK_vs un1K_pl convK_int fillK_some fillA_cons fillA_nil cellsK_some needK_true needK_ok seeK_ep seeK_ptr oneK_agg oneK_one nilcK_ptr nilcK_ep fadrK_ptr fadrK_ep fldK_ag iadAK_ptr iadAK_ep iadSK_sl iadSK_vs extK_0 extK_1 extK_2 extK_3 lenK_pl lenK_sl lenK_vs lensK_pl boxK_some minmax1K_int storeK_ptr callvK_fn callvK_pl newsK_nil newsK_vs newsK_sl appK_nil appK_nil0 appK_sl appK_vs bnd1K_int bndK_none bndK_some slsK_vs slsK_nil slsK_sl0 slsK_sl slstrK_pl boolK_some eqsK_ag iop_eqs iop_sls iop_slstr seesK_some seesK_ro mapsK_some MAP_some findK_some findK_none plK_pl nmapK_none nmapK_some iop_mlook iop_mlen iop_mmk iop_mupd iop_mdel iop_mrng itK_none itK_some ptr0K_ptr iop_mnxt iop_ment it1K_some entK_some iop_mov iop_pick iop_bin iop_eqb iop_eqp iop_eqm iop_eqz iop_un capK_pl capK_sl capK_vs iop_cap iop_b2s b2sK_nil b2sK_sl b2sK_vs strK_some iop_idxv idxvK_ag atK_some apzK_nil iop_apz mksK_int iop_mks clrK_sl clrK_vs clrK_nil iop_clr iop_conv iop_build iop_load iop_nilc iop_fadr iop_fld iop_iadA iop_iadS iop_ext iop_mkf iop_len iop_lens iop_minmax iop_al iop_box iop_bsl iop_store iop_call iop_callv iop_app BIN_add BIN_sub BIN_mul BIN_and BIN_or BIN_xor BIN_andNot BIN_eql BIN_neq BIN_lss BIN_leq BIN_gtr BIN_geq BIN_quo BIN_rem BIN_shl BIN_shr BIN_sadd BIN_seql BIN_sneq BIN_slss BIN_sleq BIN_sgtr BIN_sgeq UN_neg UN_xor UN_not MM_nil MM_cons partsA argsA ptrA lessL eqL min2I slotN_int slotP_int slotI_int

def odd (t : Int) : Bool := decide ((nrm t).tmod 2 = 1)
def swp (t w h : Int) : Int × Int := if odd t then (h, w) else (w, h)
structure R where
  x0 : Int
  y0 : Int
  x1 : Int
  y1 : Int
def rc (r : R) : List AV := [vi r.x0, vi r.y0, vi r.x1, vi r.y1]
def rvalid (r : R) : Bool := okc r.x0 && okc r.y0 && okc r.x1 && okc r.y1
theorem c85 (r : R) : PC Tryz.prog 85 [.ag (rc r)] (vb (rvalid r)) := by
  intro H K hk
  refine call_c follows cf85_ok (by simp) ?_
  simp [rc]
  refine newK_of fun p hp => ?_
  simp
  refine c92 _ _ _ fun H1 h1 => ?_
  have g0 : Ext H H1 := ((Ext.refl H).upd hp).trans h1
  have g1 := h1.at (b := p) (by simp; rfl)
  unfold rvalid at hk
  cases e0 : okc r.x0 with
  | false => 
    simp [e0] at hk ⊢
    exact hk _ g0
  | true =>
    simp [e0, g1] at hk ⊢
    refine c92 _ _ _ fun H2 h2 => ?_
    cases e1 : okc r.y0 with
    | false =>
      simp [e1] at hk ⊢
      exact hk _ (g0.trans h2)
    | true =>
      simp [e1, h2.at g1] at hk ⊢
      refine c92 _ _ _ fun H3 h3 => ?_
      cases e2 : okc r.x1 with
      | false =>
        simp [e2] at hk ⊢
        exact hk _ ((g0.trans h2).trans h3)
      | true =>
        simp [e2, h3.at (h2.at g1)] at hk ⊢
        refine c92 _ _ _ fun H4 h4 => ?_
        simp
        exact hk _ (((g0.trans h2).trans h3).trans h4)

def lenok (n k : Int) : Bool := decide (1 ≤ n) && decide (n ≤ 256) && decide (n.tmod k = 0)
end Go.Proofs.YtkjkolacnpknoaaGreat
end

/-! Rectangles: empty, canonical, the common part, the area; one within another. Conditions: as each lemma states them. -/
section
namespace Go.Proofs.YtkjkolacnpknoaaGreat
open Go Go.Ab Go.RowKit
set_option linter.unusedSimpArgs false
set_option linter.unusedVariables false
set_option linter.unnecessarySimpa false

attribute [local simp] condK_true condK_false condK_not wpc_skip wpc_ret wpc_exit wpc_seq wpc_reg wpc_regD testA_bool wpc_cond wpc_block thenA_normal thenA_ret thenA_exit blockA_normal blockA_ret blockA_exit blockA_other endA_normal endA_ret ev_tmp' ev_const ev_func ev_global cv_int cv_bool cv_string cv_pointer cv_slice cv_agg cv_map put_some put_none wH_s setE_apply setE_env less_eq env_cons env_nil upd_upd upd_apply del_apply startA_eq cells_ag cells_sl one_sl cells_vs one_vs cells_ep one_ep cells_fn one_fn cells_int one_int cells_bool one_bool cells_string one_string cells_pointer one_pointer cells_slice one_slice cells_map one_map cells_agg resK_one resK_nil resK_two rvK_t rvK_c rvsK_nil rvsK_cons iseq_nil iseq_cons gdA_true gdA_false gdA_undef istep_free istep_guard istepV_free istepV_guard dseq_nil dseq_pu dseq_rd dseq_ef wpc_regT dtree_nil dtree_pu dtree_rd dtree_ef dtree_br chkAll_nil chkAll_cons andK_true pickK_true pickK_false pickK_tb pickK_fb bin2K_pl eqbK_eq eqbK_ne eqpK_eq eqpK_ne eqmK_eq eqmK_ne eqzK_eq eqzK_ne eqzK_sl eqzK_vs un1K_pl convK_int fillK_some fillA_cons fillA_nil cellsK_some needK_true needK_ok seeK_ep seeK_ptr oneK_agg oneK_one nilcK_ptr nilcK_ep fadrK_ptr fadrK_ep fldK_ag iadAK_ptr iadAK_ep iadSK_sl iadSK_vs extK_0 extK_1 extK_2 extK_3 lenK_pl lenK_sl lenK_vs lensK_pl boxK_some minmax1K_int storeK_ptr callvK_fn callvK_pl newsK_nil newsK_vs newsK_sl appK_nil appK_nil0 appK_sl appK_vs bnd1K_int bndK_none bndK_some slsK_vs slsK_nil slsK_sl0 slsK_sl slstrK_pl boolK_some eqsK_ag iop_eqs iop_sls iop_slstr seesK_some seesK_ro mapsK_some MAP_some findK_some findK_none plK_pl nmapK_none nmapK_some iop_mlook iop_mlen iop_mmk iop_mupd iop_mdel iop_mrng itK_none itK_some ptr0K_ptr iop_mnxt iop_ment it1K_some entK_some iop_mov iop_pick iop_bin iop_eqb iop_eqp iop_eqm iop_eqz iop_un capK_pl capK_sl capK_vs iop_cap iop_b2s b2sK_nil b2sK_sl b2sK_vs strK_some iop_idxv idxvK_ag atK_some apzK_nil iop_apz mksK_int iop_mks clrK_sl clrK_vs clrK_nil iop_clr iop_conv iop_build iop_load iop_nilc iop_fadr iop_fld iop_iadA iop_iadS iop_ext iop_mkf iop_len iop_lens iop_minmax iop_al iop_box iop_bsl iop_store iop_call iop_callv iop_app BIN_add BIN_sub BIN_mul BIN_and BIN_or BIN_xor BIN_andNot BIN_eql BIN_neq BIN_lss BIN_leq BIN_gtr BIN_geq BIN_quo BIN_rem BIN_shl BIN_shr BIN_sadd BIN_seql BIN_sneq BIN_slss BIN_sleq BIN_sgtr BIN_sgeq UN_neg UN_xor UN_not MM_nil MM_cons partsA argsA ptrA lessL eqL min2I slotN_int slotP_int slotI_int

theorem rc_len (r : R) : (rc r).length = 4 := rfl
theorem rc_t4 (r : R) : (rc r).take 4 = rc r := rfl
theorem rc_t1 (r : R) : (rc r).take 1 = [vi r.x0] := rfl
theorem rc_t2 (r : R) : (rc r).take 2 = [vi r.x0, vi r.y0] := rfl
theorem rc_t3 (r : R) : (rc r).take 3 = [vi r.x0, vi r.y0, vi r.x1] := rfl
theorem rc_d1 (r : R) : (rc r).tail = [vi r.y0, vi r.x1, vi r.y1] := rfl
theorem rc_d2 (r : R) : (rc r).drop 2 = [vi r.x1, vi r.y1] := rfl
theorem rc_d3 (r : R) : (rc r).drop 3 = [vi r.y1] := rfl
theorem rc_d4 (r : R) : (rc r).drop 4 = [] := rfl
theorem rc_ag (a b c d : Int) : AV.ag [vi a, vi b, vi c, vi d] = .ag (rc ⟨a, b, c, d⟩) := rfl
theorem rc_one (r : R) : (rc r).all AV.one = true := rfl
theorem rc_inj (a b : R) : rc a = rc b ↔ a = b := by cases a; cases b; simp [rc]
def req (a b : R) : Bool := a.x0 == b.x0 && (a.y0 == b.y0 && (a.x1 == b.x1 && a.y1 == b.y1))
theorem rc_eq (a b : R) : eqL [1, 1, 1, 1] (rc a) (rc b) = some (req a b) := by simp [rc, eqL, req]
theorem req_iff (a b : R) : req a b = true ↔ a = b := by cases a; cases b; simp [req]
attribute [local simp] rc_len rc_t4 rc_t1 rc_t2 rc_t3 rc_d1 rc_d2 rc_d3 rc_d4 rc_ag rc_one rc_eq
theorem min2_t (a b : Int) : (if a < b then b else a) = max a b := by omega
theorem min2_f (a b : Int) : (if b < a then b else a) = min a b := by omega
attribute [local simp] min2_t min2_f

def rempty (r : R) : Bool := !rvalid r || decide (r.x1 ≤ r.x0) || decide (r.y1 ≤ r.y0)
theorem c75 (r : R) : PC Tryz.prog 75 [.ag (rc r)] (vb (rempty r)) := by
  refine .tell fun H => ?_
  refine call_c follows cf75_ok (by simp) ?_
  repeat' (first | simp [*] | (with_reducible (refine newK_of fun _ h_ => ?_); have hn_ := free_ne h_; (try simp only [upd_none', ne_eq] at h_)) | (with_reducible (refine condK_of (fun h_ => ?_) (fun h_ => ?_))) | with_reducible (refine (c85 ..).ac ?_))
  all_goals ((try with_reducible refine And.intro ?_ ?_) <;> (try (repeat' (first | with_reducible exact Sub.refl _ | with_reducible refine Sub.of_upd (by simp [*]) ?_))))
  all_goals (simp_all [rempty] <;> omega)
def rcan (r : R) : R := if rempty r then ⟨0, 0, 0, 0⟩ else r
theorem c63 (r : R) : PC Tryz.prog 63 [.ag (rc r)] (.ag (rc (rcan r))) := by
  refine .tell fun H => ?_
  refine call_c follows cf63_ok (by simp) ?_
  repeat' (first | simp [*] | (with_reducible (refine newK_of fun _ h_ => ?_); have hn_ := free_ne h_; (try simp only [upd_none', ne_eq] at h_)) | (with_reducible (refine condK_of (fun h_ => ?_) (fun h_ => ?_))) | with_reducible (refine (c75 ..).ac ?_))
  all_goals ((try with_reducible refine And.intro ?_ ?_) <;> (try (repeat' (first | with_reducible exact Sub.refl _ | with_reducible refine Sub.of_upd (by simp [*]) ?_))))
  all_goals (simp_all [rcan] <;> omega)
def rcap (a b : R) : R := if rempty a || rempty b then ⟨0, 0, 0, 0⟩ else rcan ⟨max a.x0 b.x0, max a.y0 b.y0, min a.x1 b.x1, min a.y1 b.y1⟩
theorem c64 (a b : R) : PC Tryz.prog 64 [.ag (rc a), .ag (rc b)] (.ag (rc (rcap a b))) := by
  refine .tell fun H => ?_
  refine call_c follows cf64_ok (by simp) ?_
  repeat' (first | simp [*] | (with_reducible (refine newK_of fun _ h_ => ?_); have hn_ := free_ne h_; (try simp only [upd_none', ne_eq] at h_)) | (with_reducible (refine condK_of (fun h_ => ?_) (fun h_ => ?_))) | with_reducible (refine (c75 ..).ac ?_) | with_reducible (refine (c63 ..).ac ?_))
  all_goals ((try with_reducible refine And.intro ?_ ?_) <;> (try (repeat' (first | with_reducible exact Sub.refl _ | with_reducible refine Sub.of_upd (by simp [*]) ?_))))
  all_goals (simp_all [rcap] <;> omega)

theorem rempty_ok (r : R) (h : rempty r = false) : -16384 ≤ r.x0 ∧ r.x0 < r.x1 ∧ r.x1 ≤ 16384 ∧ -16384 ≤ r.y0 ∧ r.y0 < r.y1 ∧ r.y1 ≤ 16384 := by
  simp [rempty, rvalid, okc] at h; omega
theorem rempty_of (r : R) (h : -16384 ≤ r.x0 ∧ r.x0 < r.x1 ∧ r.x1 ≤ 16384 ∧ -16384 ≤ r.y0 ∧ r.y0 < r.y1 ∧ r.y1 ≤ 16384) : rempty r = false := by
  simp [rempty, rvalid, okc]; omega
theorem rempty_iff (r : R) : rempty r = false ↔ -16384 ≤ r.x0 ∧ r.x0 < r.x1 ∧ r.x1 ≤ 16384 ∧ -16384 ≤ r.y0 ∧ r.y0 < r.y1 ∧ r.y1 ≤ 16384 := ⟨rempty_ok r, rempty_of r⟩
theorem rempty_zero : rempty ⟨0, 0, 0, 0⟩ = true := by decide
theorem rcan_rng (r : R) : -16384 ≤ (rcan r).x0 ∧ (rcan r).x0 ≤ 16384 ∧ -16384 ≤ (rcan r).x1 ∧ (rcan r).x1 ≤ 16384 ∧ -16384 ≤ (rcan r).y0 ∧ (rcan r).y0 ≤ 16384 ∧ -16384 ≤ (rcan r).y1 ∧ (rcan r).y1 ≤ 16384 := by
  unfold rcan
  cases h : rempty r with
  | true => simp
  | false => have := rempty_ok r h; simp; omega
end Go.Proofs.YtkjkolacnpknoaaGreat
end

/-! Runs of columns, in plain words: canonical lists of runs, their points, and that the points tell the list. No program in sight; conditions: as each lemma states them. -/
section
namespace Go.Proofs.YtkjkolacnpknoaaGreat
open Go Go.Ab Go.RowKit
set_option linter.unusedSimpArgs false
set_option linter.unusedVariables false
set_option linter.unnecessarySimpa false


abbrev Rn := Int × Int
def InR (rs : List Rn) (x : Int) : Prop := ∃ r ∈ rs, r.1 ≤ x ∧ x < r.2
/-- Runs that are not empty, in order, and do not touch. -/
def Can (rs : List Rn) : Prop := (∀ r ∈ rs, r.1 < r.2) ∧ rs.Pairwise fun a b => a.2 < b.1
theorem Can.nil : Can [] := ⟨by simp, .nil⟩
theorem Can.cons {r : Rn} {rs : List Rn} : Can (r :: rs) ↔ r.1 < r.2 ∧ (∀ s ∈ rs, r.2 < s.1) ∧ Can rs := by
  constructor
  · rintro ⟨h1, h2⟩
    obtain ⟨h3, h4⟩ := List.pairwise_cons.1 h2
    exact ⟨h1 r (by simp), h3, fun s hs => h1 s (by simp [hs]), h4⟩
  · rintro ⟨h1, h2, h3, h4⟩
    refine ⟨fun s hs => ?_, List.pairwise_cons.2 ⟨h2, h4⟩⟩
    rcases List.mem_cons.1 hs with rfl | hs
    · exact h1
    · exact h3 s hs
theorem can_app {a b : List Rn} : Can (a ++ b) ↔ Can a ∧ Can b ∧ ∀ r ∈ a, ∀ s ∈ b, r.2 < s.1 := by
  unfold Can
  rw [List.pairwise_append]
  constructor
  · rintro ⟨h1, h2, h3, h4⟩
    exact ⟨⟨fun r hr => h1 r (by simp [hr]), h2⟩, ⟨fun r hr => h1 r (by simp [hr]), h3⟩, h4⟩
  · rintro ⟨⟨h1, h2⟩, ⟨h3, h4⟩, h5⟩
    exact ⟨fun r hr => (List.mem_append.1 hr).elim (h1 r) (h3 r), h2, h4, h5⟩
theorem can_one {r : Rn} : Can [r] ↔ r.1 < r.2 := by rw [Can.cons]; simp [Can.nil]
theorem InR.cons {r : Rn} {rs : List Rn} {x : Int} : InR (r :: rs) x ↔ (r.1 ≤ x ∧ x < r.2) ∨ InR rs x := by simp [InR]
theorem inR_app {a b : List Rn} {x : Int} : InR (a ++ b) x ↔ InR a x ∨ InR b x := by
  simp only [InR, List.mem_append]
  constructor
  · rintro ⟨r, h | h, h2⟩
    · exact .inl ⟨r, h, h2⟩
    · exact .inr ⟨r, h, h2⟩
  · rintro (⟨r, h, h2⟩ | ⟨r, h, h2⟩)
    · exact ⟨r, .inl h, h2⟩
    · exact ⟨r, .inr h, h2⟩
theorem inR_nil {x : Int} : ¬ InR [] x := by simp [InR]
theorem Can.le_head {r : Rn} {rs : List Rn} (h : Can (r :: rs)) {s : Rn} (hs : s ∈ r :: rs) : r.1 ≤ s.1 := by
  obtain ⟨h1, h2, _⟩ := Can.cons.1 h
  rcases List.mem_cons.1 hs with rfl | hs
  · exact Int.le_refl _
  · have := h2 s hs; omega
theorem can_uniq : ∀ {a b : List Rn}, Can a → Can b → (∀ x, InR a x ↔ InR b x) → a = b
  | [], [], _, _, _ => rfl
  | [], s :: b, _, hb, h => by
    have h1 := (Can.cons.1 hb).1
    exact absurd ((h s.1).2 (InR.cons.2 (.inl ⟨by omega, h1⟩))) inR_nil
  | r :: a, [], ha, _, h => by
    have h1 := (Can.cons.1 ha).1
    exact absurd ((h r.1).1 (InR.cons.2 (.inl ⟨by omega, h1⟩))) inR_nil
  | r :: a, s :: b, ha, hb, h => by
    obtain ⟨h1, h2, h3⟩ := Can.cons.1 ha
    obtain ⟨g1, g2, g3⟩ := Can.cons.1 hb
    have e1 : r.1 = s.1 := by
      obtain ⟨t, ht, h4, _⟩ := (h r.1).1 (InR.cons.2 (.inl ⟨by omega, h1⟩))
      obtain ⟨u, hu, h5, _⟩ := (h s.1).2 (InR.cons.2 (.inl ⟨by omega, g1⟩))
      have := hb.le_head ht
      have := ha.le_head hu
      omega
    have e2 : r.2 = s.2 := by
      rcases Int.lt_trichotomy r.2 s.2 with h4 | h4 | h4
      · obtain ⟨t, ht, h5, h6⟩ := (h r.2).2 (InR.cons.2 (.inl ⟨by omega, h4⟩))
        rcases List.mem_cons.1 ht with rfl | ht
        · omega
        · have := h2 t ht; omega
      · exact h4
      · obtain ⟨t, ht, h5, h6⟩ := (h s.2).1 (InR.cons.2 (.inl ⟨by omega, h4⟩))
        rcases List.mem_cons.1 ht with rfl | ht
        · omega
        · have := g2 t ht; omega
    have e : r = s := Prod.ext e1 e2
    subst e
    rw [can_uniq h3 g3 fun x => ?_]
    constructor
    · intro hx
      rcases InR.cons.1 ((h x).1 (InR.cons.2 (.inr hx))) with h5 | h5
      · obtain ⟨t, ht, h6, _⟩ := hx
        have := h2 t ht; omega
      · exact h5
    · intro hx
      rcases InR.cons.1 ((h x).2 (InR.cons.2 (.inr hx))) with h5 | h5
      · obtain ⟨t, ht, h6, _⟩ := hx
        have := g2 t ht; omega
      · exact h5

/-! ### Merging runs in order of their beginnings -/
def mstep (out : List Rn) (r : Rn) : List Rn := match out.getLast? with
  | some l => if r.1 ≤ l.2 then out.dropLast ++ [(l.1, max l.2 r.2)] else out ++ [r]
  | none => [r]
theorem mstep_nil (r : Rn) : mstep [] r = [r] := rfl
theorem mstep_in {o : List Rn} {l r : Rn} (h : r.1 ≤ l.2) : mstep (o ++ [l]) r = o ++ [(l.1, max l.2 r.2)] := by simp [mstep, h]
theorem mstep_out {o : List Rn} {l r : Rn} (h : ¬ r.1 ≤ l.2) : mstep (o ++ [l]) r = o ++ [l] ++ [r] := by simp [mstep, h]
theorem list_snoc {α : Type} (l : List α) : l = [] ∨ ∃ o x, l = o ++ [x] := by
  rcases List.eq_nil_or_concat l with h | ⟨o, x, h⟩
  · exact .inl h
  · exact .inr ⟨o, x, by simpa using h⟩
theorem mstep_can {o : List Rn} {r : Rn} (h : Can o) (hr : r.1 < r.2) (hs : ∀ l ∈ o, l.1 ≤ r.1) : Can (mstep o r) ∧ (∀ x, InR (mstep o r) x ↔ InR o x ∨ (r.1 ≤ x ∧ x < r.2)) ∧ ∀ l ∈ mstep o r, l.1 ≤ r.1 := by
  rcases list_snoc o with rfl | ⟨o, l, rfl⟩
  · rw [mstep_nil]
    exact ⟨can_one.2 hr, fun x => by simp [InR], by simp⟩
  · obtain ⟨h1, h2, h3⟩ := can_app.1 h
    rw [can_one] at h2
    have hl := hs l (by simp)
    by_cases c : r.1 ≤ l.2
    · rw [mstep_in c]
      refine ⟨can_app.2 ⟨h1, can_one.2 (by simp only; omega), fun a ha b hb => ?_⟩, fun x => ?_, fun a ha => ?_⟩
      · rw [List.mem_singleton.1 hb]; exact h3 a ha l (by simp)
      · rw [inR_app, inR_app, InR.cons, InR.cons]
        simp only [inR_nil, or_false]
        constructor
        · rintro (h4 | h4)
          · exact .inl (.inl h4)
          · by_cases h5 : x < l.2
            · exact .inl (.inr ⟨h4.1, h5⟩)
            · exact .inr ⟨by omega, by omega⟩
        · rintro ((h4 | h4) | h4)
          · exact .inl h4
          · exact .inr ⟨h4.1, by omega⟩
          · exact .inr ⟨by omega, by omega⟩
      · rcases List.mem_append.1 ha with ha | ha
        · exact hs a (by simp [ha])
        · rw [List.mem_singleton.1 ha]; exact hl
    · rw [mstep_out c]
      refine ⟨can_app.2 ⟨h, can_one.2 hr, fun a ha b hb => ?_⟩, fun x => ?_, fun a ha => ?_⟩
      · rw [List.mem_singleton.1 hb]
        rcases List.mem_append.1 ha with ha | ha
        · have := h3 a ha l (by simp); omega
        · rw [List.mem_singleton.1 ha]; omega
      · rw [inR_app, InR.cons]; simp [inR_nil]
      · rcases List.mem_append.1 ha with ha | ha
        · exact hs a ha
        · rw [List.mem_singleton.1 ha]; exact Int.le_refl _
theorem merge_can : ∀ (l o : List Rn), Can o → (∀ r ∈ l, r.1 < r.2) → l.Pairwise (fun a b => a.1 ≤ b.1) → (∀ a ∈ o, ∀ r ∈ l, a.1 ≤ r.1) → Can (l.foldl mstep o) ∧ ∀ x, InR (l.foldl mstep o) x ↔ InR o x ∨ InR l x
  | [], o, h, _, _, _ => ⟨h, fun x => by simp [inR_nil]⟩
  | r :: l, o, h, h1, h2, h3 => by
    obtain ⟨h4, h5⟩ := List.pairwise_cons.1 h2
    obtain ⟨g1, g2, g3⟩ := mstep_can (r := r) h (h1 r (by simp)) fun a ha => h3 a ha r (by simp)
    obtain ⟨k1, k2⟩ := merge_can l (mstep o r) g1 (fun s hs => h1 s (by simp [hs])) h5 fun a ha s hs => Int.le_trans (g3 a ha) (h4 s hs)
    refine ⟨k1, fun x => ?_⟩
    rw [List.foldl_cons, k2, g2, InR.cons, or_assoc]

/-! ### Adding a run -/
def astep (s : List Rn × List Rn × Int × Int) (r : Rn) : List Rn × List Rn × Int × Int :=
  if r.2 < s.2.2.1 then (s.1 ++ [r], s.2.1, s.2.2.1, s.2.2.2) else if s.2.2.2 < r.1 then (s.1, s.2.1 ++ [r], s.2.2.1, s.2.2.2) else (s.1, s.2.1, min s.2.2.1 r.1, max s.2.2.2 r.2)
def addF (rs : List Rn) (x0 x1 : Int) : List Rn := let s := rs.foldl astep ([], [], x0, x1); s.1 ++ [(s.2.2.1, s.2.2.2)] ++ s.2.1
structure AInv (s : List Rn × List Rn × Int × Int) (p : List Rn) (x0 x1 : Int) : Prop where
  lt : s.2.2.1 < s.2.2.2
  low : Can s.1
  high : Can s.2.1
  l : ∀ r ∈ s.1, r.2 < s.2.2.1
  h : ∀ r ∈ s.2.1, s.2.2.2 < r.1
  lp : ∀ r ∈ s.1, r ∈ p
  hp : ∀ r ∈ s.2.1, r ∈ p
  pts : ∀ x, (InR s.1 x ∨ (s.2.2.1 ≤ x ∧ x < s.2.2.2) ∨ InR s.2.1 x) ↔ (InR p x ∨ (x0 ≤ x ∧ x < x1))
  a : s.2.2.1 = x0 ∨ ∃ r ∈ p, s.2.2.1 ≤ r.1 ∧ s.2.2.1 < r.2
theorem astep_inv {s : List Rn × List Rn × Int × Int} {p : List Rn} {x0 x1 : Int} {r : Rn} (h : AInv s p x0 x1) (hc : Can (p ++ [r])) : AInv (astep s r) (p ++ [r]) x0 x1 := by
  obtain ⟨c1, c2, c3⟩ := can_app.1 hc
  rw [can_one] at c2
  have c4 : ∀ t ∈ p, t.1 < t.2 ∧ t.2 < r.1 := fun t ht => ⟨c1.1 t ht, c3 t ht r (by simp)⟩
  obtain ⟨low, high, a, b⟩ := s
  obtain ⟨q1, q2, q3, q4, q5, q6, q7, q8, q9⟩ := h
  simp only at q1 q2 q3 q4 q5 q6 q7 q8 q9
  have pts' : ∀ x, InR (p ++ [r]) x ↔ InR p x ∨ (r.1 ≤ x ∧ x < r.2) := fun x => by rw [inR_app, InR.cons]; simp [inR_nil]
  unfold astep
  simp only
  by_cases e1 : r.2 < a
  · rw [if_pos e1]
    refine ⟨q1, can_app.2 ⟨q2, can_one.2 c2, fun t ht u hu => ?_⟩, q3, fun t ht => ?_, q5, fun t ht => ?_, fun t ht => List.mem_append_left _ (q7 t ht), fun x => ?_, ?_⟩
    · rw [List.mem_singleton.1 hu]; exact (c4 t (q6 t ht)).2
    · rcases List.mem_append.1 ht with ht | ht
      · exact q4 t ht
      · rw [List.mem_singleton.1 ht]; exact e1
    · rcases List.mem_append.1 ht with ht | ht
      · exact List.mem_append_left _ (q6 t ht)
      · exact List.mem_append_right _ ht
    · have := q8 x
      rw [pts', inR_app, InR.cons]
      simp only [inR_nil, or_false]
      constructor
      · rintro ((g | g) | g)
        · exact (this.1 (.inl g)).elim (fun k => .inl (.inl k)) .inr
        · exact .inl (.inr g)
        · exact (this.1 (.inr g)).elim (fun k => .inl (.inl k)) .inr
      · rintro ((g | g) | g)
        · exact (this.2 (.inl g)).elim (fun k => .inl (.inl k)) .inr
        · exact .inl (.inr g)
        · exact (this.2 (.inr g)).elim (fun k => .inl (.inl k)) .inr
    · rcases q9 with g | ⟨t, ht, g⟩
      · exact .inl g
      · exact .inr ⟨t, List.mem_append_left _ ht, g⟩
  · rw [if_neg e1]
    by_cases e2 : b < r.1
    · rw [if_pos e2]
      refine ⟨q1, q2, can_app.2 ⟨q3, can_one.2 c2, fun t ht u hu => ?_⟩, q4, fun t ht => ?_, fun t ht => List.mem_append_left _ (q6 t ht), fun t ht => ?_, fun x => ?_, ?_⟩
      · rw [List.mem_singleton.1 hu]; exact (c4 t (q7 t ht)).2
      · rcases List.mem_append.1 ht with ht | ht
        · exact q5 t ht
        · rw [List.mem_singleton.1 ht]; exact e2
      · rcases List.mem_append.1 ht with ht | ht
        · exact List.mem_append_left _ (q7 t ht)
        · exact List.mem_append_right _ ht
      · have := q8 x
        rw [pts', inR_app, InR.cons]
        simp only [inR_nil, or_false]
        constructor
        · rintro (g | g | g | g)
          · exact (this.1 (.inl g)).elim (fun k => .inl (.inl k)) .inr
          · exact (this.1 (.inr (.inl g))).elim (fun k => .inl (.inl k)) .inr
          · exact (this.1 (.inr (.inr g))).elim (fun k => .inl (.inl k)) .inr
          · exact .inl (.inr g)
        · rintro ((g | g) | g)
          · rcases this.2 (.inl g) with k | k | k
            · exact .inl k
            · exact .inr (.inl k)
            · exact .inr (.inr (.inl k))
          · exact .inr (.inr (.inr g))
          · rcases this.2 (.inr g) with k | k | k
            · exact .inl k
            · exact .inr (.inl k)
            · exact .inr (.inr (.inl k))
      · rcases q9 with g | ⟨t, ht, g⟩
        · exact .inl g
        · exact .inr ⟨t, List.mem_append_left _ ht, g⟩
    · rw [if_neg e2]
      have hh : high = [] := by
        cases high with
        | nil => rfl
        | cons t u =>
          have h1 := q5 t (by simp)
          have h2 := c4 t (q7 t (by simp))
          omega
      subst hh
      refine ⟨by simp only; omega, q2, q3, fun t ht => ?_, fun t ht => by simp at ht, fun t ht => List.mem_append_left _ (q6 t ht), fun t ht => by simp at ht, fun x => ?_, .inr ⟨r, by simp, by simp only; omega, by simp only; omega⟩⟩
      · have h1 := q4 t ht
        have h2 := (c4 t (q6 t ht)).2
        simp only; omega
      · have := q8 x
        rw [pts']
        simp only [inR_nil, or_false] at this ⊢
        constructor
        · rintro (g | g)
          · exact (this.1 (.inl g)).elim (fun k => .inl (.inl k)) .inr
          · by_cases g2 : a ≤ x ∧ x < b
            · exact (this.1 (.inr g2)).elim (fun k => .inl (.inl k)) .inr
            · exact .inl (.inr (by omega))
        · rintro ((g | g) | g)
          · exact (this.2 (.inl g)).elim .inl fun k => .inr (by omega)
          · exact .inr (by omega)
          · exact (this.2 (.inr g)).elim .inl fun k => .inr (by omega)
theorem afold_inv : ∀ (l : List Rn) {s : List Rn × List Rn × Int × Int} {p : List Rn} {x0 x1 : Int}, AInv s p x0 x1 → Can (p ++ l) → AInv (l.foldl astep s) (p ++ l) x0 x1
  | [], s, p, x0, x1, h, _ => by simpa using h
  | r :: l, s, p, x0, x1, h, hc => by
    have e : p ++ r :: l = (p ++ [r]) ++ l := by simp
    rw [e] at hc ⊢
    exact afold_inv l (astep_inv h (can_app.1 hc).1) hc
theorem add_can {rs : List Rn} {x0 x1 : Int} (h : Can rs) (hx : x0 < x1) : Can (addF rs x0 x1) ∧ ∀ x, InR (addF rs x0 x1) x ↔ InR rs x ∨ (x0 ≤ x ∧ x < x1) := by
  have h0 : AInv ([], [], x0, x1) [] x0 x1 := ⟨hx, Can.nil, Can.nil, by simp, by simp, by simp, by simp, fun x => by simp [inR_nil], .inl rfl⟩
  have hI := afold_inv rs h0 (by simpa using h)
  rw [List.nil_append] at hI
  unfold addF
  generalize rs.foldl astep ([], [], x0, x1) = s at hI ⊢
  obtain ⟨low, high, a, b⟩ := s
  obtain ⟨q1, q2, q3, q4, q5, q6, q7, q8, q9⟩ := hI
  simp only at q1 q2 q3 q4 q5 q6 q7 q8 ⊢
  refine ⟨can_app.2 ⟨can_app.2 ⟨q2, can_one.2 q1, fun t ht u hu => ?_⟩, q3, fun t ht u hu => ?_⟩, fun x => ?_⟩
  · rw [List.mem_singleton.1 hu]; exact q4 t ht
  · have h1 := q5 u hu
    rcases List.mem_append.1 ht with ht | ht
    · have h2 := q4 t ht; omega
    · rw [List.mem_singleton.1 ht]; exact h1
  · rw [inR_app, inR_app, InR.cons, ← q8]
    simp only [inR_nil, or_false, or_assoc]
theorem addfold_can : ∀ (l o : List Rn), Can o → (∀ r ∈ l, r.1 < r.2) → Can (l.foldl (fun acc r => addF acc r.1 r.2) o) ∧ ∀ x, InR (l.foldl (fun acc r => addF acc r.1 r.2) o) x ↔ InR o x ∨ InR l x
  | [], o, h, _ => ⟨h, fun x => by simp [inR_nil]⟩
  | r :: l, o, h, h1 => by
    obtain ⟨g1, g2⟩ := add_can h (h1 r (by simp))
    obtain ⟨k1, k2⟩ := addfold_can l _ g1 fun s hs => h1 s (by simp [hs])
    refine ⟨k1, fun x => ?_⟩
    rw [List.foldl_cons, k2, g2, InR.cons, or_assoc]
def sumF (l : List Rn) : List Rn := l.foldl (fun acc r => addF acc r.1 r.2) []
theorem sumF_can {l : List Rn} (h : ∀ r ∈ l, r.1 < r.2) : Can (sumF l) := (addfold_can l [] Can.nil h).1
theorem sumF_in {l : List Rn} (h : ∀ r ∈ l, r.1 < r.2) (x : Int) : InR (sumF l) x ↔ InR l x := by
  have := (addfold_can l [] Can.nil h).2 x
  simp only [inR_nil, false_or] at this
  exact this
/-- However the runs were put in order, merging gives the same. -/
theorem merge_eq {l d : List Rn} (h : ∀ r ∈ l, r.1 < r.2) (hp : d.Perm l) (hs : d.Pairwise fun a b => a.1 ≤ b.1) : d.foldl mstep [] = sumF l := by
  have hd : ∀ r ∈ d, r.1 < r.2 := fun r hr => h r (hp.mem_iff.1 hr)
  obtain ⟨k1, k2⟩ := merge_can d [] Can.nil hd hs (by simp)
  refine can_uniq k1 (sumF_can h) fun x => ?_
  rw [k2, sumF_in h]
  have e : ¬ InR [] x := inR_nil
  simp only [e, false_or]
  exact ⟨fun ⟨r, hr, h2⟩ => ⟨r, hp.mem_iff.1 hr, h2⟩, fun ⟨r, hr, h2⟩ => ⟨r, hp.mem_iff.2 hr, h2⟩⟩

/-! ### Pieces between cuts -/
def cstep (keep : Int → Bool) (out : List Rn) (c : Rn) : List Rn := if keep c.1 = true then (match out.getLast? with
  | some l => if l.2 = c.1 then out.dropLast ++ [(l.1, c.2)] else out ++ [c]
  | none => [c]) else out
theorem cstep_no {keep : Int → Bool} {o : List Rn} {c : Rn} (h : keep c.1 = false) : cstep keep o c = o := by simp [cstep, h]
theorem cstep_nil {keep : Int → Bool} {c : Rn} (h : keep c.1 = true) : cstep keep [] c = [c] := by simp [cstep, h]
theorem cstep_in {keep : Int → Bool} {o : List Rn} {l c : Rn} (h : keep c.1 = true) (h2 : l.2 = c.1) : cstep keep (o ++ [l]) c = o ++ [(l.1, c.2)] := by simp [cstep, h, h2]
theorem cstep_out {keep : Int → Bool} {o : List Rn} {l c : Rn} (h : keep c.1 = true) (h2 : l.2 ≠ c.1) : cstep keep (o ++ [l]) c = o ++ [l] ++ [c] := by simp [cstep, h, h2]
theorem cstep_can {keep : Int → Bool} {o : List Rn} {c : Rn} (h : Can o) (hc : c.1 < c.2) (hs : ∀ l ∈ o, l.2 ≤ c.1) : Can (cstep keep o c) ∧ (∀ x, InR (cstep keep o c) x ↔ InR o x ∨ (keep c.1 = true ∧ c.1 ≤ x ∧ x < c.2)) ∧ ∀ l ∈ cstep keep o c, l.2 ≤ c.2 := by
  cases hk : keep c.1 with
  | false =>
    rw [cstep_no hk]
    exact ⟨h, fun x => by simp, fun l hl => by have := hs l hl; omega⟩
  | true =>
    rcases list_snoc o with rfl | ⟨o, l, rfl⟩
    · rw [cstep_nil hk]
      exact ⟨can_one.2 hc, fun x => by simp [InR], by simp⟩
    · obtain ⟨h1, h2, h3⟩ := can_app.1 h
      rw [can_one] at h2
      have hl := hs l (by simp)
      by_cases e : l.2 = c.1
      · rw [cstep_in hk e]
        refine ⟨can_app.2 ⟨h1, can_one.2 (by simp only; omega), fun a ha b hb => ?_⟩, fun x => ?_, fun a ha => ?_⟩
        · rw [List.mem_singleton.1 hb]; exact h3 a ha l (by simp)
        · rw [inR_app, inR_app, InR.cons, InR.cons]
          simp only [inR_nil, or_false, true_and]
          constructor
          · rintro (g | g)
            · exact .inl (.inl g)
            · by_cases g2 : x < l.2
              · exact .inl (.inr ⟨g.1, g2⟩)
              · exact .inr ⟨by omega, g.2⟩
          · rintro ((g | g) | g)
            · exact .inl g
            · exact .inr ⟨g.1, by omega⟩
            · exact .inr ⟨by omega, g.2⟩
        · rcases List.mem_append.1 ha with ha | ha
          · have := hs a (by simp [ha]); omega
          · rw [List.mem_singleton.1 ha]; exact Int.le_refl _
      · rw [cstep_out hk e]
        refine ⟨can_app.2 ⟨h, can_one.2 hc, fun a ha b hb => ?_⟩, fun x => ?_, fun a ha => ?_⟩
        · rw [List.mem_singleton.1 hb]
          rcases List.mem_append.1 ha with ha | ha
          · have := h3 a ha l (by simp); omega
          · rw [List.mem_singleton.1 ha]; omega
        · rw [inR_app, InR.cons]; simp [inR_nil]
        · rcases List.mem_append.1 ha with ha | ha
          · have := hs a ha; omega
          · rw [List.mem_singleton.1 ha]; exact Int.le_refl _
/-- The pieces of a rising list of cuts. -/
def pairs : List Int → List Rn
  | a :: b :: l => (a, b) :: pairs (b :: l)
  | _ => []
theorem pairs_lt : ∀ (l : List Int), l.Pairwise (· < ·) → (∀ p ∈ pairs l, p.1 < p.2) ∧ (pairs l).Pairwise fun a b => a.2 ≤ b.1
  | [], _ => by simp [pairs]
  | [a], _ => by simp [pairs]
  | a :: b :: l, h => by
    obtain ⟨h1, h2⟩ := List.pairwise_cons.1 h
    obtain ⟨k1, k2⟩ := pairs_lt (b :: l) h2
    have hb : ∀ p ∈ pairs (b :: l), b ≤ p.1 := by
      have : ∀ (l : List Int) (b : Int), (b :: l).Pairwise (· < ·) → ∀ p ∈ pairs (b :: l), b ≤ p.1 := by
        intro l
        induction l with
        | nil => intro b _ p hp; simp [pairs] at hp
        | cons c l ih =>
          intro b h p hp
          obtain ⟨h3, h4⟩ := List.pairwise_cons.1 h
          simp only [pairs, List.mem_cons] at hp
          rcases hp with rfl | hp
          · exact Int.le_refl _
          · have := ih c h4 p hp
            have := h3 c (by simp)
            omega
      exact this l b h2
    refine ⟨fun p hp => ?_, ?_⟩
    · simp only [pairs, List.mem_cons] at hp
      rcases hp with rfl | hp
      · exact h1 b (by simp)
      · exact k1 p hp
    · simp only [pairs]
      exact List.pairwise_cons.2 ⟨fun p hp => hb p hp, k2⟩
theorem cfold_can (keep : Int → Bool) : ∀ (l : List Rn) (o : List Rn), Can o → (∀ p ∈ l, p.1 < p.2) → l.Pairwise (fun a b => a.2 ≤ b.1) → (∀ a ∈ o, ∀ p ∈ l, a.2 ≤ p.1) →
    Can (l.foldl (cstep keep) o) ∧ ∀ x, InR (l.foldl (cstep keep) o) x ↔ InR o x ∨ InR (l.filter fun p => keep p.1) x
  | [], o, h, _, _, _ => ⟨h, fun x => by simp [inR_nil]⟩
  | c :: l, o, h, h1, h2, h3 => by
    obtain ⟨h4, h5⟩ := List.pairwise_cons.1 h2
    obtain ⟨g1, g2, g3⟩ := cstep_can (keep := keep) (c := c) h (h1 c (by simp)) fun a ha => h3 a ha c (by simp)
    obtain ⟨k1, k2⟩ := cfold_can keep l _ g1 (fun s hs => h1 s (by simp [hs])) h5 fun a ha s hs => Int.le_trans (g3 a ha) (h4 s hs)
    refine ⟨k1, fun x => ?_⟩
    rw [List.foldl_cons, k2, g2, List.filter_cons]
    cases hk : keep c.1 with
    | true => simp [InR.cons, or_assoc]
    | false => simp
/-- The pieces that are kept, added one after another. -/
def keptF (keep : Int → Bool) (xs : List Int) : List Rn := sumF ((pairs xs).filter fun p => keep p.1)
theorem kept_eq {keep : Int → Bool} {xs : List Int} (h : xs.Pairwise (· < ·)) : (pairs xs).foldl (cstep keep) [] = keptF keep xs := by
  obtain ⟨h1, h2⟩ := pairs_lt xs h
  obtain ⟨k1, k2⟩ := cfold_can keep (pairs xs) [] Can.nil h1 h2 (by simp)
  have h3 : ∀ r ∈ (pairs xs).filter fun p => keep p.1, r.1 < r.2 := fun r hr => h1 r (List.mem_filter.1 hr).1
  refine can_uniq k1 (sumF_can h3) fun x => ?_
  rw [k2, keptF, sumF_in h3]
  have e : ¬ InR [] x := inR_nil
  simp only [e, false_or]
theorem kept_can {keep : Int → Bool} {xs : List Int} (h : xs.Pairwise (· < ·)) : Can (keptF keep xs) := sumF_can fun r hr => (pairs_lt xs h).1 r (List.mem_filter.1 hr).1
/-- The sum of pieces, piece by piece: what the reference does. -/
theorem kept_fold (keep : Int → Bool) (l : List Rn) : sumF (l.filter fun p => keep p.1) = l.foldl (fun acc p => if keep p.1 = true then addF acc p.1 p.2 else acc) [] := by
  unfold sumF
  generalize ([] : List Rn) = o
  induction l generalizing o with
  | nil => rfl
  | cons c l ih =>
    rw [List.filter_cons]
    cases hk : keep c.1 with
    | true => simp only [if_true, List.foldl_cons, hk]; exact ih _
    | false => simp only [Bool.false_eq_true, if_false, List.foldl_cons, hk]; exact ih _
end Go.Proofs.YtkjkolacnpknoaaGreat
end

/-! Regions of the program, walked: clean, edges, covers. Conditions: as each lemma states them. -/
section
namespace Go.Proofs.YtkjkolacnpknoaaGreat
open Go Go.Ab Go.RowKit
set_option linter.unusedSimpArgs false
set_option linter.unusedVariables false
set_option linter.unnecessarySimpa false

attribute [local simp] condK_true condK_false condK_not wpc_skip wpc_ret wpc_exit wpc_seq wpc_reg wpc_regD testA_bool wpc_cond wpc_block thenA_normal thenA_ret thenA_exit blockA_normal blockA_ret blockA_exit blockA_other endA_normal endA_ret ev_tmp' ev_const ev_func ev_global cv_int cv_bool cv_string cv_pointer cv_slice cv_agg cv_map put_some put_none wH_s setE_apply setE_env less_eq env_cons env_nil upd_upd upd_apply del_apply startA_eq cells_ag cells_sl one_sl cells_vs one_vs cells_ep one_ep cells_fn one_fn cells_int one_int cells_bool one_bool cells_string one_string cells_pointer one_pointer cells_slice one_slice cells_map one_map cells_agg resK_one resK_nil resK_two rvK_t rvK_c rvsK_nil rvsK_cons iseq_nil iseq_cons gdA_true gdA_false gdA_undef istep_free istep_guard istepV_free istepV_guard dseq_nil dseq_pu dseq_rd dseq_ef wpc_regT dtree_nil dtree_pu dtree_rd dtree_ef dtree_br chkAll_nil chkAll_cons andK_true pickK_true pickK_false pickK_tb pickK_fb bin2K_pl eqbK_eq eqbK_ne eqpK_eq eqpK_ne eqmK_eq eqmK_ne eqzK_eq eqzK_ne eqzK_sl eqzK_vs un1K_pl convK_int fillK_some fillA_cons fillA_nil cellsK_some needK_true needK_ok seeK_ep seeK_ptr oneK_agg oneK_one nilcK_ptr nilcK_ep fadrK_ptr fadrK_ep fldK_ag iadAK_ptr iadAK_ep iadSK_sl iadSK_vs extK_0 extK_1 extK_2 extK_3 lenK_pl lenK_sl lenK_vs lensK_pl boxK_some minmax1K_int storeK_ptr callvK_fn callvK_pl newsK_nil newsK_vs newsK_sl appK_nil appK_nil0 appK_sl appK_vs bnd1K_int bndK_none bndK_some slsK_vs slsK_nil slsK_sl0 slsK_sl slstrK_pl boolK_some eqsK_ag iop_eqs iop_sls iop_slstr seesK_some seesK_ro mapsK_some MAP_some findK_some findK_none plK_pl nmapK_none nmapK_some iop_mlook iop_mlen iop_mmk iop_mupd iop_mdel iop_mrng itK_none itK_some ptr0K_ptr iop_mnxt iop_ment it1K_some entK_some iop_mov iop_pick iop_bin iop_eqb iop_eqp iop_eqm iop_eqz iop_un capK_pl capK_sl capK_vs iop_cap iop_b2s b2sK_nil b2sK_sl b2sK_vs strK_some iop_idxv idxvK_ag atK_some apzK_nil iop_apz mksK_int iop_mks clrK_sl clrK_vs clrK_nil iop_clr iop_conv iop_build iop_load iop_nilc iop_fadr iop_fld iop_iadA iop_iadS iop_ext iop_mkf iop_len iop_lens iop_minmax iop_al iop_box iop_bsl iop_store iop_call iop_callv iop_app BIN_add BIN_sub BIN_mul BIN_and BIN_or BIN_xor BIN_andNot BIN_eql BIN_neq BIN_lss BIN_leq BIN_gtr BIN_geq BIN_quo BIN_rem BIN_shl BIN_shr BIN_sadd BIN_seql BIN_sneq BIN_slss BIN_sleq BIN_sgtr BIN_sgeq UN_neg UN_xor UN_not MM_nil MM_cons partsA argsA ptrA lessL eqL min2I slotN_int slotP_int slotI_int
attribute [local simp] rc_len rc_t4 rc_t1 rc_t2 rc_t3 rc_d1 rc_d2 rc_d3 rc_d4 rc_ag rc_one rc_eq

def cl (l : List R) : List R := l.filter fun r => !rempty r
theorem cl_len (l : List R) : (cl l).length ≤ l.length := List.length_filter_le _ _
theorem cl_push (l : List R) (r : R) : cl (l ++ [r]) = if rempty r = true then cl l else cl l ++ [r] := by
  unfold cl
  rw [List.filter_append]
  cases h : rempty r <;> simp [h]
theorem rc_l (r : R) : (rc r).length = 4 := rfl
abbrev Rr (H : AH) (a : AV) (l : List R) : Prop := Rw H a (flat rc l) l.length 4
theorem take_snoc' {α : Type} {l : List α} {i : Nat} (h : i < l.length) : l.take (i + 1) = l.take i ++ [l[i]] := by rw [List.take_succ_eq_append_getElem h]
theorem c70 {H : AH} {K : AV → AH → Prop} {a : AV} {l : List R} (ha : Rr H a l) (hl : l.length ≤ 1000000) (hk : ∀ out H', Row H H' out (flat rc (cl l)) (cl l).length 4 → K out H') : @AC Tryz.prog 70 [a] H ⟨K⟩ := by
  have la := fun k => Rw.lenK ha (k := k)
  refine AC_of (.forget ?_)
  refine call_c follows cf70_ok (by simp) ?_
  simp [la]
  refine wpc_loop (fun s => ∃ (i : Nat) (out : AV), s.n = 21 ∧ s.t 6 = a ∧ s.t 7 = vi l.length ∧ s.t 3 = out ∧ s.t 8 = vi i ∧ i ≤ l.length ∧ Row H s.H out (flat rc (cl (l.take i))) (cl (l.take i)).length 4) (fun s => l.length - slotN (s.t 8)) ?_ ?_
  · exact FgK.same ⟨0, vnil, by simp, by simp, by simp, by simp, by simp, by omega, by simpa [cl, flat_nil] using Row.nil H 4⟩
  rintro s ⟨i, out, hn, e6, e7, e3, e8, hi, hro⟩
  generalize hHeq : s.H = Hs at *
  have hlen := cl_len (l.take i)
  have htk : (l.take i).length ≤ i := by simp; omega
  by_cases hlt : i < l.length
  · have wr := IntWalk.i64_in ((i : Int) + 1) (by omega)
    obtain ⟨p, hp1, hp2⟩ := fsee rc_l (ha.sub hro.sub) hlt
    have et := take_snoc' hlt
    have hcp := cl_push (l.take i) l[i]
    rw [← et] at hcp
    generalize l[i] = x at *
    simp (disch := omega) [hn, hHeq, e6, e7, e3, e8, hlt, hp1, hp2 _ (Sub.refl _)]
    refine newK_of fun y hy => ?_
    have hSy0 : Sub Hs (upd Hs y (.cells [vi 0, vi 0, vi 0, vi 0])) := (Sub.refl Hs).upd hy
    have hSy : Sub Hs (upd Hs y (.cells (rc x))) := (Sub.refl Hs).upd hy
    simp [hp2 _ hSy0]
    refine (c75 _).ac ?_
    cases h : rempty x with
    | true =>
      rw [h, if_pos rfl] at hcp
      simp (disch := omega) [wr]
      refine FgK.of Hs hSy ⟨⟨i + 1, out, by simp, by simp [e6], by simp [e7], by simp, by simp, by omega, ?_⟩, by simp [e8]; omega⟩
      rw [hcp]; exact hro
    | false =>
      rw [h, if_neg (by simp)] at hcp
      simp
      refine newK_of fun q hq => ?_
      have hS2 : Sub Hs (upd (upd Hs y (.cells (rc x))) q (.cells (rc x))) := hSy.trans ((Sub.refl _).upd hq)
      generalize hx4 : AV.sl q 0 1 4 true = x4
      have hnw : ∀ k : Nat → List AV → Prop, @NEWS (upd (upd Hs y (.cells (rc x))) q (.cells (rc x))) x4 4 ⟨k⟩ = k 1 (rc x) := by intro k; rw [← hx4]; simp
      simp [hnw]
      refine hro.app hS2 (by decide) (by simp) (flat_len rc_l _) (by omega) fun r H' hr hsr => ?_
      simp (disch := omega) [wr]
      refine FgK.of _ hsr ⟨⟨i + 1, .sl r 0 ((cl (l.take i)).length + 1) 4 false, by simp, by simp [e6], by simp [e7], by simp, by simp, by omega, ?_⟩, by simp [e8]; omega⟩
      rw [hcp, List.length_append]
      have := Row.mk (cs := flat rc (cl (l.take i) ++ [x])) (n := (cl (l.take i)).length + 1) (sz := 4) hr
      rw [← flat_snoc] at this ⊢
      exact this
  · rw [List.take_of_length_le (by omega)] at hro
    simp (disch := omega) [hn, hHeq, e6, e7, e3, e8, hlt]
    exact ⟨Hs, Sub.refl _, hk _ _ hro⟩

/-! ### The edges: the keys of a map, sorted -/
def insI (k : Int) : List Int → List Int
  | [] => [k]
  | x :: l => if k < x then k :: x :: l else if k = x then x :: l else x :: insI k l
theorem mem_insI {k y : Int} : ∀ {l : List Int}, y ∈ insI k l ↔ y = k ∨ y ∈ l
  | [] => by simp [insI]
  | x :: l => by
    have ih := mem_insI (k := k) (y := y) (l := l)
    unfold insI
    split
    · simp
    · split
      · rename_i h; subst h; simp
      · simp only [List.mem_cons, ih]
        constructor <;> (rintro (h | h | h) <;> simp [h])
theorem insI_rising {k : Int} : ∀ {l : List Int}, l.Pairwise (· < ·) → (insI k l).Pairwise (· < ·)
  | [], _ => by simp [insI]
  | x :: l, h => by
    obtain ⟨h1, h2⟩ := List.pairwise_cons.1 h
    have ih := insI_rising (k := k) h2
    unfold insI
    split
    · rename_i h3
      refine List.pairwise_cons.2 ⟨fun y hy => ?_, h⟩
      rcases List.mem_cons.1 hy with rfl | hy
      · exact h3
      · have := h1 y hy; omega
    · split
      · exact h
      · refine List.pairwise_cons.2 ⟨fun y hy => ?_, ih⟩
        rcases mem_insI.1 hy with rfl | hy
        · omega
        · exact h1 y hy
theorem insI_len {k : Int} : ∀ {l : List Int}, (insI k l).length ≤ l.length + 1
  | [] => by simp [insI]
  | x :: l => by
    have ih := insI_len (k := k) (l := l)
    unfold insI
    split
    · simp
    · split <;> simp <;> omega
/-- The rows at which rectangles begin or end. -/
def ysF (l : List R) : List Int := l.foldl (fun ys r => insI r.y1 (insI r.y0 ys)) []
theorem ysFold (l : List R) : ∀ ys : List Int, ys.Pairwise (· < ·) → (l.foldl (fun ys r => insI r.y1 (insI r.y0 ys)) ys).Pairwise (· < ·) ∧ (∀ y, y ∈ l.foldl (fun ys r => insI r.y1 (insI r.y0 ys)) ys ↔ y ∈ ys ∨ ∃ r ∈ l, y = r.y0 ∨ y = r.y1) ∧ (l.foldl (fun ys r => insI r.y1 (insI r.y0 ys)) ys).length ≤ ys.length + 2 * l.length := by
  induction l with
  | nil => intro ys h; exact ⟨h, by simp, by simp⟩
  | cons r l ih =>
    intro ys h
    obtain ⟨h1, h2, h3⟩ := ih _ (insI_rising (k := r.y1) (insI_rising (k := r.y0) h))
    refine ⟨h1, fun y => ?_, ?_⟩
    · rw [List.foldl_cons, h2, mem_insI, mem_insI]
      constructor
      · rintro ((g | g | g) | ⟨t, ht, g⟩)
        · exact .inr ⟨r, by simp, .inr g⟩
        · exact .inr ⟨r, by simp, .inl g⟩
        · exact .inl g
        · exact .inr ⟨t, by simp [ht], g⟩
      · rintro (g | ⟨t, ht, g⟩)
        · exact .inl (.inr (.inr g))
        · rcases List.mem_cons.1 ht with rfl | ht
          · rcases g with g | g
            · exact .inl (.inr (.inl g))
            · exact .inl (.inl g)
          · exact .inr ⟨t, ht, g⟩
    · have g1 := insI_len (k := r.y1) (l := insI r.y0 ys)
      have g2 := insI_len (k := r.y0) (l := ys)
      rw [List.foldl_cons, List.length_cons]
      omega
theorem ysF_rising (l : List R) : (ysF l).Pairwise (· < ·) := (ysFold l [] .nil).1
theorem mem_ysF {l : List R} {y : Int} : y ∈ ysF l ↔ ∃ r ∈ l, y = r.y0 ∨ y = r.y1 := by
  have := (ysFold l [] .nil).2.1 y
  simpa [ysF] using this
theorem ysF_len (l : List R) : (ysF l).length ≤ 2 * l.length := by
  have := (ysFold l [] .nil).2.2
  simpa [ysF] using this
abbrev mE (es : List (Int × Int)) : List (Value × AV) := mI (fun e : Int × Int => e.1) (fun e => vi e.2) es
/-- A map with these keys. -/
structure MK (es : List (Int × Int)) (st : List Nat) (cl : Nat) (A : Int → Prop) : Prop where
  stp : Stp st cl es.length
  nd : (es.map fun e => e.1).Nodup
  mem : ∀ y, y ∈ es.map (fun e => e.1) ↔ A y
theorem MK.put {es : List (Int × Int)} {st : List Nat} {cl : Nat} {A : Int → Prop} (h : MK es st cl A) (y : Int) : (mfind 1 (.int .i64 y) (mE es) 0 = some none ∧ ∀ v, MK (es ++ [(y, v)]) (st ++ [cl]) (cl + 1) (fun z => A z ∨ z = y)) ∨
    (∃ j v0 m1 m2, es = m1 ++ (y, v0) :: m2 ∧ j = m1.length ∧ mfind 1 (.int .i64 y) (mE es) 0 = some (some (j, vi v0)) ∧ ∀ v, MK (m1 ++ (y, v) :: m2) st cl (fun z => A z ∨ z = y)) := by
  rcases split_key (fun e : Int × Int => e.1) y es with h1 | ⟨m1, e, m2, rfl, h1, h2⟩
  · refine .inl ⟨mfind_none es 0 h1, fun v => ⟨by simpa using h.stp.push, ?_, fun z => ?_⟩⟩
    · rw [List.map_append, List.nodup_append]
      refine ⟨h.nd, by simp, fun a ha b hb e => ?_⟩
      simp only [List.map_cons, List.map_nil, List.mem_singleton] at hb
      obtain ⟨x, hx, rfl⟩ := List.mem_map.1 ha
      exact h1 x hx (e.trans hb)
    · rw [List.map_append, List.mem_append, h.mem]
      simp
  · obtain ⟨ek, ev⟩ := e
    simp only at h2
    subst h2
    refine .inr ⟨m1.length, ev, m1, m2, rfl, rfl, ?_, fun v => ⟨?_, ?_, fun z => ?_⟩⟩
    · have := mfind_some (key := fun e : Int × Int => e.1) (val := fun e => vi e.2) (s := ek) (e := (ek, ev)) (m2 := m2) m1 0 h1 rfl
      simpa using this
    · have := h.stp; simpa using this
    · have := h.nd; simpa using this
    · have := h.mem z
      have h3 := h.mem ek
      simp only [List.map_append, List.map_cons, List.mem_append, List.mem_cons] at this h3 ⊢
      constructor
      · intro g; exact .inl (this.1 g)
      · rintro (g | g)
        · exact this.2 g
        · subst g; exact .inr (.inl rfl)
theorem MK.sorted {es : List (Int × Int)} {st : List Nat} {cl : Nat} {l : List R} (h : MK es st cl (fun y => ∃ r ∈ l, y = r.y0 ∨ y = r.y1)) {d : List Int} (hp : d.Perm (es.map fun e => e.1)) : (d.mergeSort fun x y => decide (x ≤ y)) = ysF l :=
  rising_eq _ _ (sort_rising (hp.nodup_iff.2 h.nd)) (ysF_rising l) fun y => by rw [sort_mem, hp.mem_iff, h.mem, mem_ysF]
end Go.Proofs.YtkjkolacnpknoaaGreat
end

/-! Regions of the program, walked: the edges of two lists; whether a run covers a column. Conditions: as each lemma states them. -/
section
namespace Go.Proofs.YtkjkolacnpknoaaGreat
open Go Go.Ab Go.RowKit
set_option linter.unusedSimpArgs false
set_option linter.unusedVariables false
set_option linter.unnecessarySimpa false

attribute [local simp] condK_true condK_false condK_not wpc_skip wpc_ret wpc_exit wpc_seq wpc_reg wpc_regD testA_bool wpc_cond wpc_block thenA_normal thenA_ret thenA_exit blockA_normal blockA_ret blockA_exit blockA_other endA_normal endA_ret ev_tmp' ev_const ev_func ev_global cv_int cv_bool cv_string cv_pointer cv_slice cv_agg cv_map put_some put_none wH_s setE_apply setE_env less_eq env_cons env_nil upd_upd upd_apply del_apply startA_eq cells_ag cells_sl one_sl cells_vs one_vs cells_ep one_ep cells_fn one_fn cells_int one_int cells_bool one_bool cells_string one_string cells_pointer one_pointer cells_slice one_slice cells_map one_map cells_agg resK_one resK_nil resK_two rvK_t rvK_c rvsK_nil rvsK_cons iseq_nil iseq_cons gdA_true gdA_false gdA_undef istep_free istep_guard istepV_free istepV_guard dseq_nil dseq_pu dseq_rd dseq_ef wpc_regT dtree_nil dtree_pu dtree_rd dtree_ef dtree_br chkAll_nil chkAll_cons andK_true pickK_true pickK_false pickK_tb pickK_fb bin2K_pl eqbK_eq eqbK_ne eqpK_eq eqpK_ne eqmK_eq eqmK_ne eqzK_eq eqzK_ne eqzK_sl eqzK_vs un1K_pl convK_int fillK_some fillA_cons fillA_nil cellsK_some needK_true needK_ok seeK_ep seeK_ptr oneK_agg oneK_one nilcK_ptr nilcK_ep fadrK_ptr fadrK_ep fldK_ag iadAK_ptr iadAK_ep iadSK_sl iadSK_vs extK_0 extK_1 extK_2 extK_3 lenK_pl lenK_sl lenK_vs lensK_pl boxK_some minmax1K_int storeK_ptr callvK_fn callvK_pl newsK_nil newsK_vs newsK_sl appK_nil appK_nil0 appK_sl appK_vs bnd1K_int bndK_none bndK_some slsK_vs slsK_nil slsK_sl0 slsK_sl slstrK_pl boolK_some eqsK_ag iop_eqs iop_sls iop_slstr seesK_some seesK_ro mapsK_some MAP_some findK_some findK_none plK_pl nmapK_none nmapK_some iop_mlook iop_mlen iop_mmk iop_mupd iop_mdel iop_mrng itK_none itK_some ptr0K_ptr iop_mnxt iop_ment it1K_some entK_some iop_mov iop_pick iop_bin iop_eqb iop_eqp iop_eqm iop_eqz iop_un capK_pl capK_sl capK_vs iop_cap iop_b2s b2sK_nil b2sK_sl b2sK_vs strK_some iop_idxv idxvK_ag atK_some apzK_nil iop_apz mksK_int iop_mks clrK_sl clrK_vs clrK_nil iop_clr iop_conv iop_build iop_load iop_nilc iop_fadr iop_fld iop_iadA iop_iadS iop_ext iop_mkf iop_len iop_lens iop_minmax iop_al iop_box iop_bsl iop_store iop_call iop_callv iop_app BIN_add BIN_sub BIN_mul BIN_and BIN_or BIN_xor BIN_andNot BIN_eql BIN_neq BIN_lss BIN_leq BIN_gtr BIN_geq BIN_quo BIN_rem BIN_shl BIN_shr BIN_sadd BIN_seql BIN_sneq BIN_slss BIN_sleq BIN_sgtr BIN_sgeq UN_neg UN_xor UN_not MM_nil MM_cons partsA argsA ptrA lessL eqL min2I slotN_int slotP_int slotI_int
attribute [local simp] rc_len rc_t4 rc_t1 rc_t2 rc_t3 rc_d1 rc_d2 rc_d3 rc_d4 rc_ag rc_one rc_eq

theorem upd_samek {H : AH} {m : Nat} {a b : AO} : upd (upd H m a) m b = upd H m b := upd_upd
theorem MK.cong {es : List (Int × Int)} {st : List Nat} {cl : Nat} {A A' : Int → Prop} (h : MK es st cl A) (hA : ∀ y, A y ↔ A' y) : MK es st cl A' := ⟨h.stp, h.nd, fun y => (h.mem y).trans (hA y)⟩
theorem mE_push (es : List (Int × Int)) (y v : Int) : mE es ++ [(.int .i64 y, vi v)] = mE (es ++ [(y, v)]) := by simp [mI]
theorem mE_set (m1 m2 : List (Int × Int)) (y v v0 : Int) : (mE (m1 ++ (y, v0) :: m2)).set m1.length (.int .i64 y, vi v) = mE (m1 ++ (y, v) :: m2) := by simp [mI]
theorem c71 {H : AH} {K : AV → AH → Prop} {t a b : AV} {la lb : List R} (ht : Rw H t [a, b] 2 1) (ha : Rr H a la) (hb : Rr H b lb) (hla : la.length ≤ 100000) (hlb : lb.length ≤ 100000)
    (hk : ∀ out H', Row H H' out ((ysF (la ++ lb)).map vi) (ysF (la ++ lb)).length 1 → K out H') : @AC Tryz.prog 71 [t] H ⟨K⟩ := by
  have lt := fun k => ht.lenK (k := k)
  have oa := Rw.one ha
  have ob := Rw.one hb
  have lla := fun k => Rw.lenK ha (k := k)
  have llb := fun k => Rw.lenK hb (k := k)
  refine AC_of (.forget ?_)
  refine call_c follows cf71_ok (by simp) ?_
  simp
  refine newK_of fun m hm => ?_
  simp [lt]
  have m0 : MK [] [] 0 (fun y => ∃ r ∈ ([] : List R), y = r.y0 ∨ y = r.y1) := ⟨Stp.nil, .nil, fun y => by simp⟩
  refine wpc_loop (fun s => ∃ (j : Nat) (es : List (Int × Int)) (st : List Nat) (cl : Nat), s.n = 48 ∧ s.H = upd H m (.map (mE es) st cl) ∧ s.t 3 = .pl (.map (some m)) ∧ s.t 11 = t ∧ s.t 12 = vi 2 ∧ s.t 13 = vi j ∧ j ≤ 2 ∧
    MK es st cl (fun y => ∃ r ∈ (if j = 0 then [] else if j = 1 then la else la ++ lb), y = r.y0 ∨ y = r.y1)) (fun s => 2 - slotN (s.t 13)) ?_ ?_
  · exact FgK.same ⟨0, [], [], 0, by simp, by simp [mI], by simp, by simp, by simp, by simp, by omega, m0.cong fun y => by simp⟩
  rintro s ⟨j, es, st, cl, hn, hH, e3, e11, e12, e13, hj, hmk⟩
  by_cases hj2 : j < 2
  · have wrj := IntWalk.i64_in ((j : Int) + 1) (by omega)
    -- the list that is next
    obtain ⟨c, lc, pre, hcj, hc, hcl, hpre, hpost⟩ : ∃ (c : AV) (lc pre : List R), [a, b][j]? = some c ∧ Rr H c lc ∧ lc.length ≤ 100000 ∧ (if j = 0 then [] else if j = 1 then la else la ++ lb) = pre ∧ (if j + 1 = 0 then [] else if j + 1 = 1 then la else la ++ lb) = pre ++ lc := by
      rcases (show j = 0 ∨ j = 1 by omega) with rfl | rfl
      · exact ⟨a, la, [], rfl, ha, hla, by simp, by simp⟩
      · exact ⟨b, lb, la, rfl, hb, hlb, by simp, by simp⟩
    rw [hpre] at hmk
    have hSm : Sub H (upd H m (.map (mE es) st cl)) := (Sub.refl H).upd hm
    obtain ⟨p, hp1, hp2⟩ := Rw.see ht hj2
    have hp3 : ∀ H', Sub H H' → ∀ k : List AV → Prop, @SEE H' p 1 ⟨k⟩ = k [c] := by
      intro H' hs k
      rw [hp2 H' hs, Nat.mul_one]
      rcases (show j = 0 ∨ j = 1 by omega) with rfl | rfl
      · simp at hcj ⊢; rw [hcj]
      · simp at hcj ⊢; rw [hcj]
    have lc' := fun k => Rw.lenK hc (k := k)
    have hj2' : (j : Int) < 2 := by omega
    simp (disch := omega) [hn, hH, e3, e11, e12, e13, hj2', hp1, hp3 _ hSm, lc']
    refine wpc_loop (fun s' => ∃ (i : Nat) (es : List (Int × Int)) (st : List Nat) (cl : Nat), s'.n = 48 ∧ s'.H = upd H m (.map (mE es) st cl) ∧ s'.t 3 = .pl (.map (some m)) ∧ s'.t 11 = t ∧ s'.t 12 = vi 2 ∧ s'.t 13 = vi j ∧ s'.t 17 = c ∧ s'.t 18 = vi lc.length ∧ s'.t 19 = vi i ∧ i ≤ lc.length ∧
      MK es st cl (fun y => ∃ r ∈ pre ++ lc.take i, y = r.y0 ∨ y = r.y1)) (fun s' => lc.length - slotN (s'.t 19)) ?_ ?_
    · refine FgK.same ⟨0, es, st, cl, by simp, by simp, by simp, by simp, by simp, by simp, by simp, by simp, by simp, by omega, by simpa using hmk⟩
    rintro s' ⟨i, es', st', cl', gn, gH, g3, g11, g12, g13, g17, g18, g19, hi, gmk⟩
    by_cases hlt : i < lc.length
    · have wr := IntWalk.i64_in ((i : Int) + 1) (by omega)
      have hSm' : Sub H (upd H m (.map (mE es') st' cl')) := (Sub.refl H).upd hm
      obtain ⟨q, hq1, hq2⟩ := fsee rc_l (hc.sub hSm') hlt
      have et := take_snoc' hlt
      generalize lc[i] = x at *
      simp (disch := omega) [gn, gH, g3, g11, g12, g13, g17, g18, g19, hlt, hq1, hq2 _ (Sub.refl _)]
      refine newK_of fun y hy => ?_
      have nym := free_ne hy m (by simp)
      have hSy0 : Sub (upd H m (.map (mE es') st' cl')) (upd (upd H m (.map (mE es') st' cl')) y (.cells [vi 0, vi 0, vi 0, vi 0])) := (Sub.refl _).upd hy
      simp [hq2 _ hSy0, nym]
      have hyH := upd_none'.1 hy
      have fin : ∀ (es3 : List (Int × Int)) (st3 : List Nat) (cl3 : Nat), Sub (upd H m (.map (mE es3) st3 cl3)) (upd (upd (upd H m (.map (mE es') st' cl')) y (.cells (rc x))) m (.map (mE es3) st3 cl3)) := by
        intro es3 st3 cl3 j' o hj'
        simp only [upd_apply] at hj' ⊢
        by_cases q1 : j' = m
        · rw [if_pos q1] at hj' ⊢; exact hj'
        · rw [if_neg q1] at hj' ⊢
          have q2 : j' ≠ y := by rintro rfl; rw [hyH.2.2] at hj'; cases hj'
          rw [if_neg q2, if_neg q1]; exact hj'
      have cong3 : ∀ (es3 : List (Int × Int)) (st3 : List Nat) (cl3 : Nat), MK es3 st3 cl3 (fun z => ((∃ r ∈ pre ++ lc.take i, z = r.y0 ∨ z = r.y1) ∨ z = x.y0) ∨ z = x.y1) → MK es3 st3 cl3 (fun y => ∃ r ∈ pre ++ lc.take (i + 1), y = r.y0 ∨ y = r.y1) := by
        intro es3 st3 cl3 h3
        refine h3.cong fun z => ?_
        rw [et]
        constructor
        · rintro ((⟨r, hr, g⟩ | g) | g)
          · exact ⟨r, by rw [← List.append_assoc]; exact List.mem_append_left _ hr, g⟩
          · exact ⟨x, by simp, .inl g⟩
          · exact ⟨x, by simp, .inr g⟩
        · rintro ⟨r, hr, g⟩
          rw [← List.append_assoc] at hr
          rcases List.mem_append.1 hr with hr | hr
          · exact .inl (.inl ⟨r, hr, g⟩)
          · obtain rfl := List.mem_singleton.1 hr
            exact g.elim (fun g => .inl (.inr g)) .inr
      have nxt : ∀ (s1 : ASt) es3 st3 cl3, s1.n = 48 → s1.H = upd H m (.map (mE es3) st3 cl3) → s1.t 3 = .pl (.map (some m)) → s1.t 11 = t → s1.t 12 = vi 2 → s1.t 13 = vi j → s1.t 17 = c → s1.t 18 = vi lc.length → s1.t 19 = vi ((i : Int) + 1) →
          MK es3 st3 cl3 (fun z => ((∃ r ∈ pre ++ lc.take i, z = r.y0 ∨ z = r.y1) ∨ z = x.y0) ∨ z = x.y1) →
          (∃ (i : Nat) (es : List (Int × Int)) (st : List Nat) (cl : Nat), s1.n = 48 ∧ s1.H = upd H m (.map (mE es) st cl) ∧ s1.t 3 = .pl (.map (some m)) ∧ s1.t 11 = t ∧ s1.t 12 = vi 2 ∧ s1.t 13 = vi j ∧ s1.t 17 = c ∧ s1.t 18 = vi lc.length ∧ s1.t 19 = vi i ∧ i ≤ lc.length ∧
            MK es st cl (fun y => ∃ r ∈ pre ++ lc.take i, y = r.y0 ∨ y = r.y1)) ∧ lc.length - slotN (s1.t 19) < lc.length - slotN (s'.t 19) :=
        fun s1 es3 st3 cl3 h1 h2 h3 h4 h5 h6 h7 h8 h9 h10 => ⟨⟨i + 1, es3, st3, cl3, h1, h2, h3, h4, h5, h6, h7, h8, by rw [h9]; simp, by omega, cong3 _ _ _ h10⟩, by rw [h9, g19]; simp [slotN]; omega⟩
      rcases gmk.put x.y0 with ⟨f1, g1⟩ | ⟨j1, v0, m1, m2, rfl, rfl, f1, g1⟩
      · simp [f1, mE_push, nym]
        have g2 := g1 (IntKind.i64.wrap 1)
        generalize es' ++ [(x.y0, IntKind.i64.wrap 1)] = es2 at *
        rcases g2.put x.y1 with ⟨f2, g3⟩ | ⟨j2, w0, m3, m4, rfl, rfl, f2, g3⟩
        · simp (disch := omega) [f2, mE_push, nym, wr]
          exact FgK.of _ (fin _ _ _) (nxt _ _ _ _ (by simp) rfl (by simp [g3]) (by simp [g11]) (by simp [g12]) (by simp [g13]) (by simp [g17]) (by simp [g18]) (by simp) (by simpa using g3 (IntKind.i64.wrap 1)))
        · simp (disch := omega) [f2, mE_set, nym, wr]
          exact FgK.of _ (fin _ _ _) (nxt _ _ _ _ (by simp) rfl (by simp [g3]) (by simp [g11]) (by simp [g12]) (by simp [g13]) (by simp [g17]) (by simp [g18]) (by simp) (g3 _))
      · simp [f1, mE_set, nym]
        have g2 := g1 (IntKind.i64.wrap (v0 + 1))
        generalize m1 ++ (x.y0, IntKind.i64.wrap (v0 + 1)) :: m2 = es2 at *
        rcases g2.put x.y1 with ⟨f2, g3⟩ | ⟨j2, w0, m3, m4, rfl, rfl, f2, g3⟩
        · simp (disch := omega) [f2, mE_push, nym, wr]
          exact FgK.of _ (fin _ _ _) (nxt _ _ _ _ (by simp) rfl (by simp [g3]) (by simp [g11]) (by simp [g12]) (by simp [g13]) (by simp [g17]) (by simp [g18]) (by simp) (g3 _))
        · simp (disch := omega) [f2, mE_set, nym, wr]
          exact FgK.of _ (fin _ _ _) (nxt _ _ _ _ (by simp) rfl (by simp [g3]) (by simp [g11]) (by simp [g12]) (by simp [g13]) (by simp [g17]) (by simp [g18]) (by simp) (g3 _))
    · rw [List.take_of_length_le (by omega)] at gmk
      simp (disch := omega) [gn, gH, g3, g11, g12, g13, g17, g18, g19, hlt, wrj]
      refine FgK.same ⟨⟨j + 1, es', st', cl', by simp, by simp, by simp, by simp [g11], by simp [g12], by simp, by omega, ?_⟩, by simp [e13]; omega⟩
      rw [hpost]; exact gmk
  · obtain rfl : j = 2 := by omega
    simp only [Nat.reduceEqDiff, if_false] at hmk
    have hlen : es.length ≤ 400000 := by
      have h1 := congrArg List.length (hmk.sorted (.refl _))
      rw [List.length_mergeSort, List.length_map] at h1
      have h2 := ysF_len (la ++ lb)
      rw [List.length_append] at h2
      omega
    simp (disch := omega) [hn, hH, e3, e11, e12, e13]
    refine newK_of fun it hit => ?_
    obtain ⟨n1, n2, hitH⟩ := upd_none'.1 hit
    simp
    generalize hB : upd H m (.map (mE es) st cl) = B at *
    have hBm : B m = some (.map (mE es) st cl) := by rw [← hB]; simp [upd_apply]
    have hSB : Sub H B := by rw [← hB]; exact (Sub.refl H).upd hm
    refine wpc_loop (fun s => ∃ (seen : List Nat) (out : AV) (l : List (Int × Int)) (Hs : AH), s.n = 48 ∧ s.H = Hs ∧ s.t 8 = out ∧ s.t 36 = pA it ∧ Row (upd B it (.it m cl cl seen)) Hs out ((l.map fun e => e.1).map vi) l.length 1 ∧ l.Perm (vis (fun _ => true) es st seen))
      (fun s => left st (slotSn s.H it)) ?_ ?_
    · refine FgK.same ⟨[], vnil, [], _, rfl, rfl, by simp, by simp, Row.nil _ 1, ?_⟩
      rw [vis_nil]
    rintro s ⟨seen, out, l, Hs, hn, hH, e8, e36, hrow, hperm⟩
    have hsub := hrow.sub
    have hHi : Hs it = some (.it m cl cl seen) := hsub _ _ (by simp [upd_apply])
    have hHm := hsub m _ (by simp only [upd_apply, if_neg n2]; exact hBm)
    have hms : left st (slotSn s.H it) = left st seen := by rw [hH, slotSn_of hHi]
    clear hB e3 e11 e12 e13
    simp [hn, hH, e8, e36, hHi, hHm]
    refine nextK_of hmk.stp.2.2 (Nat.le_refl _) (fun hall => ?_) (fun j e s1 hj hs1 hns => ?_)
    · have hp2 : l.Perm es := by
        have := vis_all (fun _ => true) es st seen hmk.stp.1.symm hall
        rw [List.filter_eq_self.2 (by simp)] at this
        rw [← this]; exact hperm
      have hsrt := hmk.sorted (hp2.map fun e => e.1)
      have hll := hp2.length_eq
      rcases hrow with ⟨f1, f2, rfl, rfl⟩ | ⟨q, rfl, hq, rfl⟩
      · obtain rfl : l = [] := List.length_eq_zero_iff.1 f1
        have hp0 : ysF (la ++ lb) = [] := hsrt.symm.trans (by simp)
        rw [hp0] at hk
        simp [hn, e8]
        refine AC_of (sort_nil Tryz.slices_Sort_int_none ?_)
        simp
        exact ⟨H, hSB.trans ((Sub.refl B).upd hit), hk vnil H (Row.nil H 1)⟩
      · obtain ⟨_, _, hq2⟩ := upd_none'.1 hq
        simp [hn, e8]
        have hz : l.length = (l.map fun e => e.1).length := by simp
        rw [hz]
        refine AC_of (sort_row (enc := Value.int .i64) (b := q) (pre := []) (post := []) (zs := l.map fun e => e.1) (fun blk off cap zs w => Tryz.slices_Sort_int blk off cap zs w) (by simp [upd_apply, rowC, Function.comp_def]) (by simp; omega) ?_)
        simp only [endA_normal, List.nil_append, List.append_nil, rowC]
        rw [hsrt]
        simp
        have hq0 : H q = none := hSB.none_of hq2
        have hyl : (ysF (la ++ lb)).length = l.length := by rw [← hsrt]; simp
        refine ⟨upd H q (.cells ((ysF (la ++ lb)).map vi)), ?_, ?_⟩
        · intro j o hj
          simp only [upd_apply] at hj ⊢
          split
          · rename_i e; rw [if_pos e] at hj; exact hj
          · rename_i e
            rw [if_neg e] at hj
            have h9 := hSB j o hj
            rw [if_neg (by rintro rfl; rw [hit] at h9; cases h9)]
            exact h9
        · refine hk _ _ ?_
          have := Row.mk (cs := (ysF (la ++ lb)).map vi) (n := (ysF (la ++ lb)).length) (sz := 1) hq0
          rw [hyl] at this ⊢
          exact this
    · obtain ⟨x, hx, rfl⟩ : ∃ x, es[j]? = some x ∧ e = (.int .i64 x.1, vi x.2) := by
        simp only [mI, List.getElem?_map, Option.map_eq_some_iff] at hj
        obtain ⟨x, h3, h4⟩ := hj
        exact ⟨x, h3, h4.symm⟩
      have he := entF_of (mE es) st j _ s1 hmk.stp.2.1 hj hs1
      have hst := vis_step (fun _ => true) es st seen j x s1 hmk.stp.2.1 hx hs1 hns
      have hrow2 := hrow.turn (X' := .it m cl cl (s1 :: seen))
      have hlt := left_lt (List.mem_of_getElem? hs1) hns
      have hll : l.length ≤ es.length := by
        have h3 := hperm.length_eq
        have h4 := (vis_sub (fun _ => true) es st seen)
        omega
      simp [hn, hH, e8, e36, hHi, hHm, he, n1, n2]
      refine newK_of fun y hy => ?_
      have hsy := (Sub.refl (upd Hs it (.it m cl cl (s1 :: seen)))).upd hy (o := .cells [vi x.1])
      generalize hx4 : AV.sl y 0 1 1 true = x4
      have hnw : ∀ k : Nat → List AV → Prop, @NEWS (upd (upd Hs it (.it m cl cl (s1 :: seen))) y (.cells [vi x.1])) x4 1 ⟨k⟩ = k 1 [vi x.1] := by intro k; rw [← hx4]; simp
      simp [hnw]
      refine hrow2.app (by exact hsy) (by decide) rfl (by simp) (by omega) fun q H' hq hsq => ?_
      simp
      refine FgK.of _ hsq ⟨⟨s1 :: seen, .sl q 0 (l.length + 1) 1 false, l ++ [x], _, by simp, rfl, by simp, by simp [e36], ?_, ?_⟩, ?_⟩
      · have := Row.mk (cs := (l.map fun e => e.1).map vi ++ [vi x.1]) (n := l.length + 1) (sz := 1) hq
        simpa using this
      · have h5 := hst.symm
        simp only [if_true] at h5
        exact (hperm.append_right _).trans h5
      · have hqi : q ≠ it := by rintro rfl; simp [upd_apply] at hq
        rw [slotSn_of (m := m) (since := cl) (last := cl) (seen := s1 :: seen) (by simp [upd_apply, Ne.symm hqi]), hms]; exact hlt
end Go.Proofs.YtkjkolacnpknoaaGreat
end

/-! Regions of the program, walked: whether a run covers a column. Conditions: as each lemma states them. -/
section
namespace Go.Proofs.YtkjkolacnpknoaaGreat
open Go Go.Ab Go.RowKit
set_option linter.unusedSimpArgs false
set_option linter.unusedVariables false
set_option linter.unnecessarySimpa false

attribute [local simp] condK_true condK_false condK_not wpc_skip wpc_ret wpc_exit wpc_seq wpc_reg wpc_regD testA_bool wpc_cond wpc_block thenA_normal thenA_ret thenA_exit blockA_normal blockA_ret blockA_exit blockA_other endA_normal endA_ret ev_tmp' ev_const ev_func ev_global cv_int cv_bool cv_string cv_pointer cv_slice cv_agg cv_map put_some put_none wH_s setE_apply setE_env less_eq env_cons env_nil upd_upd upd_apply del_apply startA_eq cells_ag cells_sl one_sl cells_vs one_vs cells_ep one_ep cells_fn one_fn cells_int one_int cells_bool one_bool cells_string one_string cells_pointer one_pointer cells_slice one_slice cells_map one_map cells_agg resK_one resK_nil resK_two rvK_t rvK_c rvsK_nil rvsK_cons iseq_nil iseq_cons gdA_true gdA_false gdA_undef istep_free istep_guard istepV_free istepV_guard dseq_nil dseq_pu dseq_rd dseq_ef wpc_regT dtree_nil dtree_pu dtree_rd dtree_ef dtree_br chkAll_nil chkAll_cons andK_true pickK_true pickK_false pickK_tb pickK_fb bin2K_pl eqbK_eq eqbK_ne eqpK_eq eqpK_ne eqmK_eq eqmK_ne eqzK_eq eqzK_ne eqzK_sl eqzK_vs un1K_pl convK_int fillK_some fillA_cons fillA_nil cellsK_some needK_true needK_ok seeK_ep seeK_ptr oneK_agg oneK_one nilcK_ptr nilcK_ep fadrK_ptr fadrK_ep fldK_ag iadAK_ptr iadAK_ep iadSK_sl iadSK_vs extK_0 extK_1 extK_2 extK_3 lenK_pl lenK_sl lenK_vs lensK_pl boxK_some minmax1K_int storeK_ptr callvK_fn callvK_pl newsK_nil newsK_vs newsK_sl appK_nil appK_nil0 appK_sl appK_vs bnd1K_int bndK_none bndK_some slsK_vs slsK_nil slsK_sl0 slsK_sl slstrK_pl boolK_some eqsK_ag iop_eqs iop_sls iop_slstr seesK_some seesK_ro mapsK_some MAP_some findK_some findK_none plK_pl nmapK_none nmapK_some iop_mlook iop_mlen iop_mmk iop_mupd iop_mdel iop_mrng itK_none itK_some ptr0K_ptr iop_mnxt iop_ment it1K_some entK_some iop_mov iop_pick iop_bin iop_eqb iop_eqp iop_eqm iop_eqz iop_un capK_pl capK_sl capK_vs iop_cap iop_b2s b2sK_nil b2sK_sl b2sK_vs strK_some iop_idxv idxvK_ag atK_some apzK_nil iop_apz mksK_int iop_mks clrK_sl clrK_vs clrK_nil iop_clr iop_conv iop_build iop_load iop_nilc iop_fadr iop_fld iop_iadA iop_iadS iop_ext iop_mkf iop_len iop_lens iop_minmax iop_al iop_box iop_bsl iop_store iop_call iop_callv iop_app BIN_add BIN_sub BIN_mul BIN_and BIN_or BIN_xor BIN_andNot BIN_eql BIN_neq BIN_lss BIN_leq BIN_gtr BIN_geq BIN_quo BIN_rem BIN_shl BIN_shr BIN_sadd BIN_seql BIN_sneq BIN_slss BIN_sleq BIN_sgtr BIN_sgeq UN_neg UN_xor UN_not MM_nil MM_cons partsA argsA ptrA lessL eqL min2I slotN_int slotP_int slotI_int
attribute [local simp] rc_len rc_t4 rc_t1 rc_t2 rc_t3 rc_d1 rc_d2 rc_d3 rc_d4 rc_ag rc_one rc_eq

def rn (r : Rn) : List AV := [vi r.1, vi r.2]
theorem rn_l (r : Rn) : (rn r).length = 2 := rfl
abbrev Rs (H : AH) (a : AV) (l : List Rn) : Prop := Rw H a (flat rn l) l.length 2
def cvF (l : List Rn) (x : Int) : Bool := l.any fun r => decide (r.1 ≤ x) && decide (x < r.2)
theorem cvF_iff {l : List Rn} {x : Int} : cvF l x = true ↔ InR l x := by simp [cvF, InR]
attribute [local simp] rn
theorem c90 {H : AH} {K : AV → AH → Prop} {q : Nat} {r : Rn} {x : Int} (hq : H q = some (.cells [vi x])) (hk : K (vb (decide (r.1 ≤ x) && decide (x < r.2))) H) : @AC Tryz.prog 90 [.ag [vi r.1, vi r.2], pA q] H ⟨K⟩ := by
  refine AC_of (.forget ?_)
  refine call_c follows cf90_ok (by simp) ?_
  simp
  refine newK_of fun b hb => ?_
  have hbq := free_ne hb q (by simp [hq])
  have hS : Sub H (upd H b (.cells [vi r.1, vi r.2])) := (Sub.refl H).upd hb
  simp [hq, hbq]
  by_cases h1 : r.1 ≤ x
  · simp [h1, hq, hbq] at hk ⊢
    exact ⟨H, hS, hk⟩
  · simp [h1] at hk ⊢
    exact ⟨H, hS, hk⟩
theorem good122 : goodCallee Tryz.prog 90 = true := by kernel_rfl
theorem c104 {H : AH} {K : AV → AH → Prop} {a : AV} {q : Nat} {l : List Rn} {x : Int} (ha : Rs H a l) (hq : H q = some (.cells [vi x])) (hl : l.length ≤ 10000000) (hk : ∀ i : Int, (0 ≤ i ↔ cvF l x = true) → K (vi i) H) :
    @AC Tryz.prog 104 [a, .fn 90 [] [pA q]] H ⟨K⟩ := by
  have la := fun k => Rw.lenK ha (k := k)
  have g1 := good122
  refine AC_of (.forget ?_)
  refine call_c follows cf104_ok (by simp) ?_
  simp [la]
  refine wpc_loop (fun s => ∃ (i : Nat), s.n = 19 ∧ s.H = H ∧ s.t 0 = a ∧ s.t 1 = .fn 90 [] [pA q] ∧ s.t 7 = vi l.length ∧ s.t 8 = vi i ∧ i ≤ l.length ∧ cvF (l.take i) x = false) (fun s => l.length - slotN (s.t 8)) ?_ ?_
  · exact FgK.same ⟨0, by simp, by simp, by simp, by simp, by simp, by simp, by omega, by simp [cvF]⟩
  rintro s ⟨i, hn, hH, e0, e1, e7, e8, hi, hc⟩
  by_cases hlt : i < l.length
  · have wr := IntWalk.i64_in ((i : Int) + 1) (by omega)
    obtain ⟨p, hp1, hp2⟩ := fsee rn_l ha hlt
    have et := take_snoc' hlt
    have hcp : cvF (l.take (i + 1)) x = (decide (l[i].1 ≤ x) && decide (x < l[i].2)) := by
      rw [et]; unfold cvF at hc ⊢; rw [List.any_append, hc]; simp
    have hall : (decide (l[i].1 ≤ x) && decide (x < l[i].2)) = true → cvF l x = true := fun h => List.any_eq_true.2 ⟨l[i], List.getElem_mem hlt, h⟩
    generalize l[i] = r at *
    simp (disch := omega) [hn, hH, e0, e1, e7, e8, hlt, hp1, hp2 _ (Sub.refl _), g1]
    refine c90 hq ?_
    cases h : (decide (r.1 ≤ x) && decide (x < r.2)) with
    | true =>
      simp
      exact ⟨H, Sub.refl _, hk _ (by simp [hall h])⟩
    | false =>
      simp (disch := omega) [hn, wr]
      exact FgK.same ⟨⟨i + 1, by simp, by simp, by simp [e0], by simp [e1], by simp [e7], by simp, by omega, by rw [hcp, h]⟩, by simp [e8]; omega⟩
  · rw [List.take_of_length_le (by omega)] at hc
    simp (disch := omega) [hn, hH, e0, e1, e7, e8, hlt]
    exact ⟨H, Sub.refl _, hk _ (by simp [hc])⟩
theorem c89 {H : AH} {K : AV → AH → Prop} {a : AV} {q : Nat} {l : List Rn} {x : Int} (ha : Rs H a l) (hq : H q = some (.cells [vi x])) (hl : l.length ≤ 10000000) (hk : K (vb (cvF l x)) H) :
    @AC Tryz.prog 89 [a, .fn 90 [] [pA q]] H ⟨K⟩ := by
  refine call_c follows cf89_ok (by simp) ?_
  simp
  refine c104 ha hq hl fun i hi => ?_
  cases h : cvF l x with
  | true => rw [h] at hk hi; have : 0 ≤ i := hi.2 rfl; simp [this]; exact hk
  | false => rw [h] at hk hi; have : ¬ 0 ≤ i := fun g => by simpa using hi.1 g
             simp [this]; exact hk
theorem c82 {H : AH} {K : AV → AH → Prop} {a : AV} {l : List Rn} {x : Int} (ha : Rs H a l) (hl : l.length ≤ 10000000) (hk : K (vb (cvF l x)) H) : @AC Tryz.prog 82 [a, vi x] H ⟨K⟩ := by
  refine AC_of (.forget ?_)
  refine call_c follows cf82_ok (by simp) ?_
  simp
  refine newK_of fun b hb => ?_
  have hS : Sub H (upd H b (.cells [vi x])) := (Sub.refl H).upd hb
  simp
  refine c89 (x := x) (ha.sub hS) (by simp) hl ?_
  simp
  exact ⟨H, hS, hk⟩
end Go.Proofs.YtkjkolacnpknoaaGreat
end

/-! The library's slices.SortFunc over runs, as a contract over the view: out of the shelf's contract over worlds. Conditions: as each lemma states them. -/
section
namespace Go.Proofs.YtkjkolacnpknoaaGreat
open Go Go.Ab Go.RowKit
set_option linter.unusedSimpArgs false
set_option linter.unusedVariables false
set_option linter.unnecessarySimpa false

attribute [local simp] condK_true condK_false condK_not wpc_skip wpc_ret wpc_exit wpc_seq wpc_reg wpc_regD testA_bool wpc_cond wpc_block thenA_normal thenA_ret thenA_exit blockA_normal blockA_ret blockA_exit blockA_other endA_normal endA_ret ev_tmp' ev_const ev_func ev_global cv_int cv_bool cv_string cv_pointer cv_slice cv_agg cv_map put_some put_none wH_s setE_apply setE_env less_eq env_cons env_nil upd_upd upd_apply del_apply startA_eq cells_ag cells_sl one_sl cells_vs one_vs cells_ep one_ep cells_fn one_fn cells_int one_int cells_bool one_bool cells_string one_string cells_pointer one_pointer cells_slice one_slice cells_map one_map cells_agg resK_one resK_nil resK_two rvK_t rvK_c rvsK_nil rvsK_cons iseq_nil iseq_cons gdA_true gdA_false gdA_undef istep_free istep_guard istepV_free istepV_guard dseq_nil dseq_pu dseq_rd dseq_ef wpc_regT dtree_nil dtree_pu dtree_rd dtree_ef dtree_br chkAll_nil chkAll_cons andK_true pickK_true pickK_false pickK_tb pickK_fb bin2K_pl eqbK_eq eqbK_ne eqpK_eq eqpK_ne eqmK_eq eqmK_ne eqzK_eq eqzK_ne eqzK_sl eqzK_vs un1K_pl convK_int fillK_some fillA_cons fillA_nil cellsK_some needK_true needK_ok seeK_ep seeK_ptr oneK_agg oneK_one nilcK_ptr nilcK_ep fadrK_ptr fadrK_ep fldK_ag iadAK_ptr iadAK_ep iadSK_sl iadSK_vs extK_0 extK_1 extK_2 extK_3 lenK_pl lenK_sl lenK_vs lensK_pl boxK_some minmax1K_int storeK_ptr callvK_fn callvK_pl newsK_nil newsK_vs newsK_sl appK_nil appK_nil0 appK_sl appK_vs bnd1K_int bndK_none bndK_some slsK_vs slsK_nil slsK_sl0 slsK_sl slstrK_pl boolK_some eqsK_ag iop_eqs iop_sls iop_slstr seesK_some seesK_ro mapsK_some MAP_some findK_some findK_none plK_pl nmapK_none nmapK_some iop_mlook iop_mlen iop_mmk iop_mupd iop_mdel iop_mrng itK_none itK_some ptr0K_ptr iop_mnxt iop_ment it1K_some entK_some iop_mov iop_pick iop_bin iop_eqb iop_eqp iop_eqm iop_eqz iop_un capK_pl capK_sl capK_vs iop_cap iop_b2s b2sK_nil b2sK_sl b2sK_vs strK_some iop_idxv idxvK_ag atK_some apzK_nil iop_apz mksK_int iop_mks clrK_sl clrK_vs clrK_nil iop_clr iop_conv iop_build iop_load iop_nilc iop_fadr iop_fld iop_iadA iop_iadS iop_ext iop_mkf iop_len iop_lens iop_minmax iop_al iop_box iop_bsl iop_store iop_call iop_callv iop_app BIN_add BIN_sub BIN_mul BIN_and BIN_or BIN_xor BIN_andNot BIN_eql BIN_neq BIN_lss BIN_leq BIN_gtr BIN_geq BIN_quo BIN_rem BIN_shl BIN_shr BIN_sadd BIN_seql BIN_sneq BIN_slss BIN_sleq BIN_sgtr BIN_sgeq UN_neg UN_xor UN_not MM_nil MM_cons partsA argsA ptrA lessL eqL min2I slotN_int slotP_int slotI_int
attribute [local simp] rc_len rc_t4 rc_t1 rc_t2 rc_t3 rc_d1 rc_d2 rc_d3 rc_d4 rc_ag rc_one rc_eq

open Go.RowKit Go.Sort Go.Shelf Go.Proofs
theorem flat2_at {α : Type} [Inhabited α] {enc : α → List Value} (hk : ∀ x, (enc x).length = 2) : ∀ (l : List α) (t : Nat), t < l.length * 2 → (l.flatMap enc)[t]? = some ((enc (l[t / 2]!))[t % 2]!)
  | [], t, h => by simp at h
  | x :: l, t, h => by
    rw [List.flatMap_cons, List.getElem?_append, hk]
    by_cases h2 : t < 2
    · rw [if_pos h2]
      have e1 : t / 2 = 0 := by omega
      have e2 : t % 2 = t := by omega
      rw [e1, e2, List.getElem?_eq_getElem (by rw [hk]; exact h2)]
      simp only [List.getElem!_cons_zero]
      rw [getElem!_pos (enc x) t (by rw [hk]; exact h2)]
    · rw [if_neg h2, flat2_at hk l (t - 2) (by simp at h; omega)]
      have e1 : t / 2 = (t - 2) / 2 + 1 := by omega
      have e2 : t % 2 = (t - 2) % 2 := by omega
      rw [e1, e2, List.getElem!_cons_succ]
theorem flat2_len {α : Type} {enc : α → List Value} (hk : ∀ x, (enc x).length = 2) (l : List α) : (l.flatMap enc).length = l.length * 2 := by
  induction l with
  | nil => rfl
  | cons x l ih => rw [List.flatMap_cons, List.length_append, ih, hk, List.length_cons]; omega
theorem flatK2 {α : Type} [Inhabited α] {enc : α → List Value} (hk : ∀ x, (enc x).length = 2) (d : Array α) : flatK enc 2 d = (d.toList.flatMap enc).toArray := by
  apply Array.ext
  · simp [flat2_len hk]
  · intro t h1 h2
    have h3 : t < d.size * 2 := by simpa using h1
    have e1 := get_flatK enc 2 d t h3
    rw [getElem!_pos (flatK enc 2 d) t h1] at e1
    rw [e1]
    have e2 := flat2_at hk d.toList t (by simpa using h3)
    rw [List.getElem_toArray]
    have e3 : (d.toList.flatMap enc)[t]? = some ((d.toList.flatMap enc)[t]'(by simpa using h2)) := List.getElem?_eq_getElem _
    rw [e3] at e2
    have e4 : d.toList[t / 2]! = d[t / 2]! := by
      rw [getElem!_pos _ _ (by simp; omega), getElem!_pos _ _ (by omega)]
      simp
    rw [e4] at e2
    exact (Option.some.inj e2).symm
theorem sortK_row {P : Program} {f g : FuncId} {α : Type} [Inhabited α] {enc : α → List Value} {lt : α → α → Bool} (hk2 : ∀ x, (enc x).length = 2)
    (hs : ∀ (blk off cap : Nat) (d : Array α) (w : World), HoldsK enc 2 w blk off d → blk < w.heap.size → d.size < 4611686018427387904 →
      Calls P f #[.slice (some ⟨blk, off, none⟩) d.size cap, .func (.func g) #[] #[]] w fun e w' => e = .returned (.tuple #[]) ∧ ∃ d' n os, PermIn 0 d.size d d' ∧ SortedIn lt 0 d.size d' ∧ w' = sortWorldK enc 2 w blk off n d' os)
    {K : AV → AH → Prop} {H : AH} {b : Nat} {x : Bool} {l : List α} (hH : H b = some (.cells ((l.flatMap enc).map AV.pl))) (hl : l.length < 4611686018427387904)
    (hk : ∀ l' : List α, l'.Perm l → l'.Pairwise (fun a b => lt b a = false) → K (.tp []) (upd H b (.cells ((l'.flatMap enc).map AV.pl)))) :
    ACall P f [.sl b 0 l.length 2 x, .pl (.func (.func g) #[] #[])] H K := by
  intro S W0 w cs hr ha
  obtain ⟨v, v2, rfl⟩ : ∃ v v2, cs = #[v, v2] := by
    have := ha.1
    match cs with
    | ⟨[v, v2]⟩ => exact ⟨v, v2, rfl⟩
    | ⟨[]⟩ => simp at this
    | ⟨[_]⟩ => simp at this
    | ⟨_ :: _ :: _ :: _⟩ => simp at this
  have hv := ha.2 0 _ v rfl rfl
  obtain rfl := (ha.2 1 _ v2 rfl rfl).pl_inv
  have hH' : H b = some (.cells (rowC (id : Value → Value) [] (l.flatMap enc) [])) := by rw [hH]; simp [rowC]
  cases hv with
  | sl _ _ _ _ c _ C T F h hc hn hx =>
    have hh := row_holds hr hH'
    have hK : HoldsK enc 2 w b 0 l.toArray := by
      unfold HoldsK
      rw [flatK2 hk2]
      exact hh
    have hsz : l.toArray.size = l.length := by simp
    refine ((hsz ▸ hs b 0 c l.toArray w hK (hr.lt b _ hH) (by simpa using hl))).mono ?_
    rintro e w' ⟨rfl, d', n, os, hp, hsrt, rfl⟩
    have hp1 : d'.size = l.length := by have := hp.1; simpa using this
    have hperm : d'.toList.Perm l := by
      have := hp.2.2
      have e1 : d'.extract 0 l.length = d' := by rw [← hp1]; simp
      have e2 : l.toArray.extract 0 l.length = l.toArray := by simp
      rw [e1, e2] at this
      simpa using this
    obtain ⟨e1, e2⟩ := row_sorted (zs' := d'.toList.flatMap enc) hr hH' (by rw [flat2_len hk2, flat2_len hk2]; simp [hp1]) n os
    refine ⟨_, S, _, _, rfl, ?_, ?_, .tp [] #[] rfl (fun j a v ha => by simp at ha), hk d'.toList hperm ?_⟩
    · unfold sortWorldK putRowK
      rw [flatK2 hk2]
      simpa [rowC] using e1
    · unfold sortWorldK putRowK
      rw [flatK2 hk2]
      simpa [rowC] using e2
    · rw [List.pairwise_iff_getElem]
      intro i j hi hj hij
      have := hsrt i j (Nat.zero_le _) hij (by simpa [hp1] using hj)
      rw [getElem!_pos _ _ (by simpa using hj), getElem!_pos _ _ (by simpa using hi)] at this
      simpa using this

/-- Runs whose beginnings lie within the plane. -/
abbrev Rb := {p : Rn // -16384 ≤ p.1 ∧ p.1 ≤ 16384}
instance : Inhabited Rb := ⟨⟨(0, 0), by simp⟩⟩
def encB (x : Rb) : List Value := [.int .i64 x.1.1, .int .i64 x.1.2]
def cfB (x y : Rb) : Int := x.1.1 - y.1.1
theorem swoB : SWO (ltOf cfB) := by
  have e : ∀ x y : Rb, ltOf cfB x y = decide (x.1.1 < y.1.1) := fun x y => by
    unfold ltOf cfB
    exact decide_eq_decide.2 ⟨fun h => by omega, fun h => by omega⟩
  refine ⟨fun x => by rw [e]; simp, fun x y z h1 h2 => ?_, fun x y z h1 h2 => ?_⟩
  · rw [e] at h1 h2 ⊢
    have g1 := of_decide_eq_true h1
    have g2 := of_decide_eq_true h2
    exact decide_eq_true (Int.lt_trans g1 g2)
  · rw [e] at h1 h2 ⊢
    have g1 := of_decide_eq_false h1
    have g2 := of_decide_eq_false h2
    exact decide_eq_false fun h => by omega
set_option maxHeartbeats 1000000 in
theorem closB (x y : Rb) (W : World) : Calls Tryz.prog 84 #[.agg #[.int .i64 x.1.1, .int .i64 x.1.2], .agg #[.int .i64 y.1.1, .int .i64 y.1.2]] W fun e w' => e = .returned (.int .i64 (cfB x y)) ∧ ∃ q os', w' = grow (W.drewN q) os' := by
  obtain ⟨⟨a, b⟩, h1⟩ := x
  obtain ⟨⟨c, d⟩, h2⟩ := y
  have wr := IntWalk.i64_in (a - c) (by simp only at h1 h2; omega)
  go_enter Tryz.func84, Tryz.ntmps84
  go_wp2
  go_ret
  exact ⟨by simp [cfB, wr], 0, _, by rw [alloc_eq_grow, alloc_eq_grow, grow_grow]; rfl⟩
theorem cmpB (blk off size : Nat) (w : World) : CmpLays Tryz.prog 84 #[] encB 2 cfB blk off size w := fun _ _ _ _ x y => closB x y _
theorem sortB (blk off cap : Nat) (d : Array Rb) (w : World) (hH : HoldsK encB 2 w blk off d) (hblk : blk < w.heap.size) (hsz : d.size < 4611686018427387904) :
    Calls Tryz.prog 83 #[.slice (some ⟨blk, off, none⟩) d.size cap, .func (.func 84) #[] #[]] w fun e w' => e = .returned (.tuple #[]) ∧ ∃ d' n os, PermIn 0 d.size d d' ∧ SortedIn (ltOf cfB) 0 d.size d' ∧ w' = sortWorldK encB 2 w blk off n d' os :=
  AnyQ.slices_SortFunc Tryz.lays_sf0 2 Tryz.isAgg100 Tryz.sizeOf100 encB (fun _ => rfl) (fun x v hv => by simp [encB] at hv; rcases hv with rfl | rfl <;> rfl) cfB swoB 84 #[] blk off cap d w (enters_of Tryz.func84 (by kernel_rfl) rfl) (cmpB blk off d.size w) hH hblk hsz
end Go.Proofs.YtkjkolacnpknoaaGreat
end

/-! Regions of the program, walked: the library's functions on runs and cuts: Equal, Grow, Concat, Compact. Conditions: as each lemma states them. -/
section
namespace Go.Proofs.YtkjkolacnpknoaaGreat
open Go Go.Ab Go.RowKit
set_option linter.unusedSimpArgs false
set_option linter.unusedVariables false
set_option linter.unnecessarySimpa false

attribute [local simp] condK_true condK_false condK_not wpc_skip wpc_ret wpc_exit wpc_seq wpc_reg wpc_regD testA_bool wpc_cond wpc_block thenA_normal thenA_ret thenA_exit blockA_normal blockA_ret blockA_exit blockA_other endA_normal endA_ret ev_tmp' ev_const ev_func ev_global cv_int cv_bool cv_string cv_pointer cv_slice cv_agg cv_map put_some put_none wH_s setE_apply setE_env less_eq env_cons env_nil upd_upd upd_apply del_apply startA_eq cells_ag cells_sl one_sl cells_vs one_vs cells_ep one_ep cells_fn one_fn cells_int one_int cells_bool one_bool cells_string one_string cells_pointer one_pointer cells_slice one_slice cells_map one_map cells_agg resK_one resK_nil resK_two rvK_t rvK_c rvsK_nil rvsK_cons iseq_nil iseq_cons gdA_true gdA_false gdA_undef istep_free istep_guard istepV_free istepV_guard dseq_nil dseq_pu dseq_rd dseq_ef wpc_regT dtree_nil dtree_pu dtree_rd dtree_ef dtree_br chkAll_nil chkAll_cons andK_true pickK_true pickK_false pickK_tb pickK_fb bin2K_pl eqbK_eq eqbK_ne eqpK_eq eqpK_ne eqmK_eq eqmK_ne eqzK_eq eqzK_ne eqzK_sl eqzK_vs un1K_pl convK_int fillK_some fillA_cons fillA_nil cellsK_some needK_true needK_ok seeK_ep seeK_ptr oneK_agg oneK_one nilcK_ptr nilcK_ep fadrK_ptr fadrK_ep fldK_ag iadAK_ptr iadAK_ep iadSK_sl iadSK_vs extK_0 extK_1 extK_2 extK_3 lenK_pl lenK_sl lenK_vs lensK_pl boxK_some minmax1K_int storeK_ptr callvK_fn callvK_pl newsK_nil newsK_vs newsK_sl appK_nil appK_nil0 appK_sl appK_vs bnd1K_int bndK_none bndK_some slsK_vs slsK_nil slsK_sl0 slsK_sl slstrK_pl boolK_some eqsK_ag iop_eqs iop_sls iop_slstr seesK_some seesK_ro mapsK_some MAP_some findK_some findK_none plK_pl nmapK_none nmapK_some iop_mlook iop_mlen iop_mmk iop_mupd iop_mdel iop_mrng itK_none itK_some ptr0K_ptr iop_mnxt iop_ment it1K_some entK_some iop_mov iop_pick iop_bin iop_eqb iop_eqp iop_eqm iop_eqz iop_un capK_pl capK_sl capK_vs iop_cap iop_b2s b2sK_nil b2sK_sl b2sK_vs strK_some iop_idxv idxvK_ag atK_some apzK_nil iop_apz mksK_int iop_mks clrK_sl clrK_vs clrK_nil iop_clr iop_conv iop_build iop_load iop_nilc iop_fadr iop_fld iop_iadA iop_iadS iop_ext iop_mkf iop_len iop_lens iop_minmax iop_al iop_box iop_bsl iop_store iop_call iop_callv iop_app BIN_add BIN_sub BIN_mul BIN_and BIN_or BIN_xor BIN_andNot BIN_eql BIN_neq BIN_lss BIN_leq BIN_gtr BIN_geq BIN_quo BIN_rem BIN_shl BIN_shr BIN_sadd BIN_seql BIN_sneq BIN_slss BIN_sleq BIN_sgtr BIN_sgeq UN_neg UN_xor UN_not MM_nil MM_cons partsA argsA ptrA lessL eqL min2I slotN_int slotP_int slotI_int
attribute [local simp] rc_len rc_t4 rc_t1 rc_t2 rc_t3 rc_d1 rc_d2 rc_d3 rc_d4 rc_ag rc_one rc_eq

theorem rn_eq (a b : Rn) : eqL [1, 1] (rn a) (rn b) = some (decide (a = b)) := by
  obtain ⟨a1, a2⟩ := a
  obtain ⟨b1, b2⟩ := b
  by_cases h : a1 = b1 <;> by_cases h2 : a2 = b2 <;> simp [rn, eqL, h, h2]
theorem rn_one (r : Rn) : (rn r).all AV.one = true := rfl
theorem rnall (l : List Rn) : (flat rn l).all AV.one = true := by
  induction l with
  | nil => rfl
  | cons r l ih => rw [show r :: l = [r] ++ l from rfl, flat_app, List.all_append, ih, flat_one, rn_one]; rfl
section
attribute [local simp] rn_l rn_eq rn_one
theorem c74 {H : AH} {K : AV → AH → Prop} {a b : AV} {la lb : List Rn} (ha : Rs H a la) (hb : Rs H b lb) (hl : la.length ≤ 10000000) (hl2 : lb.length ≤ 10000000) (hk : K (vb (decide (la = lb))) H) :
    @AC Tryz.prog 74 [a, b] H ⟨K⟩ := by
  have l1 := fun k => Rw.lenK ha (k := k)
  have l2 := fun k => Rw.lenK hb (k := k)
  refine AC_of (.forget ?_)
  refine call_c follows cf74_ok (by simp) ?_
  by_cases hlen : la.length = lb.length
  case neg =>
    have hne : ¬ la = lb := fun h => hlen (congrArg List.length h)
    have h2 : ¬ (la.length : Int) = lb.length := by omega
    have d1 : decide (la = lb) = false := decide_eq_false hne
    rw [d1] at hk
    simp [l1, l2, h2]
    exact ⟨H, Sub.refl _, hk⟩
  have h2 : (la.length : Int) = lb.length := by omega
  simp [l1, l2, h2]
  refine wpc_loop (fun s => ∃ (i : Nat), s.n = 26 ∧ s.H = H ∧ s.t 0 = a ∧ s.t 1 = b ∧ s.t 12 = vi lb.length ∧ s.t 13 = vi i ∧ i ≤ la.length ∧ la.take i = lb.take i) (fun s => la.length - slotN (s.t 13)) ?_ ?_
  · exact FgK.same ⟨0, by simp, by simp, by simp, by simp, by simp, by simp, by omega, by simp⟩
  rintro s ⟨i, hn, hH, e0, e1, e12, e13, hi, hc⟩
  by_cases hlt : i < la.length
  · have hlt2 : i < lb.length := by omega
    have wr := IntWalk.i64_in ((i : Int) + 1) (by omega)
    obtain ⟨p, hp1, hp2⟩ := fsee rn_l ha hlt
    obtain ⟨q, hq1, hq2⟩ := fsee rn_l hb hlt2
    have et := take_snoc' hlt
    have et2 := take_snoc' hlt2
    have hab : la = lb → la[i] = lb[i] := fun h => by subst h; rfl
    generalize la[i] = x at *
    generalize lb[i] = y at *
    simp (disch := omega) [hn, hH, e0, e1, e12, e13, hlt, hlt2, hp1, hp2 _ (Sub.refl _), hq1, hq2 _ (Sub.refl _)]
    by_cases h : x = y
    · simp (disch := omega) [h, hn, wr]
      exact FgK.same ⟨⟨i + 1, by simp, by simp [hH], by simp [e0], by simp [e1], by simp [e12], by simp, by omega, by rw [et, et2, hc, h]⟩, by simp [e13]; omega⟩
    · have d1 : decide (la = lb) = false := decide_eq_false fun g => h (hab g)
      rw [d1] at hk
      simp [h]
      exact ⟨H, Sub.refl _, hk⟩
  · rw [List.take_of_length_le (by omega), List.take_of_length_le (by omega)] at hc
    have d1 : decide (la = lb) = true := decide_eq_true hc
    rw [d1] at hk
    have hlt2 : ¬ i < lb.length := by omega
    simp (disch := omega) [hn, hH, e0, e1, e12, e13, hlt2]
    exact ⟨H, Sub.refl _, hk⟩
end

/-! ### A row of one's own that may hold more behind -/
def RowS (H0 H : AH) (out : AV) (cs : List AV) (n sz : Nat) : Prop := (n = 0 ∧ cs = [] ∧ out = vnil ∧ H = H0) ∨ ∃ r f C, out = .sl r 0 n sz f ∧ H0 r = none ∧ n * sz ≤ C.length ∧ C.take (n * sz) = cs ∧ H = upd H0 r (.cells C)
theorem RowS.sub {H0 H : AH} {out : AV} {cs : List AV} {n sz : Nat} (h : RowS H0 H out cs n sz) : Sub H0 H := by
  rcases h with ⟨_, _, _, rfl⟩ | ⟨r, f, C, _, hr, _, _, rfl⟩
  · exact Sub.refl _
  · exact (Sub.refl _).upd hr
theorem RowS.rw {H0 H : AH} {out : AV} {cs : List AV} {n sz : Nat} (h : RowS H0 H out cs n sz) : Rw H out cs n sz := by
  rcases h with ⟨rfl, rfl, rfl, rfl⟩ | ⟨r, f, C, rfl, hr, h1, h2, rfl⟩
  · exact Rw.nil _ _
  · have hl : cs.length = n * sz := by rw [← h2, List.length_take]; omega
    refine ⟨hl, .inr (.inr ⟨r, 0, f, C, rfl, by simp [upd_apply], C.drop (n * sz), ?_, by omega⟩)⟩
    rw [List.drop_zero, ← h2, List.take_append_drop]
theorem RowS.app {H0 H1 : AH} {out : AV} {cs ns : List AV} {n m sz bytes : Nat} {k : AV → AH → Prop} (h : RowS H0 H1 out cs n sz) (ho : ns.all AV.one = true) (hl : ns.length = m * sz) (hsz : sz ≠ 0) (hb : (n + m) * bytes ≤ 140737488355328)
    (hk : ∀ out' H', RowS H0 H' out' (cs ++ ns) (n + m) sz → k out' H') : @appK H1 sz bytes out m ns ⟨k⟩ := by
  rcases h with ⟨rfl, rfl, rfl, rfl⟩ | ⟨r, f, C, rfl, hr, h1, h2, rfl⟩
  · by_cases hm : m = 0
    · subst hm
      have : ns = [] := by simpa using hl
      subst this
      rw [appK_nil0]
      exact hk _ _ (.inl ⟨rfl, rfl, rfl, rfl⟩)
    · rw [appK_nil hm]
      refine ⟨⟨ho, by rw [Nat.zero_add] at hb; exact hb⟩, newK_of fun b hbb => hk _ _ (.inr ⟨b, false, ns, by simp, hbb, by simp [hl], by simp [← hl], rfl⟩)⟩
  · rw [appK_sl]
    refine cellsK_of (by simp [upd_apply]) ⟨⟨ho, rfl, h1, hb⟩, fun r' hr' => ?_⟩
    rw [h2]
    have e : ∀ X, upd (del (upd H0 r (.cells C)) r) r' X = upd H0 r' X := fun X => by
      funext j
      simp only [upd_apply, del_apply]
      split
      · rfl
      · split
        · rename_i e; rw [e]; exact hr.symm
        · rfl
    have h3 : H0 r' = none := by
      rcases hr' with rfl | hr'
      · exact hr
      · exact (Sub.refl H0).upd hr |>.none_of hr'
    have hcl : cs.length = n * sz := by rw [← h2, List.length_take]; omega
    refine hk _ _ (.inr ⟨r', false, cs ++ ns, rfl, h3, ?_, ?_, e _⟩)
    · rw [List.length_append, hcl, hl, Nat.add_mul]; omega
    · rw [List.take_of_length_le]; rw [List.length_append, hcl, hl, Nat.add_mul]; omega
theorem c88 {H : AH} {K : AV → AH → Prop} {n : Nat} (hn : n ≤ 1000000000) (hk : ∀ out H', RowS H H' out [] 0 2 → K out H') :
    @AC Tryz.prog 88 [vnil, vi n] H ⟨K⟩ := by
  have h0 : ¬ (n : Int) < 0 := by omega
  have wr := IntWalk.i64_in (n : Int) (by omega)
  have w0 : IntKind.i64.wrap 0 = 0 := by decide
  refine call_c follows cf88_ok (by simp) ?_
  by_cases hz : n = 0
  · have hz3 : ¬ 0 < n := by omega
    simp [h0, wr, w0, hz3]
    exact hk _ _ (.inl ⟨rfl, rfl, rfl, rfl⟩)
  · have hz3 : 0 < n := by omega
    have hb16 : n * 16 ≤ 140737488355328 := by omega
    simp [h0, wr, hz3, hz, w0, hb16]
    refine newK_of fun b hb => ?_
    simp
    exact hk _ _ (.inr ⟨b, false, _, rfl, hb, by simp, by simp, rfl⟩)
theorem c80 {H : AH} {K : AV → AH → Prop} {t a b : AV} {la lb : List Rn} (ht : Rw H t [a, b] 2 1) (ha : Rs H a la) (hb : Rs H b lb) (hla : la.length ≤ 10000000) (hlb : lb.length ≤ 10000000)
    (hk : ∀ out H', RowS H H' out (flat rn (la ++ lb)) (la ++ lb).length 2 → K out H') : @AC Tryz.prog 80 [t] H ⟨K⟩ := by
  have lt := fun k => ht.lenK (k := k)
  have lla := fun k => Rw.lenK ha (k := k)
  have llb := fun k => Rw.lenK hb (k := k)
  -- the list that stands there
  have sel : ∀ j : Nat, j < 2 → ∃ (c : AV) (lc : List Rn), Rs H c lc ∧ lc.length ≤ 10000000 ∧ (if j = 0 then [] else if j = 1 then la else la ++ lb) ++ lc = (if j + 1 = 0 then [] else if j + 1 = 1 then la else la ++ lb) ∧
      ∃ p, (∀ k : AV → Prop, @iadSK 1 t (vi j) ⟨k⟩ = k p) ∧ ∀ H', Sub H H' → ∀ k : List AV → Prop, @SEE H' p 1 ⟨k⟩ = k [c] := by
    intro j hj
    obtain ⟨p, hp1, hp2⟩ := Rw.see ht hj
    rcases (show j = 0 ∨ j = 1 by omega) with rfl | rfl
    · exact ⟨a, la, ha, hla, by simp, p, hp1, fun H' hs k => by rw [hp2 H' hs]; rfl⟩
    · exact ⟨b, lb, hb, hlb, by simp, p, hp1, fun H' hs k => by rw [hp2 H' hs]; rfl⟩
  have bnd : ∀ j : Nat, (if j = 0 then [] else if j = 1 then la else la ++ lb).length ≤ 20000000 := by
    intro j
    split
    · simp
    · split
      · omega
      · rw [List.length_append]; omega
  refine AC_of (.forget ?_)
  refine call_c follows cf80_ok (by simp) ?_
  simp [lt]
  refine wpc_loop (fun s => ∃ (j : Nat), s.n = 36 ∧ s.H = H ∧ s.t 0 = t ∧ s.t 9 = t ∧ s.t 10 = vi 2 ∧ s.t 11 = vi j ∧ j ≤ 2 ∧ s.t 3 = vi (if j = 0 then [] else if j = 1 then la else la ++ lb).length) (fun s => 2 - slotN (s.t 11)) ?_ ?_
  · exact FgK.same ⟨0, by simp, by simp, by simp, by simp, by simp, by simp, by omega, by simp⟩
  rintro s ⟨j, hn, hH, e0, e9, e10, e11, hj, e3⟩
  by_cases hj2 : j < 2
  · have wrj := IntWalk.i64_in ((j : Int) + 1) (by omega)
    obtain ⟨c, lc, hc, hcl, hpost, p, hp1, hp2⟩ := sel j hj2
    have lc' := fun k => Rw.lenK hc (k := k)
    have hj2' : (j : Int) < 2 := by omega
    have b1 := bnd j
    generalize hpre : (if j = 0 then [] else if j = 1 then la else la ++ lb) = pre at *
    have wr3 := IntWalk.i64_in ((pre.length : Int) + lc.length) (by omega)
    have nn : ¬ (pre.length : Int) + lc.length < 0 := by omega
    simp (disch := omega) [hn, hH, e0, e3, e9, e10, e11, hj2', hp1, hp2 _ (Sub.refl _), lc', wr3, nn, wrj]
    exact FgK.same ⟨⟨j + 1, by simp, by simp, by simp [e0], by simp [e9], by simp [e10], by simp, by omega, by rw [← hpost]; simp⟩, by simp [e11]; omega⟩
  · obtain rfl : j = 2 := by omega
    have hlen : (if (2 : Nat) = 0 then [] else if (2 : Nat) = 1 then la else la ++ lb).length = (la ++ lb).length := by simp
    rw [hlen] at e3
    have hbb : (la ++ lb).length ≤ 20000000 := by rw [List.length_append]; omega
    simp (disch := omega) [hn, hH, e0, e3, e9, e10, e11]
    refine c88 (by omega) fun o1 H1 ho1 => ?_
    simp [e0, lt]
    refine wpc_loop (fun s => ∃ (j : Nat) (out : AV) (Hs : AH), s.n = 36 ∧ s.H = Hs ∧ s.t 6 = out ∧ s.t 25 = t ∧ s.t 26 = vi 2 ∧ s.t 27 = vi j ∧ j ≤ 2 ∧ RowS H Hs out (flat rn (if j = 0 then [] else if j = 1 then la else la ++ lb)) (if j = 0 then [] else if j = 1 then la else la ++ lb).length 2) (fun s => 2 - slotN (s.t 27)) ?_ ?_
    · exact FgK.same ⟨0, o1, H1, by simp, by simp, by simp, by simp, by simp, by simp, by omega, by simpa [flat_nil] using ho1⟩
    rintro s ⟨j, out, Hs, hn, hH, e6, e25, e26, e27, hj, hro⟩
    by_cases hj2 : j < 2
    · have wrj := IntWalk.i64_in ((j : Int) + 1) (by omega)
      obtain ⟨c, lc, hc, hcl, hpost, p, hp1, hp2⟩ := sel j hj2
      have hj2' : (j : Int) < 2 := by omega
      have b1 := bnd j
      generalize hpre : (if j = 0 then [] else if j = 1 then la else la ++ lb) = pre at *
      have hnw : ∀ k : Nat → List AV → Prop, @NEWS Hs c 2 ⟨k⟩ = k lc.length (flat rn lc) := fun k => Rw.news (hc.sub hro.sub)
      simp (disch := omega) [hn, hH, e6, e25, e26, e27, hj2', hp1, hp2 _ hro.sub, hnw]
      refine hro.app (rnall _) (flat_len rn_l _) (by decide) (by omega) fun o2 H2 ho2 => ?_
      simp (disch := omega) [wrj]
      refine FgK.of _ (Sub.refl _) ⟨⟨j + 1, o2, H2, by simp, by simp, by simp, by simp [e25], by simp [e26], by simp, by omega, ?_⟩, by simp [e27]; omega⟩
      rw [← hpost, List.length_append, flat_app]
      exact ho2
    · obtain rfl : j = 2 := by omega
      simp (disch := omega) [hn, hH, e6, e25, e26, e27]
      exact ⟨Hs, Sub.refl _, hk _ _ (by simpa using hro)⟩
end Go.Proofs.YtkjkolacnpknoaaGreat
end

/-! Regions of the program, walked: the library's Compact on cuts. Conditions: as each lemma states them. -/
section
namespace Go.Proofs.YtkjkolacnpknoaaGreat
open Go Go.Ab Go.RowKit
set_option linter.unusedSimpArgs false
set_option linter.unusedVariables false
set_option linter.unnecessarySimpa false

attribute [local simp] condK_true condK_false condK_not wpc_skip wpc_ret wpc_exit wpc_seq wpc_reg wpc_regD testA_bool wpc_cond wpc_block thenA_normal thenA_ret thenA_exit blockA_normal blockA_ret blockA_exit blockA_other endA_normal endA_ret ev_tmp' ev_const ev_func ev_global cv_int cv_bool cv_string cv_pointer cv_slice cv_agg cv_map put_some put_none wH_s setE_apply setE_env less_eq env_cons env_nil upd_upd upd_apply del_apply startA_eq cells_ag cells_sl one_sl cells_vs one_vs cells_ep one_ep cells_fn one_fn cells_int one_int cells_bool one_bool cells_string one_string cells_pointer one_pointer cells_slice one_slice cells_map one_map cells_agg resK_one resK_nil resK_two rvK_t rvK_c rvsK_nil rvsK_cons iseq_nil iseq_cons gdA_true gdA_false gdA_undef istep_free istep_guard istepV_free istepV_guard dseq_nil dseq_pu dseq_rd dseq_ef wpc_regT dtree_nil dtree_pu dtree_rd dtree_ef dtree_br chkAll_nil chkAll_cons andK_true pickK_true pickK_false pickK_tb pickK_fb bin2K_pl eqbK_eq eqbK_ne eqpK_eq eqpK_ne eqmK_eq eqmK_ne eqzK_eq eqzK_ne eqzK_sl eqzK_vs un1K_pl convK_int fillK_some fillA_cons fillA_nil cellsK_some needK_true needK_ok seeK_ep seeK_ptr oneK_agg oneK_one nilcK_ptr nilcK_ep fadrK_ptr fadrK_ep fldK_ag iadAK_ptr iadAK_ep iadSK_sl iadSK_vs extK_0 extK_1 extK_2 extK_3 lenK_pl lenK_sl lenK_vs lensK_pl boxK_some minmax1K_int storeK_ptr callvK_fn callvK_pl newsK_nil newsK_vs newsK_sl appK_nil appK_nil0 appK_sl appK_vs bnd1K_int bndK_none bndK_some slsK_vs slsK_nil slsK_sl0 slsK_sl slstrK_pl boolK_some eqsK_ag iop_eqs iop_sls iop_slstr seesK_some seesK_ro mapsK_some MAP_some findK_some findK_none plK_pl nmapK_none nmapK_some iop_mlook iop_mlen iop_mmk iop_mupd iop_mdel iop_mrng itK_none itK_some ptr0K_ptr iop_mnxt iop_ment it1K_some entK_some iop_mov iop_pick iop_bin iop_eqb iop_eqp iop_eqm iop_eqz iop_un capK_pl capK_sl capK_vs iop_cap iop_b2s b2sK_nil b2sK_sl b2sK_vs strK_some iop_idxv idxvK_ag atK_some apzK_nil iop_apz mksK_int iop_mks clrK_sl clrK_vs clrK_nil iop_clr iop_conv iop_build iop_load iop_nilc iop_fadr iop_fld iop_iadA iop_iadS iop_ext iop_mkf iop_len iop_lens iop_minmax iop_al iop_box iop_bsl iop_store iop_call iop_callv iop_app BIN_add BIN_sub BIN_mul BIN_and BIN_or BIN_xor BIN_andNot BIN_eql BIN_neq BIN_lss BIN_leq BIN_gtr BIN_geq BIN_quo BIN_rem BIN_shl BIN_shr BIN_sadd BIN_seql BIN_sneq BIN_slss BIN_sleq BIN_sgtr BIN_sgeq UN_neg UN_xor UN_not MM_nil MM_cons partsA argsA ptrA lessL eqL min2I slotN_int slotP_int slotI_int
attribute [local simp] rc_len rc_t4 rc_t1 rc_t2 rc_t3 rc_d1 rc_d2 rc_d3 rc_d4 rc_ag rc_one rc_eq

def dstep (out : List Int) (x : Int) : List Int := if out.getLast? = some x then out else out ++ [x]
def dd (l : List Int) : List Int := l.foldl dstep []
theorem dd_snoc (l : List Int) (x : Int) : dd (l ++ [x]) = dstep (dd l) x := by simp [dd, List.foldl_append]
theorem dd_last : ∀ l : List Int, (dd l).getLast? = l.getLast? := by
  intro l
  rcases list_snoc l with rfl | ⟨o, x, rfl⟩
  · rfl
  · rw [dd_snoc]
    unfold dstep
    split
    · rename_i h; rw [h]; simp
    · simp
theorem dd_len : ∀ l : List Int, (dd l).length ≤ l.length := by
  intro l
  induction h : l.length generalizing l with
  | zero => obtain rfl := List.length_eq_zero_iff.1 h; simp [dd]
  | succ n ih =>
    rcases list_snoc l with rfl | ⟨o, x, rfl⟩
    · simp at h
    · have := ih o (by simpa using h)
      rw [dd_snoc]; unfold dstep
      split
      · omega
      · simp; omega
theorem dd_sorted (l : List Int) (hs : l.Pairwise (· ≤ ·)) : (dd l).Pairwise (· < ·) ∧ ∀ x, x ∈ dd l ↔ x ∈ l := by
  induction h : l.length generalizing l with
  | zero => obtain rfl := List.length_eq_zero_iff.1 h; simp [dd]
  | succ n ih =>
    rcases list_snoc l with rfl | ⟨o, x, rfl⟩
    · simp at h
    · obtain ⟨h1, h2, h3⟩ := List.pairwise_append.1 hs
      obtain ⟨g1, g2⟩ := ih o h1 (by simpa using h)
      rw [dd_snoc]
      unfold dstep
      split
      · rename_i hl
        have hx : x ∈ o := (g2 x).1 (List.mem_of_getLast? hl)
        refine ⟨g1, fun y => ?_⟩
        rw [g2, List.mem_append, List.mem_singleton]
        exact ⟨.inl, fun h => h.elim id fun e => e ▸ hx⟩
      · rename_i hl
        refine ⟨List.pairwise_append.2 ⟨g1, by simp, fun a ha b hb => ?_⟩, fun y => by rw [List.mem_append, g2, List.mem_append]⟩
        rw [List.mem_singleton.1 hb]
        have hao := (g2 a).1 ha
        have hle := h3 a hao x (by simp)
        rcases Int.lt_or_eq_of_le hle with g | e
        · exact g
        exfalso
        refine hl ?_
        subst e
        rw [dd_last]
        -- the last is a's equal: it lies between
        rcases list_snoc o with rfl | ⟨o2, z, rfl⟩
        · simp at hao
        · have e1 : a ≤ z := by
            rcases List.mem_append.1 hao with g | g
            · exact (List.pairwise_append.1 h1).2.2 a g z (by simp)
            · rw [List.mem_singleton.1 g]; exact Int.le_refl _
          have e2 := h3 z (by simp) a (by simp)
          simp; omega
theorem take_last {l : List Int} {p : Nat} (h : p < l.length) : (l.take (p + 1)).getLast? = some l[p] := by rw [take_snoc' h, List.getLast?_append]; rfl
theorem dd_take {l : List Int} {p : Nat} (h : p + 1 < l.length) : dd (l.take (p + 2)) = if l[p] = l[p + 1] then dd (l.take (p + 1)) else dd (l.take (p + 1)) ++ [l[p + 1]] := by
  rw [take_snoc' h, dd_snoc, dstep, dd_last, take_last (by omega)]
  simp
theorem dd_pos {l : List Int} {p : Nat} (h : p < l.length) : 0 < (dd (l.take (p + 1))).length := by
  have := dd_last (l.take (p + 1))
  rw [take_last h] at this
  cases e : dd (l.take (p + 1)) with
  | nil => rw [e] at this; simp at this
  | cons a b => simp
theorem drop_at {l : List Int} {i : Nat} (h : i < l.length) : ((l.map vi).drop i).take 1 = [vi l[i]] := by
  rw [List.drop_eq_getElem_cons (by simpa using h)]; simp
theorem c81 {H0 : AH} {K : AV → AH → Prop} {q : Nat} {f : Bool} {l : List Int} (hq : H0 q = none) (hl : l.length ≤ 100000000)
    (hk : ∀ out H', RowS H0 H' out ((dd l).map vi) (dd l).length 1 → K out H') :
    @AC Tryz.prog 81 [.sl q 0 l.length 1 f] (upd H0 q (.cells (l.map vi))) ⟨K⟩ := by
  refine AC_of (.forget ?_)
  refine call_c follows cf81_ok (by simp) ?_
  by_cases h2 : l.length < 2
  · have h2' : (l.length : Int) < 2 := by omega
    simp [h2']
    have e : dd l = l := by
      match l, h2 with
      | [], _ => rfl
      | [x], _ => rfl
    refine ⟨_, Sub.refl _, hk _ _ (.inr ⟨q, f, l.map vi, by rw [e], hq, by rw [e]; simp, by rw [e, Nat.mul_one]; exact List.take_of_length_le (by simp), rfl⟩)⟩
  have h2' : ¬ (l.length : Int) < 2 := by omega
  simp [h2']
  refine wpc_loop (fun s => ∃ (k : Nat), s.n = 61 ∧ s.H = upd H0 q (.cells (l.map vi)) ∧ s.t 0 = .sl q 0 l.length 1 f ∧ s.t 3 = vi ((k : Int) + 1) ∧ k < l.length ∧ dd (l.take (k + 1)) = l.take (k + 1)) (fun s => l.length - slotN (s.t 3)) ?_ ?_
  · exact FgK.same ⟨0, by simp, by simp, by simp, by simp, by omega, by rw [take_snoc' (by omega)]; simp [dd, dstep]⟩
  rintro s ⟨k, hn, hH, e0, e3, hkl, hd⟩
  by_cases hlt : k + 1 < l.length
  · have wr := IntWalk.i64_in ((k : Int) + 1 + 1) (by omega)
    have wk := IntWalk.i64_in (k : Int) (by omega)
    have hlt' : (k : Int) + 1 < l.length := by omega
    have r1 := drop_at hlt
    have r0 := drop_at (show k < l.length by omega)
    have dt := dd_take hlt
    have et := take_snoc' hlt
    generalize l[k + 1] = x1 at *
    generalize l[k] = x0 at *
    simp (disch := omega) [hn, hH, e0, e3, hlt', wk, r1, r0]
    by_cases h : x1 = x0
    · subst h
      rw [if_pos rfl, hd] at dt
      have k10 : ¬ (k : Int) + 1 = 0 := by omega
      simp (disch := omega) [hn, e0, hlt', k10]
      have hm : ((l.length : Int) - ((k : Int) + 1)).toNat = l.length - (k + 1) := by omega
      refine wpc_loop (fun s' => ∃ (j w : Nat) (C : List AV), s'.n = 61 ∧ s'.H = upd H0 q (.cells C) ∧ s'.t 0 = .sl q 0 l.length 1 f ∧ s'.t 3 = vi w ∧ s'.t 4 = .sl q (k + 1) (l.length - (k + 1)) 1 f ∧ s'.t 5 = vi ((j : Int) + 1) ∧ k + 2 + j ≤ l.length ∧
        w = (dd (l.take (k + 2 + j))).length ∧ C.length = l.length ∧ C.take w = (dd (l.take (k + 2 + j))).map vi ∧ C.drop (k + 1 + j) = (l.map vi).drop (k + 1 + j) ∧ w ≤ k + 1 + j) (fun s' => l.length - slotN (s'.t 5)) ?_ ?_
      · refine FgK.same ⟨0, k + 1, l.map vi, by simp, by simp [hH], by simp [e0], by simp [e3], by simp [hm], by simp, by omega, ?_, by simp, ?_, rfl, by omega⟩
        · rw [Nat.add_zero, dt, List.length_take]; omega
        · rw [Nat.add_zero, dt, List.map_take]
      clear hn hH e0 e3
      rintro s' ⟨j, w, C, hn, hH, e0, e3, e4, e5, hj, hw, hCl, hCt, hCd, hwk⟩
      by_cases hlt2 : k + 2 + j < l.length
      · have wr2 := IntWalk.i64_in ((j : Int) + 1 + 1) (by omega)
        have wj := IntWalk.i64_in (j : Int) (by omega)
        have ww := IntWalk.i64_in ((w : Int) + 1) (by omega)
        have hm2 : ((l.length - (k + 1) : Nat) : Int) = (l.length : Int) - (k + 1) := by omega
        have hjm : (j : Int) + 1 < (l.length - (k + 1) : Nat) := by omega
        have q0 : (C.drop (k + 1 + j)).take 1 = [vi l[k + 1 + j]] := by rw [hCd]; exact drop_at (by omega)
        have hCd2 : C.drop (k + 1 + (j + 1)) = (l.map vi).drop (k + 1 + (j + 1)) := by
          have := congrArg (List.drop 1) hCd
          rw [List.drop_drop, List.drop_drop] at this
          exact this
        have q1 : (C.drop (k + 1 + (j + 1))).take 1 = [vi l[k + 1 + (j + 1)]] := by rw [hCd2]; exact drop_at (by omega)
        have dt2 := dd_take (l := l) (p := k + 1 + j) (by omega)
        have ex : l[k + 1 + (j + 1)] = l[k + 1 + j + 1] := rfl
        rw [ex] at q1
        generalize l[k + 1 + j + 1] = y1 at *
        generalize l[k + 1 + j] = y0 at *
        have c1 : k + 1 + (j + 1) + 1 ≤ C.length := by omega
        have c0 : k + 1 + j + 1 ≤ C.length := by omega
        simp (disch := omega) [hn, hH, e0, e3, e4, e5, hjm, wj, q0, q1]
        have idx : k + 2 + (j + 1) = k + 1 + j + 2 := by omega
        have idx0 : k + 2 + j = k + 1 + j + 1 := by omega
        have dp := dd_pos (l := l) (p := k + 1 + j) (by omega)
        rw [← idx, ← idx0] at dt2
        rw [← idx0] at dp
        by_cases g : y1 = y0
        · subst g
          rw [if_pos rfl] at dt2
          simp (disch := omega) [hn, e5, wr2]
          exact FgK.same ⟨⟨j + 1, w, C, by simp, by simp [hH], by simp [e0], by simp [e3], by simp [e4], by simp, by omega, by rw [dt2]; exact hw, hCl, by rw [dt2]; exact hCt, hCd2, by omega⟩, by simp [e5]; omega⟩
        · have g' : ¬ y0 = y1 := fun e => g e.symm
          rw [if_neg g'] at dt2
          have hwl : w < l.length := by omega
          have hwC : w < C.length := by omega
          simp (disch := omega) [hn, hH, g, e0, e3, e4, e5, hjm, q1, hwl, hwC, ww, wr2]
          have hd1 : (C.take w ++ vi y1 :: C.drop (w + 1)).drop (w + 1) = C.drop (w + 1) := by
            rw [List.drop_append, List.drop_of_length_le (by rw [List.length_take]; omega), List.length_take, Nat.min_eq_left (by omega), show w + 1 - w = 1 by omega]
            rfl
          refine FgK.same ⟨⟨j + 1, w + 1, C.take w ++ vi y1 :: C.drop (w + 1), by simp, by simp, by simp, by simp, by simp, by simp, by omega, by rw [dt2, List.length_append, ← hw]; rfl, ?_, ?_, ?_, by omega⟩, by simp [e5]; omega⟩
          · rw [List.length_append, List.length_take, List.length_cons, List.length_drop]; omega
          · rw [List.take_append, List.take_of_length_le (by rw [List.length_take]; omega), List.length_take, Nat.min_eq_left (by omega), show w + 1 - w = 1 by omega, dt2, hCt]
            simp
          · have e1 : k + 1 + (j + 1) = (w + 1) + (k + 1 + (j + 1) - (w + 1)) := by omega
            rw [← hCd2, e1, ← List.drop_drop, hd1, List.drop_drop]
      · have hend : k + 2 + j = l.length := by omega
        rw [hend, List.take_of_length_le (Nat.le_refl _)] at hw hCt
        have hjm : ¬ (j : Int) + 1 < (l.length - (k + 1) : Nat) := by omega
        have hwl : (w : Int) < l.length := by omega
        have dp := dd_pos (l := l) (p := k + 1 + j) (by omega)
        rw [List.take_of_length_le (by omega), ← hw] at dp
        have hw0 : ¬ w = 0 := by omega
        have hwl2 : w < l.length := by omega
        simp (disch := omega) [hn, hH, e0, e3, e4, e5, hjm, hwl2, hw0]
        refine ⟨_, Sub.refl _, hk _ _ (.inr ⟨q, _, _, by rw [hw], hq, ?_, ?_, rfl⟩)⟩
        · rw [← hw, List.length_append, List.length_take]; omega
        · rw [← hw, Nat.mul_one, List.take_append_of_le_length (by rw [List.length_take]; omega), List.take_of_length_le (by rw [List.length_take]; omega)]
          exact hCt
    · have h' : ¬ x0 = x1 := fun e => h e.symm
      simp (disch := omega) [h, hn, wr]
      exact FgK.same ⟨⟨k + 1, by simp, by simp [hH], by simp [e0], by simp, by omega, by rw [dt, if_neg h', hd, et]⟩, by simp [e3]; omega⟩
  · have hlt' : ¬ (k : Int) + 1 < l.length := by omega
    have hkk : k + 1 = l.length := by omega
    rw [hkk, List.take_of_length_le (Nat.le_refl _)] at hd
    simp (disch := omega) [hn, hH, e0, e3, hlt']
    exact ⟨_, Sub.refl _, hk _ _ (.inr ⟨q, f, l.map vi, by rw [hd], hq, by rw [hd]; simp, by rw [hd, Nat.mul_one]; exact List.take_of_length_le (by simp), rfl⟩)⟩
end Go.Proofs.YtkjkolacnpknoaaGreat
end

/-! Regions of the program, walked: the runs of a row. Conditions: as each lemma states them. -/
section
namespace Go.Proofs.YtkjkolacnpknoaaGreat
open Go Go.Ab Go.RowKit
set_option linter.unusedSimpArgs false
set_option linter.unusedVariables false
set_option linter.unnecessarySimpa false

attribute [local simp] condK_true condK_false condK_not wpc_skip wpc_ret wpc_exit wpc_seq wpc_reg wpc_regD testA_bool wpc_cond wpc_block thenA_normal thenA_ret thenA_exit blockA_normal blockA_ret blockA_exit blockA_other endA_normal endA_ret ev_tmp' ev_const ev_func ev_global cv_int cv_bool cv_string cv_pointer cv_slice cv_agg cv_map put_some put_none wH_s setE_apply setE_env less_eq env_cons env_nil upd_upd upd_apply del_apply startA_eq cells_ag cells_sl one_sl cells_vs one_vs cells_ep one_ep cells_fn one_fn cells_int one_int cells_bool one_bool cells_string one_string cells_pointer one_pointer cells_slice one_slice cells_map one_map cells_agg resK_one resK_nil resK_two rvK_t rvK_c rvsK_nil rvsK_cons iseq_nil iseq_cons gdA_true gdA_false gdA_undef istep_free istep_guard istepV_free istepV_guard dseq_nil dseq_pu dseq_rd dseq_ef wpc_regT dtree_nil dtree_pu dtree_rd dtree_ef dtree_br chkAll_nil chkAll_cons andK_true pickK_true pickK_false pickK_tb pickK_fb bin2K_pl eqbK_eq eqbK_ne eqpK_eq eqpK_ne eqmK_eq eqmK_ne eqzK_eq eqzK_ne eqzK_sl eqzK_vs un1K_pl convK_int fillK_some fillA_cons fillA_nil cellsK_some needK_true needK_ok seeK_ep seeK_ptr oneK_agg oneK_one nilcK_ptr nilcK_ep fadrK_ptr fadrK_ep fldK_ag iadAK_ptr iadAK_ep iadSK_sl iadSK_vs extK_0 extK_1 extK_2 extK_3 lenK_pl lenK_sl lenK_vs lensK_pl boxK_some minmax1K_int storeK_ptr callvK_fn callvK_pl newsK_nil newsK_vs newsK_sl appK_nil appK_nil0 appK_sl appK_vs bnd1K_int bndK_none bndK_some slsK_vs slsK_nil slsK_sl0 slsK_sl slstrK_pl boolK_some eqsK_ag iop_eqs iop_sls iop_slstr seesK_some seesK_ro mapsK_some MAP_some findK_some findK_none plK_pl nmapK_none nmapK_some iop_mlook iop_mlen iop_mmk iop_mupd iop_mdel iop_mrng itK_none itK_some ptr0K_ptr iop_mnxt iop_ment it1K_some entK_some iop_mov iop_pick iop_bin iop_eqb iop_eqp iop_eqm iop_eqz iop_un capK_pl capK_sl capK_vs iop_cap iop_b2s b2sK_nil b2sK_sl b2sK_vs strK_some iop_idxv idxvK_ag atK_some apzK_nil iop_apz mksK_int iop_mks clrK_sl clrK_vs clrK_nil iop_clr iop_conv iop_build iop_load iop_nilc iop_fadr iop_fld iop_iadA iop_iadS iop_ext iop_mkf iop_len iop_lens iop_minmax iop_al iop_box iop_bsl iop_store iop_call iop_callv iop_app BIN_add BIN_sub BIN_mul BIN_and BIN_or BIN_xor BIN_andNot BIN_eql BIN_neq BIN_lss BIN_leq BIN_gtr BIN_geq BIN_quo BIN_rem BIN_shl BIN_shr BIN_sadd BIN_seql BIN_sneq BIN_slss BIN_sleq BIN_sgtr BIN_sgeq UN_neg UN_xor UN_not MM_nil MM_cons partsA argsA ptrA lessL eqL min2I slotN_int slotP_int slotI_int
attribute [local simp] rc_len rc_t4 rc_t1 rc_t2 rc_t3 rc_d1 rc_d2 rc_d3 rc_d4 rc_ag rc_one rc_eq

open Go.Proofs in
theorem sortf_nil {P : Program} {f : FuncId} {g : Value} {H : AH} (hs : ∀ (p : Option Addr) (cap : Nat) (fv : Value) (w : World), Calls P f #[.slice p 0 cap, fv] w fun e w' => e = .returned (.tuple #[]) ∧ w' = w)
    {K : AV → AH → Prop} (hk : K (.tp []) H) : ACall P f [.pl (.slice none 0 0), .pl g] H K := by
  intro S W0 w cs hr ha
  obtain ⟨v, v2, rfl⟩ : ∃ v v2, cs = #[v, v2] := by
    have := ha.1
    match cs with
    | ⟨[v, v2]⟩ => exact ⟨v, v2, rfl⟩
    | ⟨[]⟩ => simp at this
    | ⟨[_]⟩ => simp at this
    | ⟨_ :: _ :: _ :: _⟩ => simp at this
  obtain rfl := (ha.2 0 _ v rfl rfl).pl_inv
  obtain rfl := (ha.2 1 _ v2 rfl rfl).pl_inv
  refine (hs none 0 _ w).mono ?_
  rintro e w' ⟨rfl, rfl⟩
  exact ⟨_, S, _, H, rfl, Evo.refl _ _ _, hr, .tp [] #[] rfl (fun j a v ha => by simp at ha), hk⟩
def rsF (l : List R) (y : Int) : List Rn := (l.filter fun r => decide (r.y0 ≤ y) && decide (y < r.y1)).map fun r => (r.x0, r.x1)
theorem rsF_len (l : List R) (y : Int) : (rsF l y).length ≤ l.length := by unfold rsF; rw [List.length_map]; exact List.length_filter_le _ _
theorem rsF_push (l : List R) (r : R) (y : Int) : rsF (l ++ [r]) y = if (decide (r.y0 ≤ y) && decide (y < r.y1)) = true then rsF l y ++ [(r.x0, r.x1)] else rsF l y := by
  unfold rsF
  rw [List.filter_append]
  cases h : (decide (r.y0 ≤ y) && decide (y < r.y1)) <;> simp [h]
theorem rsF_ok {l : List R} {y : Int} (hc : ∀ r ∈ l, rempty r = false) : ∀ r ∈ rsF l y, r.1 < r.2 ∧ -16384 ≤ r.1 ∧ r.1 ≤ 16384 ∧ r.2 ≤ 16384 := by
  intro r hr
  obtain ⟨x, hx, rfl⟩ := List.mem_map.1 hr
  have := rempty_ok x (hc x (List.mem_filter.1 hx).1)
  simp only; omega
theorem flatB (l : List Rb) : (l.flatMap encB).map AV.pl = flat rn (l.map Subtype.val) := by
  induction l with
  | nil => rfl
  | cons x l ih => rw [List.flatMap_cons, List.map_append, ih, List.map_cons, show Subtype.val x :: l.map Subtype.val = [Subtype.val x] ++ l.map Subtype.val from rfl, flat_app, flat_one]; rfl
theorem sortRuns {K : AV → AH → Prop} {H : AH} {q : Nat} {x : Bool} {l : List Rn} (hq : H q = some (.cells (flat rn l))) (hl : l.length ≤ 100000000) (hb : ∀ r ∈ l, -16384 ≤ r.1 ∧ r.1 ≤ 16384)
    (hk : ∀ d, d.Perm l → d.Pairwise (fun a b => a.1 ≤ b.1) → K (.tp []) (upd H q (.cells (flat rn d)))) :
    @AC Tryz.prog 83 [.sl q 0 l.length 2 x, .pl (.func (.func 84) #[] #[])] H ⟨K⟩ := by
  obtain ⟨lB, rfl⟩ : ∃ lB : List Rb, lB.map Subtype.val = l := ⟨l.attach.map fun r => ⟨r.1, hb r.1 r.2⟩, by rw [List.map_map]; exact List.attach_map_subtype_val l⟩
  refine AC_of ?_
  rw [List.length_map]
  refine sortK_row (enc := encB) (lt := Go.Proofs.ltOf cfB) (fun _ => rfl) sortB (by rw [flatB]; exact hq) (by rw [List.length_map] at hl; omega) fun l' hp hs => ?_
  rw [flatB]
  refine hk _ (hp.map _) ?_
  rw [List.pairwise_map]
  refine hs.imp fun {a b} h => ?_
  have h2 : ¬ (b.1.1 - a.1.1 < 0) := of_decide_eq_false h
  omega
theorem sortRow {K : AV → AH → Prop} {H0 H : AH} {out : AV} {l : List Rn} (ho : Row H0 H out (flat rn l) l.length 2) (hl : l.length ≤ 100000000) (hb : ∀ r ∈ l, -16384 ≤ r.1 ∧ r.1 ≤ 16384)
    (hk : ∀ d H', d.Perm l → d.Pairwise (fun a b => a.1 ≤ b.1) → Row H0 H' out (flat rn d) d.length 2 → K (.tp []) H') :
    @AC Tryz.prog 83 [out, .pl (.func (.func 84) #[] #[])] H ⟨K⟩ := by
  rcases ho with ⟨f1, f2, rfl, rfl⟩ | ⟨q, rfl, hq, rfl⟩
  · obtain rfl := List.length_eq_zero_iff.1 f1
    exact AC_of (sortf_nil Tryz.slices_SortFunc_nil0 (hk [] _ (.refl _) .nil (Row.nil _ 2)))
  · refine sortRuns (by simp [upd_apply]) hl hb fun d hp hs => hk d _ hp hs ?_
    rw [← hp.length_eq, upd_upd]
    exact Row.mk hq
theorem flat_set {o : List Rn} {a b c : Int} : (flat rn (o ++ [(a, b)])).take (o.length * 2 + 1) ++ vi c :: (flat rn (o ++ [(a, b)])).drop (o.length * 2 + 2) = flat rn (o ++ [(a, c)]) := by
  have hl : (flat rn o).length = o.length * 2 := flat_len rn_l o
  rw [flat_app, flat_app, flat_one, flat_one, List.take_append, List.take_of_length_le (by omega), List.drop_append, List.drop_of_length_le (by omega), hl]
  rw [show o.length * 2 + 1 - o.length * 2 = 1 by omega, show o.length * 2 + 2 - o.length * 2 = 2 by omega]
  simp [rn]
theorem flat_last {o : List Rn} {a b : Int} : ((flat rn (o ++ [(a, b)])).drop (o.length * 2 + 1)).take 1 = [vi b] := by
  have hl : (flat rn o).length = o.length * 2 := flat_len rn_l o
  rw [flat_app, flat_one, List.drop_append, List.drop_of_length_le (by omega), hl, show o.length * 2 + 1 - o.length * 2 = 1 by omega]
  simp [rn]
theorem Sub.under {H B : AH} (h : Sub H B) (q : Nat) (o : AO) : Sub (upd H q o) (upd B q o) := by
  intro j o' hj
  simp only [upd_apply] at hj ⊢
  split
  · rename_i e; rw [if_pos e] at hj; exact hj
  · rename_i e; rw [if_neg e] at hj; exact h j o' hj
theorem Row.base {H B Hs : AH} {o : AV} {cs : List AV} {n sz : Nat} (hs : Sub H B) (h : Row B Hs o cs n sz) : ∃ H', Sub H' Hs ∧ Row H H' o cs n sz := by
  rcases h with ⟨rfl, rfl, rfl, rfl⟩ | ⟨r, rfl, hr, rfl⟩
  · exact ⟨H, hs, Row.nil H sz⟩
  · exact ⟨_, Sub.under hs r _, Row.mk (hs.none_of hr)⟩
theorem rn_mk (a b : Int) : rn (a, b) = [vi a, vi b] := rfl
attribute [local simp] rn_mk
theorem c73 {H : AH} {K : AV → AH → Prop} {a : AV} {l : List R} {y : Int} (ha : Rr H a l) (hl : l.length ≤ 1000000) (hc : ∀ r ∈ l, rempty r = false)
    (hk : ∀ out H', Row H H' out (flat rn (sumF (rsF l y))) (sumF (rsF l y)).length 2 → K out H') : @AC Tryz.prog 73 [a, vi y] H ⟨K⟩ := by
  have la := fun k => Rw.lenK ha (k := k)
  refine AC_of (.forget ?_)
  refine call_c follows cf73_ok (by simp) ?_
  simp [la]
  refine wpc_loop (fun s => ∃ (i : Nat) (out : AV), s.n = 80 ∧ s.t 1 = vi y ∧ s.t 12 = a ∧ s.t 13 = vi l.length ∧ s.t 5 = out ∧ s.t 14 = vi i ∧ i ≤ l.length ∧ Row H s.H out (flat rn (rsF (l.take i) y)) (rsF (l.take i) y).length 2) (fun s => l.length - slotN (s.t 14)) ?_ ?_
  · exact FgK.same ⟨0, vnil, by simp, by simp, by simp, by simp, by simp, by simp, by omega, by simpa [rsF, flat_nil] using Row.nil H 2⟩
  rintro s ⟨i, out, hn, e1, e12, e13, e5, e14, hi, hro⟩
  generalize hHeq : s.H = Hs at *
  have hlen := rsF_len (l.take i) y
  have htk : (l.take i).length ≤ i := by simp; omega
  by_cases hlt : i < l.length
  · have wr := IntWalk.i64_in ((i : Int) + 1) (by omega)
    obtain ⟨p, hp1, hp2⟩ := fsee rc_l (ha.sub hro.sub) hlt
    have et := take_snoc' hlt
    have hcp := rsF_push (l.take i) l[i] y
    rw [← et] at hcp
    generalize l[i] = x at *
    simp (disch := omega) [hn, hHeq, e1, e12, e13, e5, e14, hlt, hp1, hp2 _ (Sub.refl _)]
    refine newK_of fun b hb => ?_
    have hSb0 : Sub Hs (upd Hs b (.cells [vi 0, vi 0, vi 0, vi 0])) := (Sub.refl Hs).upd hb
    have hSb : Sub Hs (upd Hs b (.cells (rc x))) := (Sub.refl Hs).upd hb
    simp [hp2 _ hSb0]
    by_cases g1 : x.y0 ≤ y
    · by_cases g2 : y < x.y1
      · rw [if_pos (by simp [g1, g2])] at hcp
        simp [g1, g2]
        refine newK_of fun q hq => ?_
        have hS2 : Sub Hs (upd (upd Hs b (.cells (rc x))) q (.cells [vi x.x0, vi x.x1])) := hSb.trans ((Sub.refl _).upd hq)
        generalize hx4 : AV.sl q 0 1 2 true = x4
        have hnw : ∀ k : Nat → List AV → Prop, @NEWS (upd (upd Hs b (.cells (rc x))) q (.cells [vi x.x0, vi x.x1])) x4 2 ⟨k⟩ = k 1 [vi x.x0, vi x.x1] := by intro k; rw [← hx4]; simp
        simp [hnw]
        refine hro.app hS2 (by decide) (by simp) (flat_len rn_l _) (by omega) fun r H' hr hsr => ?_
        simp (disch := omega) [wr]
        refine FgK.of _ hsr ⟨⟨i + 1, .sl r 0 ((rsF (l.take i) y).length + 1) 2 false, by simp, by simp [e1], by simp [e12], by simp [e13], by simp, by simp, by omega, ?_⟩, by simp [e14]; omega⟩
        rw [hcp, List.length_append]
        have := Row.mk (cs := flat rn (rsF (l.take i) y ++ [(x.x0, x.x1)])) (n := (rsF (l.take i) y).length + 1) (sz := 2) hr
        rw [← flat_snoc] at this ⊢
        exact this
      · rw [if_neg (by simp [g1, g2])] at hcp
        simp (disch := omega) [g1, g2, wr]
        refine FgK.of Hs hSb ⟨⟨i + 1, out, by simp, by simp [e1], by simp [e12], by simp [e13], by simp, by simp, by omega, ?_⟩, by simp [e14]; omega⟩
        rw [hcp]; exact hro
    · rw [if_neg (by simp [g1])] at hcp
      simp (disch := omega) [g1, wr]
      refine FgK.of Hs hSb ⟨⟨i + 1, out, by simp, by simp [e1], by simp [e12], by simp [e13], by simp, by simp, by omega, ?_⟩, by simp [e14]; omega⟩
      rw [hcp]; exact hro
  · rw [List.take_of_length_le (by omega)] at hro
    have hrl := rsF_len l y
    have hok := rsF_ok (y := y) hc
    simp (disch := omega) [hn, hHeq, e1, e12, e13, e5, e14, hlt]
    refine sortRow hro (by omega) (fun r hr => ⟨(hok r hr).2.1, (hok r hr).2.2.1⟩) fun d B hp hs hB => ?_
    have hSB := hB.sub
    have hBr : Rs B out d := (hB.rin (flat_len rn_l _)).rd
    have ld := fun k => Rw.lenK hBr (k := k)
    have hdl := hp.length_eq
    have hdok : ∀ r ∈ d, r.1 < r.2 := fun r hr => (hok r (hp.mem_iff.1 hr)).1
    have hm : d.foldl mstep [] = sumF (rsF l y) := merge_eq (fun r hr => (hok r hr).1) hp hs
    clear hs hB hro
    simp [ld]
    refine wpc_loop (fun s => ∃ (i : Nat) (o : AV), s.n = 80 ∧ s.t 39 = out ∧ s.t 40 = vi d.length ∧ s.t 8 = o ∧ s.t 41 = vi i ∧ i ≤ d.length ∧ ((d.take i).foldl mstep []).length ≤ i ∧ Row B s.H o (flat rn ((d.take i).foldl mstep [])) ((d.take i).foldl mstep []).length 2) (fun s => d.length - slotN (s.t 41)) ?_ ?_
    · exact FgK.same ⟨0, vnil, by simp, by simp, by simp, by simp, by simp, by omega, by simp, by simpa [flat_nil] using Row.nil B 2⟩
    clear hn hHeq e1 e12 e13 e5 e14 hi hlt
    rintro s ⟨i, o, hn, e39, e40, e8, e41, hi, hmi, hro⟩
    generalize hHeq : s.H = Hs at *
    by_cases hlt : i < d.length
    · have wr := IntWalk.i64_in ((i : Int) + 1) (by omega)
      obtain ⟨p, hp1, hp2⟩ := fsee rn_l (hBr.sub hro.sub) hlt
      have et : (d.take (i + 1)).foldl mstep [] = mstep ((d.take i).foldl mstep []) d[i] := by rw [take_snoc' hlt, List.foldl_append]; rfl
      have hxo : d[i].2 ≤ 16384 := by have := hok d[i] (hp.mem_iff.1 (List.getElem_mem hlt)); omega
      generalize (d.take i).foldl mstep [] = m at *
      generalize d[i] = x at *
      obtain ⟨xa, xb⟩ := x
      simp only [rn_mk] at hp2
      simp (disch := omega) [hn, hHeq, e39, e40, e8, e41, hlt, hp1, hp2 _ (Sub.refl _)]
      refine newK_of fun b hb => ?_
      have hSb0 : Sub Hs (upd Hs b (.cells [vi 0, vi 0])) := (Sub.refl Hs).upd hb
      have hSb : Sub Hs (upd Hs b (.cells [vi xa, vi xb])) := (Sub.refl Hs).upd hb
      simp [hp2 _ hSb0]
      have push : mstep m (xa, xb) = m ++ [(xa, xb)] → ∀ q, upd Hs b (.cells [vi xa, vi xb]) q = none → ∀ (k : AV → AH → Prop), (∀ r H', B r = none → Sub (upd B r (.cells (flat rn (m ++ [(xa, xb)])))) H' → k (.sl r 0 (m.length + 1) 2 false) H') → @appK (upd (upd Hs b (.cells [vi xa, vi xb])) q (.cells [vi xa, vi xb])) 2 16 o 1 [vi xa, vi xb] ⟨k⟩ := by
        intro h0 q hq k hk2
        have hS2 : Sub Hs (upd (upd Hs b (.cells [vi xa, vi xb])) q (.cells [vi xa, vi xb])) := hSb.trans ((Sub.refl _).upd hq)
        refine hro.app hS2 (by decide) (rn_one (xa, xb)) (flat_len rn_l _) (by omega) fun r H' hr hsr => ?_
        rw [show [vi xa, vi xb] = rn (xa, xb) from rfl, flat_snoc] at hsr
        exact hk2 r H' hr hsr
      have done : mstep m (xa, xb) = m ++ [(xa, xb)] → ∀ r, B r = none → ((d.take (i + 1)).foldl mstep []).length ≤ i + 1 ∧ Row B (upd B r (.cells (flat rn (m ++ [(xa, xb)])))) (.sl r 0 (m.length + 1) 2 false) (flat rn ((d.take (i + 1)).foldl mstep [])) ((d.take (i + 1)).foldl mstep []).length 2 := by
        intro h0 r hr
        rw [et, h0]
        refine ⟨by rw [List.length_append]; simp; omega, ?_⟩
        have := Row.mk (cs := flat rn (m ++ [(xa, xb)])) (n := (m ++ [(xa, xb)]).length) (sz := 2) hr
        rw [List.length_append] at this ⊢
        exact this
      have lo := fun k => Rw.lenK (hro.rin (flat_len rn_l _)).rd (k := k)
      rcases list_snoc m with rfl | ⟨m0, z, rfl⟩
      · have h0 : mstep [] (xa, xb) = [] ++ [(xa, xb)] := rfl
        simp [lo]
        refine newK_of fun q hq => ?_
        generalize hx4 : AV.sl q 0 1 2 true = x4
        have hnw : ∀ k : Nat → List AV → Prop, @NEWS (upd (upd Hs b (.cells [vi xa, vi xb])) q (.cells [vi xa, vi xb])) x4 2 ⟨k⟩ = k 1 [vi xa, vi xb] := by intro k; rw [← hx4]; simp
        simp [hnw]
        refine push h0 q hq _ fun r H' hr hsr => ?_
        obtain ⟨g1, g2⟩ := done h0 r hr
        simp (disch := omega) [wr]
        exact FgK.of _ hsr ⟨⟨i + 1, .sl r 0 1 2 false, by simp, by simp [e39], by simp [e40], by simp, by simp, by omega, g1, g2⟩, by simp [e41]; omega⟩
      · obtain ⟨za, zb⟩ := z
        rcases hro with ⟨f1, _⟩ | ⟨r0, rfl, hr0, rfl⟩
        · simp at f1
        have fl := flat_last (o := m0) (a := za) (b := zb)
        have hfl : (flat rn (m0 ++ [(za, zb)])).length = m0.length * 2 + 2 := by rw [flat_len rn_l]; simp; omega
        have wo := IntWalk.i64_in (m0.length : Int) (by simp at hmi; omega)
        have hb0 := free_ne hb r0 (by simp [upd_apply])
        have hls : (m0 ++ [(za, zb)]).length = m0.length + 1 := by simp
        have fs : (flat rn (m0 ++ [(za, zb)])).take (m0.length * 2 + 1) ++ vi (max zb xb) :: (flat rn (m0 ++ [(za, zb)])).drop (m0.length * 2 + 1 + 1) = flat rn (m0 ++ [(za, max zb xb)]) := flat_set
        generalize hF : flat rn (m0 ++ [(za, zb)]) = F at *
        by_cases h : xa ≤ zb
        · have hmx : (if zb < xb then xb else zb) = max zb xb := by omega
          have h0 : mstep (m0 ++ [(za, zb)]) (xa, xb) = m0 ++ [(za, max zb xb)] := mstep_in h
          simp (disch := omega) [hb0, wo, fl, h, hfl, wr]
          rw [hmx, fs]
          have sub : Sub (upd B r0 (.cells (flat rn (m0 ++ [(za, max zb xb)])))) (upd (upd (upd B r0 (.cells F)) b (.cells [vi xa, vi xb])) r0 (.cells (flat rn (m0 ++ [(za, max zb xb)])))) := by
            intro j o hj
            simp only [upd_apply] at hj ⊢
            by_cases q1 : j = r0
            · rw [if_pos q1] at hj ⊢; exact hj
            · rw [if_neg q1] at hj ⊢
              have q2 : j ≠ b := by rintro rfl; rw [(upd_none'.1 hb).2.2] at hj; cases hj
              rw [if_neg q2, if_neg q1]; exact hj
          have hls2 : (m0 ++ [(za, max zb xb)]).length = m0.length + 1 := by simp
          refine FgK.of _ sub ⟨⟨i + 1, .sl r0 0 (m0.length + 1) 2 false, by simp, by simp, by simp, by simp, by simp, by omega, ?_, ?_⟩, by simp [e41]; omega⟩
          · rw [et, h0, hls2]; simp at hmi; omega
          · rw [et, h0, hls2]; exact Row.mk hr0
        · have h0 : mstep (m0 ++ [(za, zb)]) (xa, xb) = m0 ++ [(za, zb)] ++ [(xa, xb)] := mstep_out h
          simp (disch := omega) [hb0, wo, fl, h, hfl]
          refine newK_of fun q hq => ?_
          generalize hx4 : AV.sl q 0 1 2 true = x4
          have hnw : ∀ k : Nat → List AV → Prop, @NEWS (upd (upd (upd B r0 (.cells F)) b (.cells [vi xa, vi xb])) q (.cells [vi xa, vi xb])) x4 2 ⟨k⟩ = k 1 [vi xa, vi xb] := by intro k; rw [← hx4]; simp
          simp only [hls, List.length_append, List.length_singleton] at push done
          generalize hx8 : AV.sl r0 0 (m0.length + 1) 2 false = x8 at push ⊢
          simp [hnw]
          refine push h0 q hq _ fun r H' hr hsr => ?_
          obtain ⟨g1, g2⟩ := done h0 r hr
          simp (disch := omega) [wr]
          exact FgK.of _ hsr ⟨⟨i + 1, .sl r 0 (m0.length + 1 + 1) 2 false, by simp, by simp, by simp, by simp, by simp, by omega, g1, g2⟩, by simp [e41]; omega⟩
    · rw [List.take_of_length_le (by omega), hm] at hro
      simp (disch := omega) [hn, hHeq, e39, e40, e8, e41, hlt]
      obtain ⟨H', h1, h2⟩ := Row.base hSB hro
      exact ⟨H', h1, hk _ _ h2⟩
end Go.Proofs.YtkjkolacnpknoaaGreat
end

/-! Regions of the program, walked: the runs that are kept of two rows. Conditions: as each lemma states them. -/
section
namespace Go.Proofs.YtkjkolacnpknoaaGreat
open Go Go.Ab Go.RowKit
set_option linter.unusedSimpArgs false
set_option linter.unusedVariables false
set_option linter.unnecessarySimpa false

attribute [local simp] condK_true condK_false condK_not wpc_skip wpc_ret wpc_exit wpc_seq wpc_reg wpc_regD testA_bool wpc_cond wpc_block thenA_normal thenA_ret thenA_exit blockA_normal blockA_ret blockA_exit blockA_other endA_normal endA_ret ev_tmp' ev_const ev_func ev_global cv_int cv_bool cv_string cv_pointer cv_slice cv_agg cv_map put_some put_none wH_s setE_apply setE_env less_eq env_cons env_nil upd_upd upd_apply del_apply startA_eq cells_ag cells_sl one_sl cells_vs one_vs cells_ep one_ep cells_fn one_fn cells_int one_int cells_bool one_bool cells_string one_string cells_pointer one_pointer cells_slice one_slice cells_map one_map cells_agg resK_one resK_nil resK_two rvK_t rvK_c rvsK_nil rvsK_cons iseq_nil iseq_cons gdA_true gdA_false gdA_undef istep_free istep_guard istepV_free istepV_guard dseq_nil dseq_pu dseq_rd dseq_ef wpc_regT dtree_nil dtree_pu dtree_rd dtree_ef dtree_br chkAll_nil chkAll_cons andK_true pickK_true pickK_false pickK_tb pickK_fb bin2K_pl eqbK_eq eqbK_ne eqpK_eq eqpK_ne eqmK_eq eqmK_ne eqzK_eq eqzK_ne eqzK_sl eqzK_vs un1K_pl convK_int fillK_some fillA_cons fillA_nil cellsK_some needK_true needK_ok seeK_ep seeK_ptr oneK_agg oneK_one nilcK_ptr nilcK_ep fadrK_ptr fadrK_ep fldK_ag iadAK_ptr iadAK_ep iadSK_sl iadSK_vs extK_0 extK_1 extK_2 extK_3 lenK_pl lenK_sl lenK_vs lensK_pl boxK_some minmax1K_int storeK_ptr callvK_fn callvK_pl newsK_nil newsK_vs newsK_sl appK_nil appK_nil0 appK_sl appK_vs bnd1K_int bndK_none bndK_some slsK_vs slsK_nil slsK_sl0 slsK_sl slstrK_pl boolK_some eqsK_ag iop_eqs iop_sls iop_slstr seesK_some seesK_ro mapsK_some MAP_some findK_some findK_none plK_pl nmapK_none nmapK_some iop_mlook iop_mlen iop_mmk iop_mupd iop_mdel iop_mrng itK_none itK_some ptr0K_ptr iop_mnxt iop_ment it1K_some entK_some iop_mov iop_pick iop_bin iop_eqb iop_eqp iop_eqm iop_eqz iop_un capK_pl capK_sl capK_vs iop_cap iop_b2s b2sK_nil b2sK_sl b2sK_vs strK_some iop_idxv idxvK_ag atK_some apzK_nil iop_apz mksK_int iop_mks clrK_sl clrK_vs clrK_nil iop_clr iop_conv iop_build iop_load iop_nilc iop_fadr iop_fld iop_iadA iop_iadS iop_ext iop_mkf iop_len iop_lens iop_minmax iop_al iop_box iop_bsl iop_store iop_call iop_callv iop_app BIN_add BIN_sub BIN_mul BIN_and BIN_or BIN_xor BIN_andNot BIN_eql BIN_neq BIN_lss BIN_leq BIN_gtr BIN_geq BIN_quo BIN_rem BIN_shl BIN_shr BIN_sadd BIN_seql BIN_sneq BIN_slss BIN_sleq BIN_sgtr BIN_sgeq UN_neg UN_xor UN_not MM_nil MM_cons partsA argsA ptrA lessL eqL min2I slotN_int slotP_int slotI_int
attribute [local simp] rc_len rc_t4 rc_t1 rc_t2 rc_t3 rc_d1 rc_d2 rc_d3 rc_d4 rc_ag rc_one rc_eq

theorem pairs_len : ∀ l : List Int, (pairs l).length = l.length - 1
  | [] => rfl
  | [a] => rfl
  | a :: b :: l => by
    have := pairs_len (b :: l)
    simp only [pairs, List.length_cons] at this ⊢
    omega
theorem pairs_at : ∀ (l : List Int) (i : Nat) (h : i + 1 < l.length), (pairs l)[i]'(by rw [pairs_len]; omega) = (l[i], l[i + 1])
  | [], i, h => by simp at h
  | [a], i, h => by simp at h
  | a :: b :: l, 0, _ => rfl
  | a :: b :: l, i + 1, h => by
    have := pairs_at (b :: l) i (by simpa using h)
    simp only [pairs]
    exact this
/-- The columns at which runs begin or end. -/
def xsF (l : List Rn) : List Int := ysF (l.map fun r => ⟨0, r.1, 0, r.2⟩)
theorem mem_xsF {l : List Rn} {x : Int} : x ∈ xsF l ↔ ∃ r ∈ l, x = r.1 ∨ x = r.2 := by
  unfold xsF
  rw [mem_ysF]
  constructor
  · rintro ⟨r, hr, h⟩
    obtain ⟨s, hs, rfl⟩ := List.mem_map.1 hr
    exact ⟨s, hs, h⟩
  · rintro ⟨r, hr, h⟩
    exact ⟨_, List.mem_map.2 ⟨r, hr, rfl⟩, h⟩
theorem xsF_rising (l : List Rn) : (xsF l).Pairwise (· < ·) := ysF_rising _
theorem xsF_len (l : List Rn) : (xsF l).length ≤ 2 * l.length := by have := ysF_len (l.map fun r => (⟨0, r.1, 0, r.2⟩ : R)); simpa [xsF] using this
def cutsL (l : List Rn) : List Int := l.flatMap fun r => [r.1, r.2]
theorem cutsL_len (l : List Rn) : (cutsL l).length = 2 * l.length := by
  induction l with
  | nil => rfl
  | cons r l ih => simp only [cutsL, List.flatMap_cons, List.length_append, List.length_cons, List.length_nil] at ih ⊢; omega
theorem cutsL_snoc (l : List Rn) (r : Rn) : cutsL (l ++ [r]) = cutsL l ++ [r.1, r.2] := by simp [cutsL]
theorem cuts_eq {l : List Rn} : dd ((cutsL l).mergeSort fun x y => decide (x ≤ y)) = xsF l := by
  have hs : ((cutsL l).mergeSort fun x y => decide (x ≤ y)).Pairwise (· ≤ ·) := by
    have := List.pairwise_mergeSort (le := fun x y : Int => decide (x ≤ y)) (fun a b c h1 h2 => by simp at *; omega) (fun a b => by simp; omega) (cutsL l)
    exact this.imp fun h => by simpa using h
  obtain ⟨h1, h2⟩ := dd_sorted _ hs
  refine rising_eq _ _ h1 (xsF_rising l) fun y => ?_
  rw [h2, (List.mergeSort_perm _ _).mem_iff, mem_xsF]
  simp [cutsL]
def combF (kf : Bool → Bool → Bool) (a b : List Rn) : List Rn := keptF (fun x => kf (cvF a x) (cvF b x)) (xsF (a ++ b))
theorem cfold_len (keep : Int → Bool) (l : List Rn) : ∀ (i : Nat), ((l.take i).foldl (cstep keep) []).length ≤ i := by
  intro i
  induction i with
  | zero => simp
  | succ i ih =>
    by_cases h : i < l.length
    · rw [take_snoc' h, List.foldl_append]
      simp only [List.foldl_cons, List.foldl_nil]
      generalize (l.take i).foldl (cstep keep) [] = o at *
      unfold cstep
      split
      · split
        · split
          · simp; omega
          · simp; omega
        · simp
      · omega
    · have e : l.take (i + 1) = l.take i := by rw [List.take_of_length_le (by omega), List.take_of_length_le (by omega)]
      rw [e]; omega
/-- Sorting a row of whole numbers, and leaving out what stands twice. -/
theorem sortRowI {K : AV → AH → Prop} {H0 H : AH} {out : AV} {l : List Int} (ho : Row H0 H out (l.map vi) l.length 1) (hl : l.length ≤ 100000000)
    (hk : ∀ d H', d = l.mergeSort (fun x y => decide (x ≤ y)) → Row H0 H' out (d.map vi) d.length 1 → K (.tp []) H') : @AC Tryz.prog 79 [out] H ⟨K⟩ := by
  rcases ho with ⟨f1, f2, rfl, rfl⟩ | ⟨q, rfl, hq, rfl⟩
  · obtain rfl := List.length_eq_zero_iff.1 f1
    exact AC_of (sort_nil Tryz.slices_Sort_int_none (hk [] _ (by simp) (Row.nil _ 1)))
  · refine AC_of (sort_row (enc := Value.int .i64) (b := q) (pre := []) (post := []) (zs := l) (fun blk off cap zs w => Tryz.slices_Sort_int blk off cap zs w) (by simp [upd_apply, rowC]) (by omega) ?_)
    refine hk _ _ rfl ?_
    rw [List.length_mergeSort]
    have e : upd (upd H0 q (.cells (l.map vi))) q (.cells (rowC (Value.int .i64) [] (l.mergeSort fun x y => decide (x ≤ y)) [])) = upd H0 q (.cells ((l.mergeSort fun x y => decide (x ≤ y)).map vi)) := by
      rw [upd_upd]; simp [rowC]
    rw [e]
    exact Row.mk hq
theorem compactRow {K : AV → AH → Prop} {H0 H : AH} {out : AV} {l : List Int} (ho : Row H0 H out (l.map vi) l.length 1) (hl : l.length ≤ 100000000)
    (hk : ∀ out' H', RowS H0 H' out' ((dd l).map vi) (dd l).length 1 → K out' H') : @AC Tryz.prog 81 [out] H ⟨K⟩ := by
  rcases ho with ⟨f1, f2, rfl, rfl⟩ | ⟨q, rfl, hq, rfl⟩
  · obtain rfl := List.length_eq_zero_iff.1 f1
    refine call_c follows cf81_ok (by simp) ?_
    simp
    exact hk _ _ (.inl ⟨rfl, rfl, rfl, rfl⟩)
  · exact c81 hq hl hk
end Go.Proofs.YtkjkolacnpknoaaGreat
end

/-! Regions of the program, walked: combine. Conditions: as each lemma states them. -/
section
namespace Go.Proofs.YtkjkolacnpknoaaGreat
open Go Go.Ab Go.RowKit
set_option linter.unusedSimpArgs false
set_option linter.unusedVariables false
set_option linter.unnecessarySimpa false

attribute [local simp] condK_true condK_false condK_not wpc_skip wpc_ret wpc_exit wpc_seq wpc_reg wpc_regD testA_bool wpc_cond wpc_block thenA_normal thenA_ret thenA_exit blockA_normal blockA_ret blockA_exit blockA_other endA_normal endA_ret ev_tmp' ev_const ev_func ev_global cv_int cv_bool cv_string cv_pointer cv_slice cv_agg cv_map put_some put_none wH_s setE_apply setE_env less_eq env_cons env_nil upd_upd upd_apply del_apply startA_eq cells_ag cells_sl one_sl cells_vs one_vs cells_ep one_ep cells_fn one_fn cells_int one_int cells_bool one_bool cells_string one_string cells_pointer one_pointer cells_slice one_slice cells_map one_map cells_agg resK_one resK_nil resK_two rvK_t rvK_c rvsK_nil rvsK_cons iseq_nil iseq_cons gdA_true gdA_false gdA_undef istep_free istep_guard istepV_free istepV_guard dseq_nil dseq_pu dseq_rd dseq_ef wpc_regT dtree_nil dtree_pu dtree_rd dtree_ef dtree_br chkAll_nil chkAll_cons andK_true pickK_true pickK_false pickK_tb pickK_fb bin2K_pl eqbK_eq eqbK_ne eqpK_eq eqpK_ne eqmK_eq eqmK_ne eqzK_eq eqzK_ne eqzK_sl eqzK_vs un1K_pl convK_int fillK_some fillA_cons fillA_nil cellsK_some needK_true needK_ok seeK_ep seeK_ptr oneK_agg oneK_one nilcK_ptr nilcK_ep fadrK_ptr fadrK_ep fldK_ag iadAK_ptr iadAK_ep iadSK_sl iadSK_vs extK_0 extK_1 extK_2 extK_3 lenK_pl lenK_sl lenK_vs lensK_pl boxK_some minmax1K_int storeK_ptr callvK_fn callvK_pl newsK_nil newsK_vs newsK_sl appK_nil appK_nil0 appK_sl appK_vs bnd1K_int bndK_none bndK_some slsK_vs slsK_nil slsK_sl0 slsK_sl slstrK_pl boolK_some eqsK_ag iop_eqs iop_sls iop_slstr seesK_some seesK_ro mapsK_some MAP_some findK_some findK_none plK_pl nmapK_none nmapK_some iop_mlook iop_mlen iop_mmk iop_mupd iop_mdel iop_mrng itK_none itK_some ptr0K_ptr iop_mnxt iop_ment it1K_some entK_some iop_mov iop_pick iop_bin iop_eqb iop_eqp iop_eqm iop_eqz iop_un capK_pl capK_sl capK_vs iop_cap iop_b2s b2sK_nil b2sK_sl b2sK_vs strK_some iop_idxv idxvK_ag atK_some apzK_nil iop_apz mksK_int iop_mks clrK_sl clrK_vs clrK_nil iop_clr iop_conv iop_build iop_load iop_nilc iop_fadr iop_fld iop_iadA iop_iadS iop_ext iop_mkf iop_len iop_lens iop_minmax iop_al iop_box iop_bsl iop_store iop_call iop_callv iop_app BIN_add BIN_sub BIN_mul BIN_and BIN_or BIN_xor BIN_andNot BIN_eql BIN_neq BIN_lss BIN_leq BIN_gtr BIN_geq BIN_quo BIN_rem BIN_shl BIN_shr BIN_sadd BIN_seql BIN_sneq BIN_slss BIN_sleq BIN_sgtr BIN_sgeq UN_neg UN_xor UN_not MM_nil MM_cons partsA argsA ptrA lessL eqL min2I slotN_int slotP_int slotI_int
attribute [local simp] rc_len rc_t4 rc_t1 rc_t2 rc_t3 rc_d1 rc_d2 rc_d3 rc_d4 rc_ag rc_one rc_eq

attribute [local simp] rn_mk
theorem c72 {H : AH} {K : AV → AH → Prop} {a b : AV} {la lb : List Rn} {g : Nat} {kf : Bool → Bool → Bool} (ha : Rs H a la) (hb : Rs H b lb) (hla : la.length ≤ 2000000) (hlb : lb.length ≤ 2000000)
    (hgood : goodCallee Tryz.prog g = true) (hg : ∀ (x y : Bool) (H : AH) (K : AV → AH → Prop), K (vb (kf x y)) H → @AC Tryz.prog g [vb x, vb y] H ⟨K⟩)
    (hk : ∀ out H', Row H H' out (flat rn (combF kf la lb)) (combF kf la lb).length 2 → K out H') : @AC Tryz.prog 72 [a, b, .pl (.func (.func g) #[] #[])] H ⟨K⟩ := by
  have oa := Rw.one ha
  have ob := Rw.one hb
  have aa := Rw.cells ha
  have ab := Rw.cells hb
  refine AC_of (.forget ?_)
  refine call_c follows cf72_ok (by simp) ?_
  simp [oa, ob, aa, ab]
  refine newK_of fun q0 hq0 => ?_
  have hS0 : Sub H (upd H q0 (.cells [a, b])) := (Sub.refl H).upd hq0
  simp
  refine c80 (la := la) (lb := lb) (.sl (by simp) (by simp [upd_apply])) (ha.sub hS0) (hb.sub hS0) (by omega) (by omega) fun o1 H1 ho1 => ?_
  have hS1 : Sub H H1 := hS0.trans ho1.sub
  have hr1 := ho1.rw
  clear ho1
  have hll : (la ++ lb).length ≤ 4000000 := by rw [List.length_append]; omega
  have hcut := cuts_eq (l := la ++ lb)
  have hxl := xsF_len (la ++ lb)
  have hxr := xsF_rising (la ++ lb)
  have hkf : combF kf la lb = (pairs (xsF (la ++ lb))).foldl (cstep (fun x => kf (cvF la x) (cvF lb x))) [] := (kept_eq hxr).symm
  have hfl := cfold_len (fun x => kf (cvF la x) (cvF lb x)) (pairs (xsF (la ++ lb)))
  generalize hab : la ++ lb = lab at *
  have l1 := fun k => Rw.lenK hr1 (k := k)
  simp [l1]
  refine wpc_loop (fun s => ∃ (i : Nat) (out : AV), s.n = 97 ∧ s.t 0 = a ∧ s.t 1 = b ∧ s.t 2 = .pl (.func (.func g) #[] #[]) ∧ s.t 16 = o1 ∧ s.t 17 = vi lab.length ∧ s.t 7 = out ∧ s.t 18 = vi i ∧ i ≤ lab.length ∧ Row H1 s.H out ((cutsL (lab.take i)).map vi) (cutsL (lab.take i)).length 1) (fun s => lab.length - slotN (s.t 18)) ?_ ?_
  · exact FgK.same ⟨0, vnil, by simp, by simp, by simp, by simp, by simp, by simp, by simp, by simp, by omega, by simpa [cutsL] using Row.nil H1 1⟩
  rintro s ⟨i, out, hn, e0, e1, e2, e16, e17, e7, e18, hi, hro⟩
  generalize hHeq : s.H = Hs at *
  have hlen := cutsL_len (lab.take i)
  have htk : (lab.take i).length ≤ i := by simp; omega
  by_cases hlt : i < lab.length
  · have wr := IntWalk.i64_in ((i : Int) + 1) (by omega)
    obtain ⟨p, hp1, hp2⟩ := fsee rn_l (hr1.sub hro.sub) hlt
    have et := take_snoc' hlt
    have hcp := cutsL_snoc (lab.take i) lab[i]
    rw [← et] at hcp
    generalize lab[i] = x at *
    obtain ⟨xa, xb⟩ := x
    simp only [rn_mk] at hp2 hcp
    simp (disch := omega) [hn, hHeq, e0, e1, e2, e16, e17, e7, e18, hlt, hp1, hp2 _ (Sub.refl _)]
    refine newK_of fun y hy => ?_
    have hSy0 : Sub Hs (upd Hs y (.cells [vi 0, vi 0])) := (Sub.refl Hs).upd hy
    have hSy : Sub Hs (upd Hs y (.cells [vi xa, vi xb])) := (Sub.refl Hs).upd hy
    simp [hp2 _ hSy0]
    refine newK_of fun q hq => ?_
    have hS2 : Sub Hs (upd (upd Hs y (.cells [vi xa, vi xb])) q (.cells [vi xa, vi xb])) := hSy.trans ((Sub.refl _).upd hq)
    generalize hx4 : AV.sl q 0 2 1 true = x4
    have hnw : ∀ k : Nat → List AV → Prop, @NEWS (upd (upd Hs y (.cells [vi xa, vi xb])) q (.cells [vi xa, vi xb])) x4 1 ⟨k⟩ = k 2 [vi xa, vi xb] := by intro k; rw [← hx4]; simp
    simp [hnw]
    refine hro.app hS2 (by decide) (by simp) (by simp) (by omega) fun r H' hr hsr => ?_
    simp (disch := omega) [wr]
    refine FgK.of _ hsr ⟨⟨i + 1, .sl r 0 ((cutsL (lab.take i)).length + 2) 1 false, by simp, by simp, by simp, by simp, by simp [e16], by simp [e17], by simp, by simp, by omega, ?_⟩, by simp [e18]; omega⟩
    rw [hcp, List.length_append, List.map_append]
    exact Row.mk hr
  · rw [List.take_of_length_le (by omega)] at hro hlen
    simp (disch := omega) [hn, hHeq, e0, e1, e2, e16, e17, e7, e18, hlt]
    refine sortRowI hro (by omega) fun d H2 hd h2 => ?_
    simp
    have hdl : d.length ≤ 100000000 := by rw [hd, List.length_mergeSort]; omega
    refine compactRow h2 hdl fun o2 B hB => ?_
    rw [hd, hcut] at hB
    have hSB : Sub H B := hS1.trans hB.sub
    have hc : Ri B o2 (xsF lab) := hB.rw
    have lc := fun k => hc.lenK (k := k)
    clear hB h2 hd hdl hro hcut hr1
    generalize hcs : xsF lab = cs at *
    simp
    have ha' : Rs B a la := ha.sub hSB
    have hb' : Rs B b lb := hb.sub hSB
    clear hn hHeq e0 e1 e2 e16 e17 e7 e18 hi hlt hlen htk ha hb
    refine wpc_loop (fun s => ∃ (i : Nat) (o : AV), s.n = 97 ∧ s.t 0 = a ∧ s.t 1 = b ∧ s.t 2 = .pl (.func (.func g) #[] #[]) ∧ s.t 7 = o2 ∧ s.t 10 = o ∧ s.t 11 = vi i ∧ i ≤ cs.length ∧
      Row B s.H o (flat rn (((pairs cs).take i).foldl (cstep (fun x => kf (cvF la x) (cvF lb x))) [])) (((pairs cs).take i).foldl (cstep (fun x => kf (cvF la x) (cvF lb x))) []).length 2) (fun s => cs.length - slotN (s.t 11)) ?_ ?_
    · exact FgK.same ⟨0, vnil, by simp, by simp, by simp, by simp, by simp, by simp, by simp, by omega, by simpa [flat_nil] using Row.nil B 2⟩
    rintro s ⟨i, o, hn, e0, e1, e2, e7, e10, e11, hi, hro⟩
    generalize hHeq : s.H = Hs at *
    have hml := hfl i
    by_cases hlt : i + 1 < cs.length
    · have wr := IntWalk.i64_in ((i : Int) + 1) (by omega)
      have hlt' : (i : Int) + 1 < cs.length := by omega
      obtain ⟨p, hp1, hp2⟩ := (hc.sub hro.sub).see (show i < cs.length by omega)
      obtain ⟨p', hp1', hp2'⟩ := (hc.sub hro.sub).see hlt
      rw [show ((i + 1 : Nat) : Int) = (i : Int) + 1 by omega] at hp1'
      have lc' := fun k => (hc.sub hro.sub).lenK (k := k)
      have et : ((pairs cs).take (i + 1)).foldl (cstep (fun x => kf (cvF la x) (cvF lb x))) [] = cstep (fun x => kf (cvF la x) (cvF lb x)) (((pairs cs).take i).foldl (cstep (fun x => kf (cvF la x) (cvF lb x))) []) (cs[i], cs[i + 1]) := by
        rw [take_snoc' (by rw [pairs_len]; omega), List.foldl_append, pairs_at cs i hlt]; rfl
      generalize ((pairs cs).take i).foldl (cstep (fun x => kf (cvF la x) (cvF lb x))) [] = m at *
      generalize cs[i + 1] = y1 at *
      generalize cs[i] = y0 at *
      simp (disch := omega) [hn, hHeq, e0, e1, e2, e7, e10, e11, lc', wr, hlt', hp1, hp2 _ (Sub.refl _)]
      refine c82 (ha'.sub hro.sub) (by omega) ?_
      simp [hp2 _ (Sub.refl _)]
      refine c82 (hb'.sub hro.sub) (by omega) ?_
      simp [hgood]
      refine hg _ _ _ _ ?_
      cases hkk : kf (cvF la y0) (cvF lb y0) with
      | false =>
        have h0 : cstep (fun x => kf (cvF la x) (cvF lb x)) m (y0, y1) = m := cstep_no hkk
        simp (disch := omega) [hn, e11, wr]
        refine FgK.of Hs (Sub.refl _) ⟨⟨i + 1, o, by simp, by simp [e0], by simp [e1], by simp [e2], by simp [e7], by simp [e10], by simp, by omega, ?_⟩, by simp [e11]; omega⟩
        rw [et, h0]; exact hro
      | true =>
        have lo := fun k => Rw.lenK (hro.rin (flat_len rn_l _)).rd (k := k)
        have push : ∀ q, Hs q = none → ∀ (k : AV → AH → Prop), (∀ r H', B r = none → Sub (upd B r (.cells (flat rn (m ++ [(y0, y1)])))) H' → k (.sl r 0 (m.length + 1) 2 false) H') → @appK (upd Hs q (.cells [vi y0, vi y1])) 2 16 o 1 [vi y0, vi y1] ⟨k⟩ := by
          intro q hq k hk2
          have hS2 : Sub Hs (upd Hs q (.cells [vi y0, vi y1])) := (Sub.refl Hs).upd hq
          refine hro.app hS2 (by decide) (rn_one (y0, y1)) (flat_len rn_l _) (by omega) fun r H' hr hsr => ?_
          rw [show [vi y0, vi y1] = rn (y0, y1) from rfl, flat_snoc] at hsr
          exact hk2 r H' hr hsr
        rcases list_snoc m with rfl | ⟨m0, z, rfl⟩
        · have h0 : cstep (fun x => kf (cvF la x) (cvF lb x)) [] (y0, y1) = [(y0, y1)] := cstep_nil hkk
          simp (disch := omega) [hn, e7, e10, e11, lo, wr, hp1, hp2 _ (Sub.refl _), hp1', hp2' _ (Sub.refl _)]
          refine newK_of fun q hq => ?_
          generalize hx4 : AV.sl q 0 1 2 true = x4
          have hnw : ∀ k : Nat → List AV → Prop, @NEWS (upd Hs q (.cells [vi y0, vi y1])) x4 2 ⟨k⟩ = k 1 [vi y0, vi y1] := by intro k; rw [← hx4]; simp
          simp [hnw]
          refine push q hq _ fun r H' hr hsr => ?_
          simp (disch := omega) [e11, wr]
          refine FgK.of _ hsr ⟨⟨i + 1, .sl r 0 1 2 false, by simp, by simp [e0], by simp [e1], by simp [e2], by simp, by simp, by simp, by omega, ?_⟩, by simp [e11]; omega⟩
          rw [et, h0]; exact Row.mk hr
        · obtain ⟨za, zb⟩ := z
          rcases hro with ⟨f1, _⟩ | ⟨r0, rfl, hr0, rfl⟩
          · simp at f1
          have fl := flat_last (o := m0) (a := za) (b := zb)
          have hfl : (flat rn (m0 ++ [(za, zb)])).length = m0.length * 2 + 2 := by rw [flat_len rn_l]; simp; omega
          have wo := IntWalk.i64_in (m0.length : Int) (by simp at hml; omega)
          have hls : (m0 ++ [(za, zb)]).length = m0.length + 1 := by simp
          have fs : (flat rn (m0 ++ [(za, zb)])).take (m0.length * 2 + 1) ++ vi y1 :: (flat rn (m0 ++ [(za, zb)])).drop (m0.length * 2 + 1 + 1) = flat rn (m0 ++ [(za, y1)]) := flat_set
          generalize hF : flat rn (m0 ++ [(za, zb)]) = F at *
          by_cases h : zb = y0
          · have h0 : cstep (fun x => kf (cvF la x) (cvF lb x)) (m0 ++ [(za, zb)]) (y0, y1) = m0 ++ [(za, y1)] := cstep_in hkk h
            subst h
            simp (disch := omega) [hn, e7, e10, e11, lo, wr, wo, fl, hfl, hp1, hp2 _ (Sub.refl _), hp1', hp2' _ (Sub.refl _)]
            rw [fs]
            have hls2 : (m0 ++ [(za, y1)]).length = m0.length + 1 := by simp
            refine FgK.of _ (Sub.refl _) ⟨⟨i + 1, .sl r0 0 (m0.length + 1) 2 false, by simp, by simp [e0], by simp [e1], by simp [e2], by simp, by simp, by simp, by omega, ?_⟩, by simp [e11]; omega⟩
            rw [et, h0, hls2]; exact Row.mk hr0
          · have h0 : cstep (fun x => kf (cvF la x) (cvF lb x)) (m0 ++ [(za, zb)]) (y0, y1) = m0 ++ [(za, zb)] ++ [(y0, y1)] := cstep_out hkk h
            simp (disch := omega) [hn, e7, e10, e11, lo, wr, wo, fl, hfl, h, hp1, hp2 _ (Sub.refl _), hp1', hp2' _ (Sub.refl _)]
            refine newK_of fun q hq => ?_
            generalize hx4 : AV.sl q 0 1 2 true = x4
            have hnw : ∀ k : Nat → List AV → Prop, @NEWS (upd (upd B r0 (.cells F)) q (.cells [vi y0, vi y1])) x4 2 ⟨k⟩ = k 1 [vi y0, vi y1] := by intro k; rw [← hx4]; simp
            simp only [hls] at push
            generalize hx8 : AV.sl r0 0 (m0.length + 1) 2 false = x8 at push ⊢
            simp [hnw]
            refine push q hq _ fun r H' hr hsr => ?_
            simp (disch := omega) [e11, wr]
            have hls3 : (m0 ++ [(za, zb)] ++ [(y0, y1)]).length = m0.length + 1 + 1 := by simp
            refine FgK.of _ hsr ⟨⟨i + 1, .sl r 0 (m0.length + 1 + 1) 2 false, by simp, by simp [e0], by simp [e1], by simp [e2], by simp, by simp, by simp, by omega, ?_⟩, by simp [e11]; omega⟩
            rw [et, h0, hls3]; exact Row.mk hr
    · have hlt' : ¬ (i : Int) + 1 < cs.length := by omega
      have wr := IntWalk.i64_in ((i : Int) + 1) (by omega)
      have lc' := fun k => (hc.sub hro.sub).lenK (k := k)
      rw [List.take_of_length_le (by rw [pairs_len]; omega), ← hkf] at hro
      simp (disch := omega) [hn, hHeq, e0, e1, e2, e7, e10, e11, lc', wr, hlt']
      obtain ⟨H', h1, h2⟩ := Row.base hSB hro
      exact ⟨H', h1, hk _ _ h2⟩
end Go.Proofs.YtkjkolacnpknoaaGreat
end

/-! Regions of the program, walked: bands. Conditions: as each lemma states them. -/
section
namespace Go.Proofs.YtkjkolacnpknoaaGreat
open Go Go.Ab Go.RowKit
set_option linter.unusedSimpArgs false
set_option linter.unusedVariables false
set_option linter.unnecessarySimpa false

attribute [local simp] condK_true condK_false condK_not wpc_skip wpc_ret wpc_exit wpc_seq wpc_reg wpc_regD testA_bool wpc_cond wpc_block thenA_normal thenA_ret thenA_exit blockA_normal blockA_ret blockA_exit blockA_other endA_normal endA_ret ev_tmp' ev_const ev_func ev_global cv_int cv_bool cv_string cv_pointer cv_slice cv_agg cv_map put_some put_none wH_s setE_apply setE_env less_eq env_cons env_nil upd_upd upd_apply del_apply startA_eq cells_ag cells_sl one_sl cells_vs one_vs cells_ep one_ep cells_fn one_fn cells_int one_int cells_bool one_bool cells_string one_string cells_pointer one_pointer cells_slice one_slice cells_map one_map cells_agg resK_one resK_nil resK_two rvK_t rvK_c rvsK_nil rvsK_cons iseq_nil iseq_cons gdA_true gdA_false gdA_undef istep_free istep_guard istepV_free istepV_guard dseq_nil dseq_pu dseq_rd dseq_ef wpc_regT dtree_nil dtree_pu dtree_rd dtree_ef dtree_br chkAll_nil chkAll_cons andK_true pickK_true pickK_false pickK_tb pickK_fb bin2K_pl eqbK_eq eqbK_ne eqpK_eq eqpK_ne eqmK_eq eqmK_ne eqzK_eq eqzK_ne eqzK_sl eqzK_vs un1K_pl convK_int fillK_some fillA_cons fillA_nil cellsK_some needK_true needK_ok seeK_ep seeK_ptr oneK_agg oneK_one nilcK_ptr nilcK_ep fadrK_ptr fadrK_ep fldK_ag iadAK_ptr iadAK_ep iadSK_sl iadSK_vs extK_0 extK_1 extK_2 extK_3 lenK_pl lenK_sl lenK_vs lensK_pl boxK_some minmax1K_int storeK_ptr callvK_fn callvK_pl newsK_nil newsK_vs newsK_sl appK_nil appK_nil0 appK_sl appK_vs bnd1K_int bndK_none bndK_some slsK_vs slsK_nil slsK_sl0 slsK_sl slstrK_pl boolK_some eqsK_ag iop_eqs iop_sls iop_slstr seesK_some seesK_ro mapsK_some MAP_some findK_some findK_none plK_pl nmapK_none nmapK_some iop_mlook iop_mlen iop_mmk iop_mupd iop_mdel iop_mrng itK_none itK_some ptr0K_ptr iop_mnxt iop_ment it1K_some entK_some iop_mov iop_pick iop_bin iop_eqb iop_eqp iop_eqm iop_eqz iop_un capK_pl capK_sl capK_vs iop_cap iop_b2s b2sK_nil b2sK_sl b2sK_vs strK_some iop_idxv idxvK_ag atK_some apzK_nil iop_apz mksK_int iop_mks clrK_sl clrK_vs clrK_nil iop_clr iop_conv iop_build iop_load iop_nilc iop_fadr iop_fld iop_iadA iop_iadS iop_ext iop_mkf iop_len iop_lens iop_minmax iop_al iop_box iop_bsl iop_store iop_call iop_callv iop_app BIN_add BIN_sub BIN_mul BIN_and BIN_or BIN_xor BIN_andNot BIN_eql BIN_neq BIN_lss BIN_leq BIN_gtr BIN_geq BIN_quo BIN_rem BIN_shl BIN_shr BIN_sadd BIN_seql BIN_sneq BIN_slss BIN_sleq BIN_sgtr BIN_sgeq UN_neg UN_xor UN_not MM_nil MM_cons partsA argsA ptrA lessL eqL min2I slotN_int slotP_int slotI_int
attribute [local simp] rc_len rc_t4 rc_t1 rc_t2 rc_t3 rc_d1 rc_d2 rc_d3 rc_d4 rc_ag rc_one rc_eq

attribute [local simp] rn_mk
theorem mfold_len (l : List Rn) : ∀ (o : List Rn), (l.foldl mstep o).length ≤ o.length + l.length := by
  induction l with
  | nil => intro o; simp
  | cons r l ih =>
    intro o
    have h1 := ih (mstep o r)
    have h2 : (mstep o r).length ≤ o.length + 1 := by
      rcases list_snoc o with rfl | ⟨o, z, rfl⟩
      · simp [mstep]
      · by_cases h : r.1 ≤ z.2
        · rw [mstep_in h]; simp
        · rw [mstep_out h]; simp
    rw [List.foldl_cons, List.length_cons]; omega
theorem sumF_len {l : List Rn} (h : ∀ r ∈ l, r.1 < r.2) : (sumF l).length ≤ l.length := by
  have hp := List.mergeSort_perm l (fun a b => decide (a.1 ≤ b.1))
  have hs := List.pairwise_mergeSort (le := fun a b : Rn => decide (a.1 ≤ b.1)) (fun a b c h1 h2 => by simp at *; omega) (fun a b => by simp; omega) l
  rw [← merge_eq h hp (hs.imp fun h => by simpa using h)]
  have := mfold_len (l.mergeSort fun a b => decide (a.1 ≤ b.1)) []
  simpa using this
theorem combF_len (kf : Bool → Bool → Bool) (a b : List Rn) : (combF kf a b).length ≤ 2 * (a.length + b.length) := by
  have h := kept_eq (keep := fun x => kf (cvF a x) (cvF b x)) (xsF_rising (a ++ b))
  have h2 := cfold_len (fun x => kf (cvF a x) (cvF b x)) (pairs (xsF (a ++ b))) (pairs (xsF (a ++ b))).length
  rw [List.take_of_length_le (Nat.le_refl _), h, pairs_len] at h2
  have h3 := xsF_len (a ++ b)
  rw [List.length_append] at h3
  unfold combF
  omega
theorem cl_ok (l : List R) : ∀ r ∈ cl l, rempty r = false := fun r hr => by have := (List.mem_filter.1 hr).2; simpa using this
abbrev Bd := Int × Int × List Rn
def bstep (f : Int → List Rn) (o : List Bd) (c : Rn) : List Bd := if f c.1 = [] then o else (match o.getLast? with
  | some l => if l.2.1 = c.1 ∧ l.2.2 = f c.1 then o.dropLast ++ [(l.1, c.2, l.2.2)] else o ++ [(c.1, c.2, f c.1)]
  | none => [(c.1, c.2, f c.1)])
theorem bstep_no {f : Int → List Rn} {o : List Bd} {c : Rn} (h : f c.1 = []) : bstep f o c = o := by simp [bstep, h]
theorem bstep_nil {f : Int → List Rn} {c : Rn} (h : f c.1 ≠ []) : bstep f [] c = [(c.1, c.2, f c.1)] := by simp [bstep, h]
theorem bstep_in {f : Int → List Rn} {o : List Bd} {l : Bd} {c : Rn} (h : f c.1 ≠ []) (h2 : l.2.1 = c.1) (h3 : l.2.2 = f c.1) : bstep f (o ++ [l]) c = o ++ [(l.1, c.2, l.2.2)] := by simp [bstep, h, h2, h3]
theorem bstep_out {f : Int → List Rn} {o : List Bd} {l : Bd} {c : Rn} (h : f c.1 ≠ []) (h2 : ¬ (l.2.1 = c.1 ∧ l.2.2 = f c.1)) : bstep f (o ++ [l]) c = o ++ [l] ++ [(c.1, c.2, f c.1)] := by
  unfold bstep
  rw [if_neg h]
  simp only [List.getLast?_append, List.getLast?_singleton, Option.some_or]
  rw [if_neg h2]
theorem bfold_len (f : Int → List Rn) (l : List Rn) : ∀ (i : Nat), ((l.take i).foldl (bstep f) []).length ≤ i := by
  intro i
  induction i with
  | zero => simp
  | succ i ih =>
    by_cases h : i < l.length
    · rw [take_snoc' h, List.foldl_append]
      simp only [List.foldl_cons, List.foldl_nil]
      generalize (l.take i).foldl (bstep f) [] = o at *
      unfold bstep
      split
      · omega
      · split
        · split
          · simp; omega
          · simp; omega
        · simp
    · have e : l.take (i + 1) = l.take i := by rw [List.take_of_length_le (by omega), List.take_of_length_le (by omega)]
      rw [e]; omega
def rowF (kf : Bool → Bool → Bool) (la lb : List R) (y : Int) : List Rn := combF kf (sumF (rsF la y)) (sumF (rsF lb y))
def bandsF (kf : Bool → Bool → Bool) (la lb : List R) : List Bd := (pairs (ysF (cl la ++ cl lb))).foldl (bstep (rowF kf (cl la) (cl lb))) []
/-- A band as it stands in the view: its runs behind a slice. -/
structure Z where
  f : Int
  t : Int
  r : List Rn
  v : AV
def zc (z : Z) : List AV := [vi z.f, vi z.t, z.v]
def zb (z : Z) : Bd := (z.f, z.t, z.r)
theorem zc_l (z : Z) : (zc z).length = 3 := rfl
def ZOk (B : AH) (zs : List Z) : Prop := ∀ z ∈ zs, Rs B z.v z.r ∧ z.r.length ≤ 10000000
theorem Row.grow {B H : AH} {o : AV} {cs : List AV} {n sz q : Nat} {X : AO} (h : Row B H o cs n sz) (hq : H q = none) : Row (upd B q X) (upd H q X) o cs n sz := by
  rcases h with ⟨h1, h2, h3, rfl⟩ | ⟨r, h1, hr, rfl⟩
  · exact .inl ⟨h1, h2, h3, rfl⟩
  · obtain ⟨n1, n2, hq2⟩ := upd_none'.1 hq
    refine .inr ⟨r, h1, ?_, ?_⟩
    · simp only [upd_apply]; rw [if_neg (Ne.symm n1)]; exact hr
    · funext j
      simp only [upd_apply]
      by_cases e1 : j = q
      · subst e1; rw [if_pos rfl, if_neg n1, if_pos rfl]
      · rw [if_neg e1]
        by_cases e2 : j = r
        · rw [if_pos e2, if_pos e2]
        · rw [if_neg e2, if_neg e2, if_neg e1]
end Go.Proofs.YtkjkolacnpknoaaGreat
end

/-! Regions of the program, walked: bands. Conditions: as each lemma states them. -/
section
namespace Go.Proofs.YtkjkolacnpknoaaGreat
open Go Go.Ab Go.RowKit
set_option linter.unusedSimpArgs false
set_option linter.unusedVariables false
set_option linter.unnecessarySimpa false

attribute [local simp] condK_true condK_false condK_not wpc_skip wpc_ret wpc_exit wpc_seq wpc_reg wpc_regD testA_bool wpc_cond wpc_block thenA_normal thenA_ret thenA_exit blockA_normal blockA_ret blockA_exit blockA_other endA_normal endA_ret ev_tmp' ev_const ev_func ev_global cv_int cv_bool cv_string cv_pointer cv_slice cv_agg cv_map put_some put_none wH_s setE_apply setE_env less_eq env_cons env_nil upd_upd upd_apply del_apply startA_eq cells_ag cells_sl one_sl cells_vs one_vs cells_ep one_ep cells_fn one_fn cells_int one_int cells_bool one_bool cells_string one_string cells_pointer one_pointer cells_slice one_slice cells_map one_map cells_agg resK_one resK_nil resK_two rvK_t rvK_c rvsK_nil rvsK_cons iseq_nil iseq_cons gdA_true gdA_false gdA_undef istep_free istep_guard istepV_free istepV_guard dseq_nil dseq_pu dseq_rd dseq_ef wpc_regT dtree_nil dtree_pu dtree_rd dtree_ef dtree_br chkAll_nil chkAll_cons andK_true pickK_true pickK_false pickK_tb pickK_fb bin2K_pl eqbK_eq eqbK_ne eqpK_eq eqpK_ne eqmK_eq eqmK_ne eqzK_eq eqzK_ne eqzK_sl eqzK_vs un1K_pl convK_int fillK_some fillA_cons fillA_nil cellsK_some needK_true needK_ok seeK_ep seeK_ptr oneK_agg oneK_one nilcK_ptr nilcK_ep fadrK_ptr fadrK_ep fldK_ag iadAK_ptr iadAK_ep iadSK_sl iadSK_vs extK_0 extK_1 extK_2 extK_3 lenK_pl lenK_sl lenK_vs lensK_pl boxK_some minmax1K_int storeK_ptr callvK_fn callvK_pl newsK_nil newsK_vs newsK_sl appK_nil appK_nil0 appK_sl appK_vs bnd1K_int bndK_none bndK_some slsK_vs slsK_nil slsK_sl0 slsK_sl slstrK_pl boolK_some eqsK_ag iop_eqs iop_sls iop_slstr seesK_some seesK_ro mapsK_some MAP_some findK_some findK_none plK_pl nmapK_none nmapK_some iop_mlook iop_mlen iop_mmk iop_mupd iop_mdel iop_mrng itK_none itK_some ptr0K_ptr iop_mnxt iop_ment it1K_some entK_some iop_mov iop_pick iop_bin iop_eqb iop_eqp iop_eqm iop_eqz iop_un capK_pl capK_sl capK_vs iop_cap iop_b2s b2sK_nil b2sK_sl b2sK_vs strK_some iop_idxv idxvK_ag atK_some apzK_nil iop_apz mksK_int iop_mks clrK_sl clrK_vs clrK_nil iop_clr iop_conv iop_build iop_load iop_nilc iop_fadr iop_fld iop_iadA iop_iadS iop_ext iop_mkf iop_len iop_lens iop_minmax iop_al iop_box iop_bsl iop_store iop_call iop_callv iop_app BIN_add BIN_sub BIN_mul BIN_and BIN_or BIN_xor BIN_andNot BIN_eql BIN_neq BIN_lss BIN_leq BIN_gtr BIN_geq BIN_quo BIN_rem BIN_shl BIN_shr BIN_sadd BIN_seql BIN_sneq BIN_slss BIN_sleq BIN_sgtr BIN_sgeq UN_neg UN_xor UN_not MM_nil MM_cons partsA argsA ptrA lessL eqL min2I slotN_int slotP_int slotI_int
attribute [local simp] rc_len rc_t4 rc_t1 rc_t2 rc_t3 rc_d1 rc_d2 rc_d3 rc_d4 rc_ag rc_one rc_eq

attribute [local simp] rn_mk
theorem flat_set3 {enc : Z → List AV} (he : ∀ z, (enc z).length = 3) {o : List Z} {z z' : Z} {c : AV} (h : enc z' = (enc z).take 1 ++ [c] ++ (enc z).drop 2) : (flat enc (o ++ [z])).take (o.length * 3 + 1) ++ c :: (flat enc (o ++ [z])).drop (o.length * 3 + 1 + 1) = flat enc (o ++ [z']) := by
  have hl : (flat enc o).length = o.length * 3 := flat_len he o
  rw [flat_app, flat_app, flat_one, flat_one, List.take_append, List.take_of_length_le (by omega), List.drop_append, List.drop_of_length_le (by omega), hl]
  rw [show o.length * 3 + 1 - o.length * 3 = 1 by omega, show o.length * 3 + 1 + 1 - o.length * 3 = 2 by omega, h]
  simp
theorem flat_last3 {o : List Z} {z : Z} : ((flat zc (o ++ [z])).drop (o.length * 3 + 1)).take 1 = [vi z.t] ∧ ((flat zc (o ++ [z])).drop (o.length * 3 + 2)).take 1 = [z.v] := by
  have hl : (flat zc o).length = o.length * 3 := flat_len zc_l o
  constructor
  · rw [flat_app, flat_one, List.drop_append, List.drop_of_length_le (by omega), hl, show o.length * 3 + 1 - o.length * 3 = 1 by omega]
    simp [zc]
  · rw [flat_app, flat_one, List.drop_append, List.drop_of_length_le (by omega), hl, show o.length * 3 + 2 - o.length * 3 = 2 by omega]
    simp [zc]
theorem c57 {H : AH} {K : AV → AH → Prop} {a b : AV} {la lb : List R} {g : Nat} {kf : Bool → Bool → Bool} (ha : Rr H a la) (hb : Rr H b lb) (hla : la.length ≤ 100000) (hlb : lb.length ≤ 100000)
    (hgood : goodCallee Tryz.prog g = true) (hg : ∀ (x y : Bool) (H : AH) (K : AV → AH → Prop), K (vb (kf x y)) H → @AC Tryz.prog g [vb x, vb y] H ⟨K⟩)
    (hk : ∀ out B H' zs, Sub H B → ZOk B zs → zs.map zb = bandsF kf la lb → Row B H' out (flat zc zs) zs.length 3 → K out H') : @AC Tryz.prog 57 [a, b, .pl (.func (.func g) #[] #[])] H ⟨K⟩ := by
  refine AC_of (.forget ?_)
  refine call_c follows cf57_ok (by simp) ?_
  simp
  refine c70 ha (by omega) fun o1 H1 h1 => ?_
  simp
  refine c70 (hb.sub h1.sub) (by omega) fun o2 H2 h2 => ?_
  have hca := cl_ok la
  have hcb := cl_ok lb
  have hcla := cl_len la
  have hclb := cl_len lb
  have hr1 : Rr H2 o1 (cl la) := ((h1.rin (flat_len rc_l _)).rd).sub h2.sub
  have hr2 : Rr H2 o2 (cl lb) := (h2.rin (flat_len rc_l _)).rd
  have hS2 : Sub H H2 := h1.sub.trans h2.sub
  have q1 := Rw.one hr1
  have q2 := Rw.one hr2
  have r1 := Rw.cells hr1
  have r2 := Rw.cells hr2
  clear h1 h2
  have hbf : bandsF kf la lb = (pairs (ysF (cl la ++ cl lb))).foldl (bstep (rowF kf (cl la) (cl lb))) [] := rfl
  rw [hbf] at hk
  generalize cl la = ca at *
  generalize cl lb = cb at *
  simp [q1, q2, r1, r2]
  refine newK_of fun q0 hq0 => ?_
  have hS0 : Sub H2 (upd H2 q0 (.cells [o1, o2])) := (Sub.refl H2).upd hq0
  simp
  refine c71 (la := ca) (lb := cb) (.sl (by simp) (by simp [upd_apply])) (hr1.sub hS0) (hr2.sub hS0) (by omega) (by omega) fun o3 H3 h3 => ?_
  have hS3 : Sub H2 H3 := hS0.trans h3.sub
  have hc : Ri H3 o3 (ysF (ca ++ cb)) := h3.ri
  have hr1' := hr1.sub hS3
  have hr2' := hr2.sub hS3
  have hSH : Sub H H3 := hS2.trans hS3
  have hxl := ysF_len (ca ++ cb)
  rw [List.length_append] at hxl
  have hfl := bfold_len (rowF kf ca cb) (pairs (ysF (ca ++ cb)))
  clear h3 hS0 hq0 hr1 hr2 hS2 hS3 ha hb hbf
  generalize hcs : ysF (ca ++ cb) = cs at *
  simp
  refine wpc_loop (fun s => ∃ (i : Nat) (o : AV) (B : AH) (zs : List Z), s.n = 96 ∧ s.t 0 = o1 ∧ s.t 1 = o2 ∧ s.t 2 = .pl (.func (.func g) #[] #[]) ∧ s.t 8 = o3 ∧ s.t 7 = o ∧ s.t 9 = vi i ∧ i ≤ cs.length ∧ Sub H3 B ∧ ZOk B zs ∧
      zs.map zb = ((pairs cs).take i).foldl (bstep (rowF kf ca cb)) [] ∧ Row B s.H o (flat zc zs) zs.length 3) (fun s => cs.length - slotN (s.t 9)) ?_ ?_
  · exact FgK.same ⟨0, vnil, H3, [], by simp, by simp, by simp, by simp, by simp, by simp, by simp, by omega, Sub.refl _, by simp [ZOk], by simp, by simpa [flat_nil] using Row.nil H3 3⟩
  rintro s ⟨i, o, B, zs, hn, e0, e1, e2, e8, e7, e9, hi, hSB, hz, hzs, hro⟩
  generalize hHeq : s.H = Hs at *
  have hml := hfl i
  have hzl : zs.length ≤ i := by rw [← hzs, List.length_map] at hml; exact hml
  have hSs : Sub H3 Hs := hSB.trans hro.sub
  by_cases hlt : i + 1 < cs.length
  · have wr := IntWalk.i64_in ((i : Int) + 1) (by omega)
    have hlt' : (i : Int) + 1 < cs.length := by omega
    obtain ⟨p, hp1, hp2⟩ := (hc.sub hSs).see (show i < cs.length by omega)
    obtain ⟨p', hp1', hp2'⟩ := (hc.sub hSs).see hlt
    rw [show ((i + 1 : Nat) : Int) = (i : Int) + 1 by omega] at hp1'
    have lc' := fun k => (hc.sub hSs).lenK (k := k)
    have et : ((pairs cs).take (i + 1)).foldl (bstep (rowF kf ca cb)) [] = bstep (rowF kf ca cb) (zs.map zb) (cs[i], cs[i + 1]) := by
      rw [take_snoc' (by rw [pairs_len]; omega), List.foldl_append, pairs_at cs i hlt, hzs]; rfl
    generalize cs[i + 1] = y1 at *
    generalize cs[i] = y0 at *
    simp (disch := omega) [hn, hHeq, e0, e1, e2, e7, e8, e9, lc', wr, hlt', hp1, hp2 _ (Sub.refl _)]
    refine c73 (hr1'.sub hSs) (by omega) hca fun v1 G1 g1 => ?_
    simp [hp2 _ g1.sub]
    refine c73 (hr2'.sub (hSs.trans g1.sub)) (by omega) hcb fun v2 G2 g2 => ?_
    have l1 := sumF_len (l := rsF ca y0) fun r hr => (rsF_ok hca r hr).1
    have l2 := sumF_len (l := rsF cb y0) fun r hr => (rsF_ok hcb r hr).1
    have l3 := rsF_len ca y0
    have l4 := rsF_len cb y0
    have hv1 : Rs G2 v1 (sumF (rsF ca y0)) := ((g1.rin (flat_len rn_l _)).rd).sub g2.sub
    have hv2 : Rs G2 v2 (sumF (rsF cb y0)) := (g2.rin (flat_len rn_l _)).rd
    have hG2 : Sub Hs G2 := g1.sub.trans g2.sub
    have l5 := combF_len kf (sumF (rsF ca y0)) (sumF (rsF cb y0))
    have hR : rowF kf ca cb y0 = combF kf (sumF (rsF ca y0)) (sumF (rsF cb y0)) := rfl
    simp
    refine c72 hv1 hv2 (by omega) (by omega) hgood hg fun v3 G3 g3 => ?_
    rw [← hR] at g3 l5
    generalize hRR : rowF kf ca cb y0 = rr at *
    have hrl : rr.length ≤ 1000000 := by omega
    have hv3 : Rs G3 v3 rr := (g3.rin (flat_len rn_l _)).rd
    have hG3 : Sub Hs G3 := hG2.trans g3.sub
    have lv3 := fun k => Rw.lenK hv3 (k := k)
    have ov3 := Rw.one hv3
    have cv3 := Rw.cells hv3
    clear g1 g2 hv1 hv2 l1 l2 l3 l4 l5 hR
    by_cases he : rr = []
    · have h0 : bstep (rowF kf ca cb) (zs.map zb) (y0, y1) = zs.map zb := bstep_no (by rw [hRR]; exact he)
      have he2 : rr.length = 0 := by rw [he]; rfl
      simp (disch := omega) [lv3, he2, wr]
      refine FgK.of Hs hG3 ⟨⟨i + 1, o, B, zs, by simp, by simp, by simp, by simp, by simp [e8], by simp, by simp, by omega, hSB, hz, ?_, hro⟩, by simp [e9]; omega⟩
      rw [et, h0]
    have he2 : ¬ rr.length = 0 := fun h => he (List.length_eq_zero_iff.1 h)
    have he3 : rowF kf ca cb y0 ≠ [] := by rw [hRR]; exact he
    obtain ⟨r3, rfl, hr3, rfl⟩ : ∃ r3, v3 = .sl r3 0 rr.length 2 false ∧ G2 r3 = none ∧ G3 = upd G2 r3 (.cells (flat rn rr)) := by
      rcases g3 with ⟨f1, _⟩ | g3
      · exact absurd f1 he2
      · exact g3
    have hHr3 : Hs r3 = none := hG2.none_of hr3
    have hro' := Row.grow (X := .cells (flat rn rr)) hro hHr3
    have hSu : Sub (upd Hs r3 (.cells (flat rn rr))) (upd G2 r3 (.cells (flat rn rr))) := Sub.under hG2 _ _
    have hSB' : Sub H3 (upd B r3 (.cells (flat rn rr))) := hSB.trans ((Sub.refl B).upd (hro.sub.none_of hHr3))
    have hBB' : Sub B (upd B r3 (.cells (flat rn rr))) := (Sub.refl B).upd (hro.sub.none_of hHr3)
    have hz3 : Rs (upd B r3 (.cells (flat rn rr))) (.sl r3 0 rr.length 2 false) rr := .sl (flat_len rn_l _) (by simp [upd_apply])
    have hzz : ∀ zs', ZOk B zs' → ZOk (upd B r3 (.cells (flat rn rr))) (zs' ++ [⟨y0, y1, rr, .sl r3 0 rr.length 2 false⟩]) := by
      intro zs' h z hz
      rcases List.mem_append.1 hz with hz | hz
      · exact ⟨Rw.sub (h z hz).1 hBB', (h z hz).2⟩
      · rw [List.mem_singleton.1 hz]; exact ⟨hz3, by simp only; omega⟩
    generalize hGG : upd G2 r3 (.cells (flat rn rr)) = GG at *
    generalize hBBe : upd B r3 (.cells (flat rn rr)) = BB at *
    generalize hHH : upd Hs r3 (.cells (flat rn rr)) = HH at *
    generalize hv : AV.sl r3 0 rr.length 2 false = v3 at *
    clear g3 hr3 hGG hHH
    have push : ∀ q, GG q = none → ∀ (k : AV → AH → Prop), (∀ r H', BB r = none → Sub (upd BB r (.cells (flat zc (zs ++ [⟨y0, y1, rr, v3⟩])))) H' → k (.sl r 0 (zs.length + 1) 3 false) H') → @appK (upd GG q (.cells [vi y0, vi y1, v3])) 3 40 o 1 [vi y0, vi y1, v3] ⟨k⟩ := by
      intro q hq k hk2
      have hS2 : Sub HH (upd GG q (.cells [vi y0, vi y1, v3])) := hSu.trans ((Sub.refl GG).upd hq)
      refine hro'.app hS2 (by decide) (by simp [ov3]) (flat_len zc_l _) (by omega) fun r H' hr hsr => ?_
      rw [show [vi y0, vi y1, v3] = zc ⟨y0, y1, rr, v3⟩ from rfl, flat_snoc] at hsr
      exact hk2 r H' hr hsr
    have lo := fun k => Rw.lenK (hro.rin (flat_len zc_l _)).rd (k := k)
    rcases list_snoc zs with rfl | ⟨zs0, z, rfl⟩
    · have h0 : bstep (rowF kf ca cb) [] (y0, y1) = [(y0, y1, rr)] := by rw [bstep_nil he3, hRR]
      simp (disch := omega) [lv3, he2, lo, hp1, hp2 _ hG3, hp1', hp2' _ hG3, wr, hlt', ov3, cv3]
      refine newK_of fun q hq => ?_
      generalize hx4 : AV.sl q 0 1 3 true = x4
      have hnw : ∀ k : Nat → List AV → Prop, @NEWS (upd GG q (.cells [vi y0, vi y1, v3])) x4 3 ⟨k⟩ = k 1 [vi y0, vi y1, v3] := by intro k; rw [← hx4]; simp
      simp [hnw]
      refine push q hq _ fun r H' hr hsr => ?_
      simp (disch := omega) [e9, wr]
      refine FgK.of _ hsr ⟨⟨i + 1, .sl r 0 1 3 false, BB, [⟨y0, y1, rr, v3⟩], by simp, by simp, by simp, by simp, by simp, by simp, by simp, by omega, hSB', hzz [] hz, ?_, Row.mk hr⟩, by simp [e9]; omega⟩
      rw [et, List.map_nil, h0]; rfl
    · rcases hro with ⟨f1, _⟩ | ⟨r0, rfl, hr0, rfl⟩
      · simp at f1
      obtain ⟨fl1, fl2⟩ := flat_last3 (o := zs0) (z := z)
      have hfl3 : (flat zc (zs0 ++ [z])).length = zs0.length * 3 + 3 := by rw [flat_len zc_l]; simp; omega
      have hzl' : zs0.length + 1 ≤ i := by simpa using hzl
      have wo := IntWalk.i64_in (zs0.length : Int) (by omega)
      have hls : (zs0 ++ [z]).length = zs0.length + 1 := by simp
      have fs : (flat zc (zs0 ++ [z])).take (zs0.length * 3 + 1) ++ vi y1 :: (flat zc (zs0 ++ [z])).drop (zs0.length * 3 + 1 + 1) = flat zc (zs0 ++ [{ z with t := y1 }]) := flat_set3 zc_l (by simp [zc])
      obtain ⟨hzr, hzrl⟩ := hz z (by simp)
      have hz0 : ZOk B zs0 := fun z' h' => hz z' (by simp [h'])
      have hSBs : Sub B (upd B r0 (.cells (flat zc (zs0 ++ [z])))) := (Sub.refl B).upd hr0
      have hBG : Sub B GG := hSBs.trans hG3
      have hzrG : Rs GG z.v z.r := hzr.sub hBG
      have hGr : GG r0 = some (.cells (flat zc (zs0 ++ [z]))) := hG3 r0 _ (by simp [upd_apply])
      have app3 : ∀ q, GG q = none → True := fun _ _ => trivial
      generalize hF : flat zc (zs0 ++ [z]) = F at *
      simp (disch := omega) [lv3, he2, lo, hp1, hp2 _ hG3, hp1', hp2' _ hG3, wr, hlt', ov3, cv3, hGr, wo, fl1, fl2, hfl3]
      by_cases h : z.t = y0
      · simp (disch := omega) [h, hGr, fl2, hfl3, wo]
        refine c74 hzrG hv3 (by omega) (by omega) ?_
        by_cases h5 : z.r = rr
        · simp (disch := omega) [h5, hGr, hfl3, wo, hp1', hp2' _ hG3, wr]
          rw [fs]
          refine FgK.of _ (Sub.under hBG r0 _) ⟨⟨i + 1, .sl r0 0 (zs0.length + 1) 3 false, B, zs0 ++ [{ z with t := y1 }], by simp, by simp, by simp, by simp, by simp, by simp, by simp, by omega, hSB, ?_, ?_, ?_⟩, by simp [e9]; omega⟩
          · intro z' hz'
            rcases List.mem_append.1 hz' with hz' | hz'
            · exact hz0 z' hz'
            · rw [List.mem_singleton.1 hz']; exact ⟨hzr, hzrl⟩
          · rw [et, List.map_append, List.map_append]
            simp only [List.map_cons, List.map_nil]
            rw [bstep_in he3 h (by rw [hRR]; exact h5)]
            rfl
          · have hls2 : (zs0 ++ [{ z with t := y1 }]).length = zs0.length + 1 := by simp
            rw [hls2]; exact Row.mk hr0
        · have hno : ¬ (z.t = y0 ∧ z.r = rr) := fun g => h5 g.2
          simp (disch := omega) [h5, hp1, hp2 _ hG3, hp1', hp2' _ hG3, wr, ov3, cv3]
          refine newK_of fun q hq => ?_
          generalize hx4 : AV.sl q 0 1 3 true = x4
          have hnw : ∀ k : Nat → List AV → Prop, @NEWS (upd GG q (.cells [vi y0, vi y1, v3])) x4 3 ⟨k⟩ = k 1 [vi y0, vi y1, v3] := by intro k; rw [← hx4]; simp
          simp only [hls] at push
          generalize hx8 : AV.sl r0 0 (zs0.length + 1) 3 false = x8 at push ⊢
          simp [hnw]
          refine push q hq _ fun r H' hr hsr => ?_
          simp (disch := omega) [e9, wr]
          refine FgK.of _ hsr ⟨⟨i + 1, .sl r 0 (zs0.length + 1 + 1) 3 false, BB, zs0 ++ [z] ++ [⟨y0, y1, rr, v3⟩], by simp, by simp, by simp, by simp, by simp, by simp, by simp, by omega, hSB', hzz _ hz, ?_, ?_⟩, by simp [e9]; omega⟩
          · rw [et, List.map_append, List.map_append]
            simp only [List.map_cons, List.map_nil]
            rw [bstep_out he3 (by rw [hRR]; exact hno), hRR]
            rfl
          · rw [List.length_append, hls]; exact Row.mk hr
      · have hno : ¬ (z.t = y0 ∧ z.r = rr) := fun g => h g.1
        simp (disch := omega) [h, hp1, hp2 _ hG3, hp1', hp2' _ hG3, wr, ov3, cv3]
        refine newK_of fun q hq => ?_
        generalize hx4 : AV.sl q 0 1 3 true = x4
        have hnw : ∀ k : Nat → List AV → Prop, @NEWS (upd GG q (.cells [vi y0, vi y1, v3])) x4 3 ⟨k⟩ = k 1 [vi y0, vi y1, v3] := by intro k; rw [← hx4]; simp
        simp only [hls] at push
        generalize hx8 : AV.sl r0 0 (zs0.length + 1) 3 false = x8 at push ⊢
        simp [hnw]
        refine push q hq _ fun r H' hr hsr => ?_
        simp (disch := omega) [e9, wr]
        refine FgK.of _ hsr ⟨⟨i + 1, .sl r 0 (zs0.length + 1 + 1) 3 false, BB, zs0 ++ [z] ++ [⟨y0, y1, rr, v3⟩], by simp, by simp, by simp, by simp, by simp, by simp, by simp, by omega, hSB', hzz _ hz, ?_, ?_⟩, by simp [e9]; omega⟩
        · rw [et, List.map_append, List.map_append]
          simp only [List.map_cons, List.map_nil]
          rw [bstep_out he3 (by rw [hRR]; exact hno), hRR]
          rfl
        · rw [List.length_append, hls]; exact Row.mk hr
  · have hlt' : ¬ (i : Int) + 1 < cs.length := by omega
    have wr := IntWalk.i64_in ((i : Int) + 1) (by omega)
    have lc' := fun k => (hc.sub hSs).lenK (k := k)
    rw [List.take_of_length_le (by rw [pairs_len]; omega)] at hzs
    simp (disch := omega) [hn, hHeq, e0, e1, e2, e7, e8, e9, lc', wr, hlt']
    exact ⟨Hs, Sub.refl _, hk _ _ _ zs (hSH.trans hSB) hz hzs hro⟩
end Go.Proofs.YtkjkolacnpknoaaGreat
end

/-! Regions of the program, walked: the rectangles of bands; New. Conditions: as each lemma states them. -/
section
namespace Go.Proofs.YtkjkolacnpknoaaGreat
open Go Go.Ab Go.RowKit
set_option linter.unusedSimpArgs false
set_option linter.unusedVariables false
set_option linter.unnecessarySimpa false

attribute [local simp] condK_true condK_false condK_not wpc_skip wpc_ret wpc_exit wpc_seq wpc_reg wpc_regD testA_bool wpc_cond wpc_block thenA_normal thenA_ret thenA_exit blockA_normal blockA_ret blockA_exit blockA_other endA_normal endA_ret ev_tmp' ev_const ev_func ev_global cv_int cv_bool cv_string cv_pointer cv_slice cv_agg cv_map put_some put_none wH_s setE_apply setE_env less_eq env_cons env_nil upd_upd upd_apply del_apply startA_eq cells_ag cells_sl one_sl cells_vs one_vs cells_ep one_ep cells_fn one_fn cells_int one_int cells_bool one_bool cells_string one_string cells_pointer one_pointer cells_slice one_slice cells_map one_map cells_agg resK_one resK_nil resK_two rvK_t rvK_c rvsK_nil rvsK_cons iseq_nil iseq_cons gdA_true gdA_false gdA_undef istep_free istep_guard istepV_free istepV_guard dseq_nil dseq_pu dseq_rd dseq_ef wpc_regT dtree_nil dtree_pu dtree_rd dtree_ef dtree_br chkAll_nil chkAll_cons andK_true pickK_true pickK_false pickK_tb pickK_fb bin2K_pl eqbK_eq eqbK_ne eqpK_eq eqpK_ne eqmK_eq eqmK_ne eqzK_eq eqzK_ne eqzK_sl eqzK_vs un1K_pl convK_int fillK_some fillA_cons fillA_nil cellsK_some needK_true needK_ok seeK_ep seeK_ptr oneK_agg oneK_one nilcK_ptr nilcK_ep fadrK_ptr fadrK_ep fldK_ag iadAK_ptr iadAK_ep iadSK_sl iadSK_vs extK_0 extK_1 extK_2 extK_3 lenK_pl lenK_sl lenK_vs lensK_pl boxK_some minmax1K_int storeK_ptr callvK_fn callvK_pl newsK_nil newsK_vs newsK_sl appK_nil appK_nil0 appK_sl appK_vs bnd1K_int bndK_none bndK_some slsK_vs slsK_nil slsK_sl0 slsK_sl slstrK_pl boolK_some eqsK_ag iop_eqs iop_sls iop_slstr seesK_some seesK_ro mapsK_some MAP_some findK_some findK_none plK_pl nmapK_none nmapK_some iop_mlook iop_mlen iop_mmk iop_mupd iop_mdel iop_mrng itK_none itK_some ptr0K_ptr iop_mnxt iop_ment it1K_some entK_some iop_mov iop_pick iop_bin iop_eqb iop_eqp iop_eqm iop_eqz iop_un capK_pl capK_sl capK_vs iop_cap iop_b2s b2sK_nil b2sK_sl b2sK_vs strK_some iop_idxv idxvK_ag atK_some apzK_nil iop_apz mksK_int iop_mks clrK_sl clrK_vs clrK_nil iop_clr iop_conv iop_build iop_load iop_nilc iop_fadr iop_fld iop_iadA iop_iadS iop_ext iop_mkf iop_len iop_lens iop_minmax iop_al iop_box iop_bsl iop_store iop_call iop_callv iop_app BIN_add BIN_sub BIN_mul BIN_and BIN_or BIN_xor BIN_andNot BIN_eql BIN_neq BIN_lss BIN_leq BIN_gtr BIN_geq BIN_quo BIN_rem BIN_shl BIN_shr BIN_sadd BIN_seql BIN_sneq BIN_slss BIN_sleq BIN_sgtr BIN_sgeq UN_neg UN_xor UN_not MM_nil MM_cons partsA argsA ptrA lessL eqL min2I slotN_int slotP_int slotI_int
attribute [local simp] rc_len rc_t4 rc_t1 rc_t2 rc_t3 rc_d1 rc_d2 rc_d3 rc_d4 rc_ag rc_one rc_eq

attribute [local simp] rn_mk
def mkR (f t : Int) (r : Rn) : R := ⟨r.1, f, r.2, t⟩
def rectsF (bs : List Bd) : List R := bs.flatMap fun b => b.2.2.map (mkR b.1 b.2.1)
theorem rectsF_snoc (bs : List Bd) (b : Bd) : rectsF (bs ++ [b]) = rectsF bs ++ b.2.2.map (mkR b.1 b.2.1) := by simp [rectsF]
theorem rectsZ_len {B : AH} {zs : List Z} (h : ZOk B zs) : ∀ i, (rectsF ((zs.take i).map zb)).length ≤ i * 10000000 := by
  intro i
  induction i with
  | zero => simp [rectsF]
  | succ i ih =>
    by_cases hi : i < zs.length
    · rw [take_snoc' hi, List.map_append, List.map_cons, List.map_nil, rectsF_snoc, List.length_append, List.length_map]
      have := (h zs[i] (List.getElem_mem hi)).2
      have e : (zb zs[i]).2.2 = zs[i].r := rfl
      rw [e]; omega
    · have e : zs.take (i + 1) = zs.take i := by rw [List.take_of_length_le (by omega), List.take_of_length_le (by omega)]
      rw [e]; exact Nat.le_trans ih (Nat.mul_le_mul_right _ (by omega))
theorem c56 {H : AH} {K : AV → AH → Prop} {a : AV} {zs : List Z} (ha : Rw H a (flat zc zs) zs.length 3) (hz : ZOk H zs) (hl : zs.length ≤ 400000)
    (hk : ∀ out H', Row H H' out (flat rc (rectsF (zs.map zb))) (rectsF (zs.map zb)).length 4 → K out H') : @AC Tryz.prog 56 [a] H ⟨K⟩ := by
  have la := fun k => Rw.lenK ha (k := k)
  refine AC_of (.forget ?_)
  refine call_c follows cf56_ok (by simp) ?_
  simp [la]
  refine wpc_loop (fun s => ∃ (i : Nat) (out : AV), s.n = 36 ∧ s.t 8 = a ∧ s.t 9 = vi zs.length ∧ s.t 3 = out ∧ s.t 10 = vi i ∧ i ≤ zs.length ∧ Row H s.H out (flat rc (rectsF ((zs.take i).map zb))) (rectsF ((zs.take i).map zb)).length 4) (fun s => zs.length - slotN (s.t 10)) ?_ ?_
  · exact FgK.same ⟨0, vnil, by simp, by simp, by simp, by simp, by simp, by omega, by simpa [rectsF, flat_nil] using Row.nil H 4⟩
  rintro s ⟨i, out, hn, e8, e9, e3, e10, hi, hro⟩
  generalize hHeq : s.H = Hs at *
  have hlen := rectsZ_len hz i
  by_cases hlt : i < zs.length
  · have wr := IntWalk.i64_in ((i : Int) + 1) (by omega)
    obtain ⟨p, hp1, hp2⟩ := fsee zc_l (ha.sub hro.sub) hlt
    have et : rectsF ((zs.take (i + 1)).map zb) = rectsF ((zs.take i).map zb) ++ zs[i].r.map (mkR zs[i].f zs[i].t) := by rw [take_snoc' hlt, List.map_append, List.map_cons, List.map_nil, rectsF_snoc]; rfl
    obtain ⟨hzr, hzl⟩ := hz zs[i] (List.getElem_mem hlt)
    generalize rectsF ((zs.take i).map zb) = rs0 at *
    generalize zs[i] = z at *
    obtain ⟨zf, zt, zr, zv⟩ := z
    simp only [zc] at hp2
    simp only at hzr hzl et
    have lz := fun k => Rw.lenK hzr (k := k)
    have oz := Rw.one hzr
    simp (disch := omega) [hn, hHeq, e8, e9, e3, e10, hlt, hp1, hp2 _ (Sub.refl _)]
    refine newK_of fun b hb => ?_
    have hSb0 : Sub Hs (upd Hs b (.cells [vi 0, vi 0, vnil])) := (Sub.refl Hs).upd hb
    have hHb : H b = none := hro.sub.none_of hb
    simp [hp2 _ hSb0, oz, lz]
    have hro1 := Row.grow (X := .cells [vi zf, vi zt, zv]) hro hb
    have hzr1 : Rs (upd H b (.cells [vi zf, vi zt, zv])) zv zr := hzr.sub ((Sub.refl H).upd hHb)
    have hSH : Sub H (upd H b (.cells [vi zf, vi zt, zv])) := (Sub.refl H).upd hHb
    have hbb : (upd H b (.cells [vi zf, vi zt, zv])) b = some (.cells [vi zf, vi zt, zv]) := by simp [upd_apply]
    generalize upd H b (.cells [vi zf, vi zt, zv]) = BB at *
    generalize upd Hs b (.cells [vi zf, vi zt, zv]) = HH at *
    refine wpc_loop (fun s' => ∃ (j : Nat) (out : AV), s'.n = 36 ∧ s'.t 8 = a ∧ s'.t 9 = vi zs.length ∧ s'.t 10 = vi i ∧ s'.t 3 = out ∧ s'.t 5 = pA b ∧ s'.t 15 = zv ∧ s'.t 16 = vi zr.length ∧ s'.t 17 = vi j ∧ j ≤ zr.length ∧ Row BB s'.H out (flat rc (rs0 ++ (zr.take j).map (mkR zf zt))) (rs0 ++ (zr.take j).map (mkR zf zt)).length 4) (fun s' => zr.length - slotN (s'.t 17)) ?_ ?_
    · exact FgK.same ⟨0, out, by simp, by simp [e8], by simp [e9], by simp, by simp, by simp, by simp, by simp, by simp, by omega, by simpa using hro1⟩
    clear hro hro1 hn hHeq e8 e9 e3 hp2 hHb hSb0 hb
    rintro s' ⟨j, out', gn, g8, g9, g10, g3, g5, g15, g16, g17, hj, hro⟩
    generalize hHeq : s'.H = Hs' at *
    have hSs := hro.sub
    by_cases hjt : j < zr.length
    · have wrj := IntWalk.i64_in ((j : Int) + 1) (by omega)
      obtain ⟨q, hq1, hq2⟩ := fsee rn_l (hzr1.sub hro.sub) hjt
      have ej : rs0 ++ (zr.take (j + 1)).map (mkR zf zt) = (rs0 ++ (zr.take j).map (mkR zf zt)) ++ [mkR zf zt zr[j]] := by rw [take_snoc' hjt, List.map_append, List.append_assoc]; rfl
      generalize zr[j] = x at *
      obtain ⟨xa, xb⟩ := x
      simp only [rn_mk] at hq2
      have hHb : Hs' b = some (.cells [vi zf, vi zt, zv]) := hSs b _ hbb
      have hll : (rs0 ++ (zr.take j).map (mkR zf zt)).length ≤ i * 10000000 + j := by rw [List.length_append, List.length_map, List.length_take]; omega
      generalize rs0 ++ (zr.take j).map (mkR zf zt) = rs1 at *
      simp (disch := omega) [gn, hHeq, g3, g5, g8, g9, g10, g15, g16, g17, hjt, hq1, hq2 _ (Sub.refl _)]
      refine newK_of fun y hy => ?_
      have nyb := free_ne hy b (by rw [hHb]; simp)
      have hSy0 : Sub Hs' (upd Hs' y (.cells [vi 0, vi 0])) := (Sub.refl Hs').upd hy
      have hSy : Sub Hs' (upd Hs' y (.cells [vi xa, vi xb])) := (Sub.refl Hs').upd hy
      simp [hq2 _ hSy0, hHb, nyb]
      refine newK_of fun q2 hq2' => ?_
      have hS2 : Sub Hs' (upd (upd Hs' y (.cells [vi xa, vi xb])) q2 (.cells (rc ⟨xa, zf, xb, zt⟩))) := hSy.trans ((Sub.refl _).upd hq2')
      generalize hx4 : AV.sl q2 0 1 4 true = x4
      have hnw : ∀ k : Nat → List AV → Prop, @NEWS (upd (upd Hs' y (.cells [vi xa, vi xb])) q2 (.cells (rc ⟨xa, zf, xb, zt⟩))) x4 4 ⟨k⟩ = k 1 (rc ⟨xa, zf, xb, zt⟩) := by intro k; rw [← hx4]; simp
      simp [hnw]
      refine hro.app hS2 (by decide) (by simp) (flat_len rc_l _) (by omega) fun r H' hr hsr => ?_
      simp (disch := omega) [wrj]
      refine FgK.of _ hsr ⟨⟨j + 1, .sl r 0 (rs1.length + 1) 4 false, by simp, by simp [g8], by simp [g9], by simp [g10], by simp, by simp, by simp [g15], by simp [g16], by simp, by omega, ?_⟩, by simp [g17]; omega⟩
      rw [ej, List.length_append]
      have := Row.mk (cs := flat rc (rs1 ++ [mkR zf zt (xa, xb)])) (n := rs1.length + 1) (sz := 4) hr
      rw [← flat_snoc] at this ⊢
      exact this
    · rw [List.take_of_length_le (by omega)] at hro
      simp (disch := omega) [gn, hHeq, g3, g5, g8, g9, g10, g15, g16, g17, hjt, wr]
      obtain ⟨H', h1, h2⟩ := Row.base hSH hro
      refine FgK.of H' h1 ⟨⟨i + 1, out', by simp, by simp [g8], by simp [g9], by simp, by simp, by omega, ?_⟩, by simp [e10]; omega⟩
      rw [et]; exact h2
  · rw [List.take_of_length_le (by omega)] at hro
    simp (disch := omega) [hn, hHeq, e8, e9, e3, e10, hlt]
    exact ⟨Hs, Sub.refl _, hk _ _ hro⟩
end Go.Proofs.YtkjkolacnpknoaaGreat
end

/-! Regions of the program, walked: New. Conditions: as each lemma states them. -/
section
namespace Go.Proofs.YtkjkolacnpknoaaGreat
open Go Go.Ab Go.RowKit
set_option linter.unusedSimpArgs false
set_option linter.unusedVariables false
set_option linter.unnecessarySimpa false

attribute [local simp] condK_true condK_false condK_not wpc_skip wpc_ret wpc_exit wpc_seq wpc_reg wpc_regD testA_bool wpc_cond wpc_block thenA_normal thenA_ret thenA_exit blockA_normal blockA_ret blockA_exit blockA_other endA_normal endA_ret ev_tmp' ev_const ev_func ev_global cv_int cv_bool cv_string cv_pointer cv_slice cv_agg cv_map put_some put_none wH_s setE_apply setE_env less_eq env_cons env_nil upd_upd upd_apply del_apply startA_eq cells_ag cells_sl one_sl cells_vs one_vs cells_ep one_ep cells_fn one_fn cells_int one_int cells_bool one_bool cells_string one_string cells_pointer one_pointer cells_slice one_slice cells_map one_map cells_agg resK_one resK_nil resK_two rvK_t rvK_c rvsK_nil rvsK_cons iseq_nil iseq_cons gdA_true gdA_false gdA_undef istep_free istep_guard istepV_free istepV_guard dseq_nil dseq_pu dseq_rd dseq_ef wpc_regT dtree_nil dtree_pu dtree_rd dtree_ef dtree_br chkAll_nil chkAll_cons andK_true pickK_true pickK_false pickK_tb pickK_fb bin2K_pl eqbK_eq eqbK_ne eqpK_eq eqpK_ne eqmK_eq eqmK_ne eqzK_eq eqzK_ne eqzK_sl eqzK_vs un1K_pl convK_int fillK_some fillA_cons fillA_nil cellsK_some needK_true needK_ok seeK_ep seeK_ptr oneK_agg oneK_one nilcK_ptr nilcK_ep fadrK_ptr fadrK_ep fldK_ag iadAK_ptr iadAK_ep iadSK_sl iadSK_vs extK_0 extK_1 extK_2 extK_3 lenK_pl lenK_sl lenK_vs lensK_pl boxK_some minmax1K_int storeK_ptr callvK_fn callvK_pl newsK_nil newsK_vs newsK_sl appK_nil appK_nil0 appK_sl appK_vs bnd1K_int bndK_none bndK_some slsK_vs slsK_nil slsK_sl0 slsK_sl slstrK_pl boolK_some eqsK_ag iop_eqs iop_sls iop_slstr seesK_some seesK_ro mapsK_some MAP_some findK_some findK_none plK_pl nmapK_none nmapK_some iop_mlook iop_mlen iop_mmk iop_mupd iop_mdel iop_mrng itK_none itK_some ptr0K_ptr iop_mnxt iop_ment it1K_some entK_some iop_mov iop_pick iop_bin iop_eqb iop_eqp iop_eqm iop_eqz iop_un capK_pl capK_sl capK_vs iop_cap iop_b2s b2sK_nil b2sK_sl b2sK_vs strK_some iop_idxv idxvK_ag atK_some apzK_nil iop_apz mksK_int iop_mks clrK_sl clrK_vs clrK_nil iop_clr iop_conv iop_build iop_load iop_nilc iop_fadr iop_fld iop_iadA iop_iadS iop_ext iop_mkf iop_len iop_lens iop_minmax iop_al iop_box iop_bsl iop_store iop_call iop_callv iop_app BIN_add BIN_sub BIN_mul BIN_and BIN_or BIN_xor BIN_andNot BIN_eql BIN_neq BIN_lss BIN_leq BIN_gtr BIN_geq BIN_quo BIN_rem BIN_shl BIN_shr BIN_sadd BIN_seql BIN_sneq BIN_slss BIN_sleq BIN_sgtr BIN_sgeq UN_neg UN_xor UN_not MM_nil MM_cons partsA argsA ptrA lessL eqL min2I slotN_int slotP_int slotI_int
attribute [local simp] rc_len rc_t4 rc_t1 rc_t2 rc_t3 rc_d1 rc_d2 rc_d3 rc_d4 rc_ag rc_one rc_eq

theorem good81 : goodCallee Tryz.prog 65 = true := by kernel_rfl
theorem c65 (x y : Bool) (H : AH) (K : AV → AH → Prop) (hk : K (vb (x || y)) H) : @AC Tryz.prog 65 [vb x, vb y] H ⟨K⟩ := by
  refine call_c follows cf65_ok (by simp) ?_
  cases x <;> simp at hk ⊢ <;> exact hk
abbrev orF : Bool → Bool → Bool := fun x y => x || y
def canonF (l : List R) : List R := rectsF (bandsF orF l [])
theorem bandsF_len (kf : Bool → Bool → Bool) (la lb : List R) : (bandsF kf la lb).length ≤ 2 * (la.length + lb.length) := by
  have h := bfold_len (rowF kf (cl la) (cl lb)) (pairs (ysF (cl la ++ cl lb))) (pairs (ysF (cl la ++ cl lb))).length
  rw [List.take_of_length_le (Nat.le_refl _), pairs_len] at h
  have h2 := ysF_len (cl la ++ cl lb)
  rw [List.length_append] at h2
  have := cl_len la
  have := cl_len lb
  unfold bandsF
  omega
theorem rectsRow {H : AH} {K : AV → AH → Prop} {out : AV} {B H' : AH} {zs : List Z} {kf : Bool → Bool → Bool} {la lb : List R} (hla : la.length ≤ 100000) (hlb : lb.length ≤ 100000) (hSB : Sub H B) (hz : ZOk B zs) (hzs : zs.map zb = bandsF kf la lb) (hro : Row B H' out (flat zc zs) zs.length 3)
    (hk : ∀ out2 H0 H2, Sub H0 H2 → Row H H0 out2 (flat rc (rectsF (bandsF kf la lb))) (rectsF (bandsF kf la lb)).length 4 → K out2 H2) : @AC Tryz.prog 56 [out] H' ⟨K⟩ := by
  have hl := bandsF_len kf la lb
  rw [← hzs, List.length_map] at hl
  have hz' : ZOk H' zs := fun z h => ⟨Rw.sub (hz z h).1 hro.sub, (hz z h).2⟩
  refine c56 (hro.rin (flat_len zc_l _)).rd hz' (by omega) fun out2 H2 h2 => ?_
  rw [hzs] at h2
  obtain ⟨H0, q1, q2⟩ := Row.base (hSB.trans hro.sub) h2
  exact hk _ _ _ q1 q2
theorem c45 {H : AH} {K : AV → AH → Prop} {a : AV} {l : List R} (ha : Rr H a l) (hl : l.length ≤ 100000)
    (hk : ∀ out H', Row H H' out (flat rc (canonF l)) (canonF l).length 4 → K out H') : @AC Tryz.prog 45 [a] H ⟨K⟩ := by
  refine AC_of (.forget ?_)
  refine call_c follows cf45_ok (by simp) ?_
  simp
  refine c57 (lb := []) ha (Rw.nil H 4) hl (by simp) good81 c65 fun out B H' zs hSB hz hzs hro => ?_
  simp
  refine rectsRow hl (by simp) hSB hz hzs hro fun out2 H0 H2 hs h2 => ?_
  simp
  exact ⟨H0, hs, hk _ _ h2⟩
theorem c55 {H : AH} {K : AV → AH → Prop} {a : AV} {n : Nat} (ha : ∀ k : AV → Prop, @lenK a ⟨k⟩ = k (vi n)) (ho : a.cells = some [a]) (h1 : n ≤ 256 → K (.tp [a, vi 0]) H) (h2 : 256 < n → K (.tp [vnil, vi 5]) H) : @AC Tryz.prog 55 [a] H ⟨K⟩ := by
  refine call_c follows cf55_ok (by simp) ?_
  by_cases h : 256 < n
  · have h' : (256 : Int) < n := by omega
    simp [ha, h']
    exact h2 h
  · have h' : ¬ (256 : Int) < n := by omega
    simp [ha, h', ho]
    exact h1 (by omega)
end Go.Proofs.YtkjkolacnpknoaaGreat
end
