/-
  Several texts in one: W1; W2; W3; W4; W5; W6; W7; W8; X1; X2; X3; X4; X5. Conditions: as each lemma states them.
-/
import Derived.Test.YtkjkolacnpknoaaMO
/-! Regions of the reference, walked: usable, insert, rows. Conditions: as each lemma states them. -/
section
namespace Go.Proofs.Ytkjkolacnpknoaa
open Go Go.Ab Go.RowKit
set_option linter.unusedSimpArgs false
set_option linter.unusedVariables false
set_option linter.unnecessarySimpa false

attribute [local simp] condK_true condK_false condK_not wpc_skip wpc_ret wpc_exit wpc_seq wpc_reg wpc_regD testA_bool wpc_cond wpc_block thenA_normal thenA_ret thenA_exit blockA_normal blockA_ret blockA_exit blockA_other endA_normal endA_ret ev_tmp' ev_const ev_func ev_global cv_int cv_bool cv_string cv_pointer cv_slice cv_agg cv_map put_some put_none wH_s setE_apply setE_env less_eq env_cons env_nil upd_upd upd_apply del_apply startA_eq cells_ag cells_sl one_sl cells_vs one_vs cells_ep one_ep cells_fn one_fn cells_int one_int cells_bool one_bool cells_string one_string cells_pointer one_pointer cells_slice one_slice cells_map one_map cells_agg resK_one resK_nil resK_two rvK_t rvK_c rvsK_nil rvsK_cons iseq_nil iseq_cons gdA_true gdA_false gdA_undef istep_free istep_guard istepV_free istepV_guard dseq_nil dseq_pu dseq_rd dseq_ef wpc_regT dtree_nil dtree_pu dtree_rd dtree_ef dtree_br chkAll_nil chkAll_cons andK_true pickK_true pickK_false pickK_tb pickK_fb bin2K_pl eqbK_eq eqbK_ne eqpK_eq eqpK_ne eqmK_eq eqmK_ne eqzK_eq eqzK_ne eqzK_sl eqzK_vs un1K_pl convK_int fillK_some fillA_cons fillA_nil cellsK_some needK_true needK_ok seeK_ep seeK_ptr oneK_agg oneK_one nilcK_ptr nilcK_ep fadrK_ptr fadrK_ep fldK_ag iadAK_ptr iadAK_ep iadSK_sl iadSK_vs extK_0 extK_1 extK_2 extK_3 lenK_pl lenK_sl lenK_vs lensK_pl boxK_some minmax1K_int storeK_ptr callvK_fn callvK_pl newsK_nil newsK_vs newsK_sl appK_nil appK_nil0 appK_sl appK_vs bnd1K_int bndK_none bndK_some slsK_vs slsK_nil slsK_sl0 slsK_sl slstrK_pl boolK_some eqsK_ag iop_eqs iop_sls iop_slstr seesK_some seesK_ro mapsK_some MAP_some findK_some findK_none plK_pl nmapK_none nmapK_some iop_mlook iop_mlen iop_mmk iop_mupd iop_mdel iop_mrng itK_none itK_some ptr0K_ptr iop_mnxt iop_ment it1K_some entK_some iop_mov iop_pick iop_bin iop_eqb iop_eqp iop_eqm iop_eqz iop_un capK_pl capK_sl capK_vs iop_cap iop_b2s b2sK_nil b2sK_sl b2sK_vs strK_some iop_idxv idxvK_ag atK_some apzK_nil iop_apz mksK_int iop_mks clrK_sl clrK_vs clrK_nil iop_clr iop_conv iop_build iop_load iop_nilc iop_fadr iop_fld iop_iadA iop_iadS iop_ext iop_mkf iop_len iop_lens iop_minmax iop_al iop_box iop_bsl iop_store iop_call iop_callv iop_app BIN_add BIN_sub BIN_mul BIN_and BIN_or BIN_xor BIN_andNot BIN_eql BIN_neq BIN_lss BIN_leq BIN_gtr BIN_geq BIN_quo BIN_rem BIN_shl BIN_shr BIN_sadd BIN_seql BIN_sneq BIN_slss BIN_sleq BIN_sgtr BIN_sgeq UN_neg UN_xor UN_not MM_nil MM_cons partsA argsA ptrA lessL eqL min2I slotN_int slotP_int slotI_int
attribute [local simp] rc_len rc_t4 rc_t1 rc_t2 rc_t3 rc_d1 rc_d2 rc_d3 rc_d4 rc_ag rc_one rc_eq

def usF (r : R) : Bool := decide (-16384 ≤ r.x0) && (decide (-16384 ≤ r.y0) && (decide (r.x1 ≤ 16384) && (decide (r.y1 ≤ 16384) && (decide (r.x0 < r.x1) && decide (r.y0 < r.y1)))))
theorem usF_eq (r : R) : usF r = !rempty r := by
  by_cases h : rempty r = false
  · rw [h]
    have := rempty_ok r h
    simp [usF]; omega
  · have h2 : rempty r = true := by simpa using h
    rw [h2]
    cases e : usF r with
    | false => rfl
    | true =>
      exfalso
      have : rempty r = false := rempty_of r (by simp [usF] at e; omega)
      rw [this] at h2; cases h2
theorem insI_all {k : Int} : ∀ {l : List Int}, (∀ x ∈ l, x < k) → insI k l = l ++ [k]
  | [], _ => rfl
  | x :: l, h => by
    have h1 := h x (by simp)
    unfold insI
    rw [if_neg (by omega), if_neg (by omega), insI_all fun y hy => h y (by simp [hy])]
    rfl
theorem insI_mid {k : Int} : ∀ {p q : List Int}, (∀ x ∈ p, x < k) → insI k (p ++ q) = p ++ insI k q
  | [], q, _ => rfl
  | x :: p, q, h => by
    have h1 := h x (by simp)
    rw [List.cons_append]
    conv => lhs; unfold insI
    rw [if_neg (by omega), if_neg (by omega), insI_mid fun y hy => h y (by simp [hy])]
    rfl
theorem insI_lt {k x : Int} {l : List Int} (h : k < x) : insI k (x :: l) = k :: x :: l := by simp [insI, h]
theorem insI_eq {k : Int} {l : List Int} : insI k (k :: l) = k :: l := by simp [insI]
/-- The rows of a list of rectangles, added to others. -/
def rowsF (l : List R) (ys : List Int) : List Int := (cl l).foldl (fun ys r => insI r.y1 (insI r.y0 ys)) ys
theorem rowsF_len (l : List R) : ∀ ys : List Int, (rowsF l ys).length ≤ ys.length + 2 * l.length := by
  have : ∀ (l : List R) (ys : List Int), (l.foldl (fun ys r => insI r.y1 (insI r.y0 ys)) ys).length ≤ ys.length + 2 * l.length := by
    intro l
    induction l with
    | nil => intro ys; simp
    | cons r l ih =>
      intro ys
      have h1 := ih (insI r.y1 (insI r.y0 ys))
      have h2 := insI_len (k := r.y1) (l := insI r.y0 ys)
      have h3 := insI_len (k := r.y0) (l := ys)
      rw [List.foldl_cons, List.length_cons]; omega
  intro ys
  have h1 := this (cl l) ys
  have h2 := cl_len l
  unfold rowsF; omega
theorem rowsF_snoc (l : List R) (r : R) (ys : List Int) : rowsF (l ++ [r]) ys = if usF r = true then insI r.y1 (insI r.y0 (rowsF l ys)) else rowsF l ys := by
  unfold rowsF
  rw [cl_push, usF_eq]
  cases rempty r <;> simp [List.foldl_append]
end Go.Proofs.Ytkjkolacnpknoaa
end

/-! Regions of the reference, walked: add. Conditions: as each lemma states them. -/
section
namespace Go.Proofs.Ytkjkolacnpknoaa
open Go Go.Ab Go.RowKit
set_option linter.unusedSimpArgs false
set_option linter.unusedVariables false
set_option linter.unnecessarySimpa false

attribute [local simp] condK_true condK_false condK_not wpc_skip wpc_ret wpc_exit wpc_seq wpc_reg wpc_regD testA_bool wpc_cond wpc_block thenA_normal thenA_ret thenA_exit blockA_normal blockA_ret blockA_exit blockA_other endA_normal endA_ret ev_tmp' ev_const ev_func ev_global cv_int cv_bool cv_string cv_pointer cv_slice cv_agg cv_map put_some put_none wH_s setE_apply setE_env less_eq env_cons env_nil upd_upd upd_apply del_apply startA_eq cells_ag cells_sl one_sl cells_vs one_vs cells_ep one_ep cells_fn one_fn cells_int one_int cells_bool one_bool cells_string one_string cells_pointer one_pointer cells_slice one_slice cells_map one_map cells_agg resK_one resK_nil resK_two rvK_t rvK_c rvsK_nil rvsK_cons iseq_nil iseq_cons gdA_true gdA_false gdA_undef istep_free istep_guard istepV_free istepV_guard dseq_nil dseq_pu dseq_rd dseq_ef wpc_regT dtree_nil dtree_pu dtree_rd dtree_ef dtree_br chkAll_nil chkAll_cons andK_true pickK_true pickK_false pickK_tb pickK_fb bin2K_pl eqbK_eq eqbK_ne eqpK_eq eqpK_ne eqmK_eq eqmK_ne eqzK_eq eqzK_ne eqzK_sl eqzK_vs un1K_pl convK_int fillK_some fillA_cons fillA_nil cellsK_some needK_true needK_ok seeK_ep seeK_ptr oneK_agg oneK_one nilcK_ptr nilcK_ep fadrK_ptr fadrK_ep fldK_ag iadAK_ptr iadAK_ep iadSK_sl iadSK_vs extK_0 extK_1 extK_2 extK_3 lenK_pl lenK_sl lenK_vs lensK_pl boxK_some minmax1K_int storeK_ptr callvK_fn callvK_pl newsK_nil newsK_vs newsK_sl appK_nil appK_nil0 appK_sl appK_vs bnd1K_int bndK_none bndK_some slsK_vs slsK_nil slsK_sl0 slsK_sl slstrK_pl boolK_some eqsK_ag iop_eqs iop_sls iop_slstr seesK_some seesK_ro mapsK_some MAP_some findK_some findK_none plK_pl nmapK_none nmapK_some iop_mlook iop_mlen iop_mmk iop_mupd iop_mdel iop_mrng itK_none itK_some ptr0K_ptr iop_mnxt iop_ment it1K_some entK_some iop_mov iop_pick iop_bin iop_eqb iop_eqp iop_eqm iop_eqz iop_un capK_pl capK_sl capK_vs iop_cap iop_b2s b2sK_nil b2sK_sl b2sK_vs strK_some iop_idxv idxvK_ag atK_some apzK_nil iop_apz mksK_int iop_mks clrK_sl clrK_vs clrK_nil iop_clr iop_conv iop_build iop_load iop_nilc iop_fadr iop_fld iop_iadA iop_iadS iop_ext iop_mkf iop_len iop_lens iop_minmax iop_al iop_box iop_bsl iop_store iop_call iop_callv iop_app BIN_add BIN_sub BIN_mul BIN_and BIN_or BIN_xor BIN_andNot BIN_eql BIN_neq BIN_lss BIN_leq BIN_gtr BIN_geq BIN_quo BIN_rem BIN_shl BIN_shr BIN_sadd BIN_seql BIN_sneq BIN_slss BIN_sleq BIN_sgtr BIN_sgeq UN_neg UN_xor UN_not MM_nil MM_cons partsA argsA ptrA lessL eqL min2I slotN_int slotP_int slotI_int
attribute [local simp] rc_len rc_t4 rc_t1 rc_t2 rc_t3 rc_d1 rc_d2 rc_d3 rc_d4 rc_ag rc_one rc_eq

theorem Row.swap {H Hm Hs : AH} {a b : AV} {ca cb : List AV} {na nb sa sb : Nat} (h1 : Row H Hm a ca na sa) (h2 : Row Hm Hs b cb nb sb) : ∃ Hm', Row H Hm' b cb nb sb ∧ Row Hm' Hs a ca na sa := by
  rcases h1 with ⟨a1, a2, rfl, rfl⟩ | ⟨ra, rfl, hra, rfl⟩
  · exact ⟨Hs, h2, .inl ⟨a1, a2, rfl, rfl⟩⟩
  · rcases h2 with ⟨b1, b2, rfl, rfl⟩ | ⟨rb, rfl, hrb, rfl⟩
    · exact ⟨H, .inl ⟨b1, b2, rfl, rfl⟩, Row.mk hra⟩
    · obtain ⟨n1, n2, hb⟩ := upd_none'.1 hrb
      refine ⟨_, Row.mk hb, .inr ⟨ra, rfl, ?_, ?_⟩⟩
      · simp only [upd_apply]; rw [if_neg n2]; exact hra
      · funext j
        simp only [upd_apply]
        by_cases e1 : j = rb
        · subst e1; rw [if_pos rfl, if_neg n1, if_pos rfl]
        · rw [if_neg e1]
          by_cases e2 : j = ra
          · rw [if_pos e2, if_pos e2]
          · rw [if_neg e2, if_neg e2, if_neg e1]
theorem cutsL_at {rs : List Rn} {j : Nat} (h : j < rs.length) : ∃ (h1 : 2 * j < (cutsL rs).length) (h2 : 2 * j + 1 < (cutsL rs).length), (cutsL rs)[2 * j] = rs[j].1 ∧ (cutsL rs)[2 * j + 1] = rs[j].2 := by
  have hl := cutsL_len rs
  refine ⟨by omega, by omega, ?_⟩
  induction rs generalizing j with
  | nil => simp at h
  | cons r rs ih =>
    cases j with
    | zero => exact ⟨rfl, rfl⟩
    | succ j =>
      have := ih (j := j) (by simpa using h) (cutsL_len rs)
      have e : cutsL (r :: rs) = r.1 :: r.2 :: cutsL rs := rfl
      simp only [e, show 2 * (j + 1) = 2 * j + 1 + 1 by omega, List.getElem_cons_succ]
      exact this
end Go.Proofs.Ytkjkolacnpknoaa
end

/-! Regions of the reference, walked: row, in, merged, sameRuns. Conditions: as each lemma states them. -/
section
namespace Go.Proofs.Ytkjkolacnpknoaa
open Go Go.Ab Go.RowKit
set_option linter.unusedSimpArgs false
set_option linter.unusedVariables false
set_option linter.unnecessarySimpa false

attribute [local simp] condK_true condK_false condK_not wpc_skip wpc_ret wpc_exit wpc_seq wpc_reg wpc_regD testA_bool wpc_cond wpc_block thenA_normal thenA_ret thenA_exit blockA_normal blockA_ret blockA_exit blockA_other endA_normal endA_ret ev_tmp' ev_const ev_func ev_global cv_int cv_bool cv_string cv_pointer cv_slice cv_agg cv_map put_some put_none wH_s setE_apply setE_env less_eq env_cons env_nil upd_upd upd_apply del_apply startA_eq cells_ag cells_sl one_sl cells_vs one_vs cells_ep one_ep cells_fn one_fn cells_int one_int cells_bool one_bool cells_string one_string cells_pointer one_pointer cells_slice one_slice cells_map one_map cells_agg resK_one resK_nil resK_two rvK_t rvK_c rvsK_nil rvsK_cons iseq_nil iseq_cons gdA_true gdA_false gdA_undef istep_free istep_guard istepV_free istepV_guard dseq_nil dseq_pu dseq_rd dseq_ef wpc_regT dtree_nil dtree_pu dtree_rd dtree_ef dtree_br chkAll_nil chkAll_cons andK_true pickK_true pickK_false pickK_tb pickK_fb bin2K_pl eqbK_eq eqbK_ne eqpK_eq eqpK_ne eqmK_eq eqmK_ne eqzK_eq eqzK_ne eqzK_sl eqzK_vs un1K_pl convK_int fillK_some fillA_cons fillA_nil cellsK_some needK_true needK_ok seeK_ep seeK_ptr oneK_agg oneK_one nilcK_ptr nilcK_ep fadrK_ptr fadrK_ep fldK_ag iadAK_ptr iadAK_ep iadSK_sl iadSK_vs extK_0 extK_1 extK_2 extK_3 lenK_pl lenK_sl lenK_vs lensK_pl boxK_some minmax1K_int storeK_ptr callvK_fn callvK_pl newsK_nil newsK_vs newsK_sl appK_nil appK_nil0 appK_sl appK_vs bnd1K_int bndK_none bndK_some slsK_vs slsK_nil slsK_sl0 slsK_sl slstrK_pl boolK_some eqsK_ag iop_eqs iop_sls iop_slstr seesK_some seesK_ro mapsK_some MAP_some findK_some findK_none plK_pl nmapK_none nmapK_some iop_mlook iop_mlen iop_mmk iop_mupd iop_mdel iop_mrng itK_none itK_some ptr0K_ptr iop_mnxt iop_ment it1K_some entK_some iop_mov iop_pick iop_bin iop_eqb iop_eqp iop_eqm iop_eqz iop_un capK_pl capK_sl capK_vs iop_cap iop_b2s b2sK_nil b2sK_sl b2sK_vs strK_some iop_idxv idxvK_ag atK_some apzK_nil iop_apz mksK_int iop_mks clrK_sl clrK_vs clrK_nil iop_clr iop_conv iop_build iop_load iop_nilc iop_fadr iop_fld iop_iadA iop_iadS iop_ext iop_mkf iop_len iop_lens iop_minmax iop_al iop_box iop_bsl iop_store iop_call iop_callv iop_app BIN_add BIN_sub BIN_mul BIN_and BIN_or BIN_xor BIN_andNot BIN_eql BIN_neq BIN_lss BIN_leq BIN_gtr BIN_geq BIN_quo BIN_rem BIN_shl BIN_shr BIN_sadd BIN_seql BIN_sneq BIN_slss BIN_sleq BIN_sgtr BIN_sgeq UN_neg UN_xor UN_not MM_nil MM_cons partsA argsA ptrA lessL eqL min2I slotN_int slotP_int slotI_int
attribute [local simp] rc_len rc_t4 rc_t1 rc_t2 rc_t3 rc_d1 rc_d2 rc_d3 rc_d4 rc_ag rc_one rc_eq

theorem sumF_snoc (l : List Rn) (r : Rn) : sumF (l ++ [r]) = addF (sumF l) r.1 r.2 := by simp [sumF, List.foldl_append]
def rrF (l : List R) (y : Int) : List Rn := sumF (rsF (cl l) y)
theorem rrF_len (l : List R) (y : Int) : (rrF l y).length ≤ l.length := by
  have h1 := sumF_len (l := rsF (cl l) y) fun r hr => (rsF_ok (cl_ok l) r hr).1
  have h2 := rsF_len (cl l) y
  have h3 := cl_len l
  unfold rrF; omega
theorem rrF_snoc (l : List R) (r : R) (y : Int) : rrF (l ++ [r]) y = if usF r = true ∧ r.y0 ≤ y ∧ y < r.y1 then addF (rrF l y) r.x0 r.x1 else rrF l y := by
  unfold rrF
  rw [cl_push, usF_eq]
  cases h : rempty r with
  | true => simp
  | false =>
    simp only [Bool.false_eq_true, if_false, Bool.not_false, true_and]
    rw [rsF_push]
    by_cases h2 : r.y0 ≤ y ∧ y < r.y1
    · rw [if_pos (by simp [h2]), if_pos h2, sumF_snoc]
    · rw [if_neg (by simpa using h2), if_neg h2]
/-- A row that was not there ahead. -/
def Ow (H Hs : AH) (o : AV) (l : List Int) : Prop := ∃ H0, Sub H0 Hs ∧ Row H H0 o (l.map vi) l.length 1
theorem Ow.nil (H : AH) : Ow H H vnil [] := ⟨H, Sub.refl _, Row.nil H 1⟩
theorem Ow.ri {H Hs : AH} {o : AV} {l : List Int} (h : Ow H Hs o l) : Ri Hs o l := by
  obtain ⟨H0, h1, h2⟩ := h
  exact Rw.sub h2.ri h1
end Go.Proofs.Ytkjkolacnpknoaa
end

/-! Regions of the reference, walked: merged, sameRuns. Conditions: as each lemma states them. -/
section
namespace Go.Proofs.Ytkjkolacnpknoaa
open Go Go.Ab Go.RowKit
set_option linter.unusedSimpArgs false
set_option linter.unusedVariables false
set_option linter.unnecessarySimpa false

attribute [local simp] condK_true condK_false condK_not wpc_skip wpc_ret wpc_exit wpc_seq wpc_reg wpc_regD testA_bool wpc_cond wpc_block thenA_normal thenA_ret thenA_exit blockA_normal blockA_ret blockA_exit blockA_other endA_normal endA_ret ev_tmp' ev_const ev_func ev_global cv_int cv_bool cv_string cv_pointer cv_slice cv_agg cv_map put_some put_none wH_s setE_apply setE_env less_eq env_cons env_nil upd_upd upd_apply del_apply startA_eq cells_ag cells_sl one_sl cells_vs one_vs cells_ep one_ep cells_fn one_fn cells_int one_int cells_bool one_bool cells_string one_string cells_pointer one_pointer cells_slice one_slice cells_map one_map cells_agg resK_one resK_nil resK_two rvK_t rvK_c rvsK_nil rvsK_cons iseq_nil iseq_cons gdA_true gdA_false gdA_undef istep_free istep_guard istepV_free istepV_guard dseq_nil dseq_pu dseq_rd dseq_ef wpc_regT dtree_nil dtree_pu dtree_rd dtree_ef dtree_br chkAll_nil chkAll_cons andK_true pickK_true pickK_false pickK_tb pickK_fb bin2K_pl eqbK_eq eqbK_ne eqpK_eq eqpK_ne eqmK_eq eqmK_ne eqzK_eq eqzK_ne eqzK_sl eqzK_vs un1K_pl convK_int fillK_some fillA_cons fillA_nil cellsK_some needK_true needK_ok seeK_ep seeK_ptr oneK_agg oneK_one nilcK_ptr nilcK_ep fadrK_ptr fadrK_ep fldK_ag iadAK_ptr iadAK_ep iadSK_sl iadSK_vs extK_0 extK_1 extK_2 extK_3 lenK_pl lenK_sl lenK_vs lensK_pl boxK_some minmax1K_int storeK_ptr callvK_fn callvK_pl newsK_nil newsK_vs newsK_sl appK_nil appK_nil0 appK_sl appK_vs bnd1K_int bndK_none bndK_some slsK_vs slsK_nil slsK_sl0 slsK_sl slstrK_pl boolK_some eqsK_ag iop_eqs iop_sls iop_slstr seesK_some seesK_ro mapsK_some MAP_some findK_some findK_none plK_pl nmapK_none nmapK_some iop_mlook iop_mlen iop_mmk iop_mupd iop_mdel iop_mrng itK_none itK_some ptr0K_ptr iop_mnxt iop_ment it1K_some entK_some iop_mov iop_pick iop_bin iop_eqb iop_eqp iop_eqm iop_eqz iop_un capK_pl capK_sl capK_vs iop_cap iop_b2s b2sK_nil b2sK_sl b2sK_vs strK_some iop_idxv idxvK_ag atK_some apzK_nil iop_apz mksK_int iop_mks clrK_sl clrK_vs clrK_nil iop_clr iop_conv iop_build iop_load iop_nilc iop_fadr iop_fld iop_iadA iop_iadS iop_ext iop_mkf iop_len iop_lens iop_minmax iop_al iop_box iop_bsl iop_store iop_call iop_callv iop_app BIN_add BIN_sub BIN_mul BIN_and BIN_or BIN_xor BIN_andNot BIN_eql BIN_neq BIN_lss BIN_leq BIN_gtr BIN_geq BIN_quo BIN_rem BIN_shl BIN_shr BIN_sadd BIN_seql BIN_sneq BIN_slss BIN_sleq BIN_sgtr BIN_sgeq UN_neg UN_xor UN_not MM_nil MM_cons partsA argsA ptrA lessL eqL min2I slotN_int slotP_int slotI_int
attribute [local simp] rc_len rc_t4 rc_t1 rc_t2 rc_t3 rc_d1 rc_d2 rc_d3 rc_d4 rc_ag rc_one rc_eq

def insA (l xs : List Int) : List Int := l.foldl (fun xs x => insI x xs) xs
theorem insA_rising (l : List Int) : ∀ xs : List Int, xs.Pairwise (· < ·) → (insA l xs).Pairwise (· < ·) := by
  induction l with
  | nil => intro xs h; exact h
  | cons x l ih => intro xs h; exact ih _ (insI_rising h)
theorem insA_mem (l : List Int) : ∀ (xs : List Int) (y : Int), y ∈ insA l xs ↔ y ∈ l ∨ y ∈ xs := by
  induction l with
  | nil => intro xs y; simp [insA]
  | cons x l ih =>
    intro xs y
    have := ih (insI x xs) y
    simp only [insA, List.foldl_cons] at this ⊢
    rw [this, mem_insI, List.mem_cons]
    constructor
    · rintro (h | h | h) <;> simp [h]
    · rintro ((h | h) | h) <;> simp [h]
theorem insA_len (l : List Int) : ∀ xs : List Int, (insA l xs).length ≤ xs.length + l.length := by
  induction l with
  | nil => intro xs; simp [insA]
  | cons x l ih =>
    intro xs
    have h1 := ih (insI x xs)
    have h2 := insI_len (k := x) (l := xs)
    simp only [insA, List.foldl_cons, List.length_cons] at h1 ⊢
    omega
theorem insA_snoc (l xs : List Int) (x : Int) : insA (l ++ [x]) xs = insI x (insA l xs) := by simp [insA, List.foldl_append]
theorem insA_xs (a b : List Rn) : insA (cutsL b) (insA (cutsL a) []) = xsF (a ++ b) := by
  refine rising_eq _ _ (insA_rising _ _ (insA_rising _ _ .nil)) (xsF_rising _) fun y => ?_
  rw [insA_mem, insA_mem, mem_xsF]
  simp only [cutsL, List.mem_flatMap, List.mem_append, List.mem_cons, List.not_mem_nil, or_false]
  constructor
  · rintro (⟨r, h1, h2⟩ | ⟨r, h1, h2⟩)
    · exact ⟨r, .inr h1, h2⟩
    · exact ⟨r, .inl h1, h2⟩
  · rintro ⟨r, h1 | h1, h2⟩
    · exact .inr ⟨r, h1, h2⟩
    · exact .inl ⟨r, h1, h2⟩
def accK (keep : Int → Bool) (l : List Rn) : List Rn := sumF (l.filter fun p => keep p.1)
theorem accK_snoc (keep : Int → Bool) (l : List Rn) (p : Rn) : accK keep (l ++ [p]) = if keep p.1 = true then addF (accK keep l) p.1 p.2 else accK keep l := by
  unfold accK
  rw [List.filter_append]
  cases h : keep p.1 with
  | true => simp [h, sumF_snoc]
  | false => simp [h]
theorem accK_len {keep : Int → Bool} {l : List Rn} (h : ∀ p ∈ l, p.1 < p.2) : (accK keep l).length ≤ l.length :=
  Nat.le_trans (sumF_len fun r hr => h r (List.mem_filter.1 hr).1) (List.length_filter_le _ _)
def kM (m : Int) (x y : Bool) : Bool := if m = 1 then x || y else if m = 2 then x && y else if m = 3 then x && !y else false
end Go.Proofs.Ytkjkolacnpknoaa
end

/-! Regions: the reference's list of rectangles is that of the program's bands, in plain words. No program in sight. -/
section
namespace Go.Proofs.Ytkjkolacnpknoaa
open Go Go.Ab Go.RowKit
set_option linter.unusedSimpArgs false
set_option linter.unusedVariables false
set_option linter.unnecessarySimpa false


def sy (y : Int) (r : R) : R := { r with y1 := y }
def cR (f : Int → List Rn) (s : List R × List Rn × Nat) (p : Rn) : List R × List Rn × Nat :=
  if f p.1 ≠ [] ∧ f p.1 = s.2.1 then (s.1.take s.2.2 ++ (s.1.drop s.2.2).map (sy p.2), s.2.1, s.2.2) else (s.1 ++ (f p.1).map (mkR p.1 p.2), f p.1, s.1.length)
def CInv (acc : List Bd) (s : List R × List Rn × Nat) (y : Int) : Prop :=
  s.1 = rectsF acc ∧ ((s.2.1 = [] ∧ ∀ l, acc.getLast? = some l → l.2.1 < y) ∨ (s.2.1 ≠ [] ∧ ∃ acc0 f0, acc = acc0 ++ [(f0, y, s.2.1)] ∧ s.2.2 = (rectsF acc0).length))
theorem CInv.step {f : Int → List Rn} {acc : List Bd} {s : List R × List Rn × Nat} {p : Rn} (h : CInv acc s p.1) (hp : p.1 < p.2) : CInv (bstep f acc p) (cR f s p) p.2 := by
  obtain ⟨out, last, from'⟩ := s
  obtain ⟨h1, h2⟩ := h
  simp only at h1 h2
  by_cases he : f p.1 = []
  · rw [bstep_no he]
    have e : cR f (out, last, from') p = (out, [], out.length) := by unfold cR; rw [if_neg (by simp [he]), he]; simp
    rw [e]
    refine ⟨h1, .inl ⟨rfl, fun l hl => ?_⟩⟩
    rcases h2 with ⟨_, h2⟩ | ⟨_, acc0, f0, h2, _⟩
    · have := h2 l hl; omega
    · rw [h2] at hl
      simp at hl
      subst hl
      exact hp
  · rcases h2 with ⟨h2, h3⟩ | ⟨h2, acc0, f0, h3, h4⟩
    · have e : cR f (out, last, from') p = (out ++ (f p.1).map (mkR p.1 p.2), f p.1, out.length) := by
        unfold cR; rw [if_neg]; simp only; rintro ⟨_, g⟩; exact he (g.trans h2)
      have eb : bstep f acc p = acc ++ [(p.1, p.2, f p.1)] := by
        rcases list_snoc acc with rfl | ⟨o, l, rfl⟩
        · rw [bstep_nil he]; rfl
        · have := h3 l (by simp)
          rw [bstep_out he (by rintro ⟨g, _⟩; omega)]
      rw [e, eb]
      refine ⟨by rw [rectsF_snoc, h1], .inr ⟨he, acc, p.1, rfl, ?_⟩⟩
      simp only
      rw [h1]
    · by_cases hs : f p.1 = last
      · have e : cR f (out, last, from') p = (out.take from' ++ (out.drop from').map (sy p.2), last, from') := by unfold cR; rw [if_pos ⟨he, hs⟩]
        rw [e, h3, bstep_in he rfl (by simp only; exact hs.symm)]
        refine ⟨?_, .inr ⟨h2, acc0, f0, rfl, h4⟩⟩
        simp only
        rw [h1, h3, rectsF_snoc, rectsF_snoc, h4, List.take_append_of_le_length (Nat.le_refl _), List.take_length, List.drop_append_of_le_length (Nat.le_refl _), List.drop_length, List.nil_append, List.map_map]
        rfl
      · have e : cR f (out, last, from') p = (out ++ (f p.1).map (mkR p.1 p.2), f p.1, out.length) := by
          unfold cR; rw [if_neg]; rintro ⟨_, g⟩; exact hs g
        rw [e, h3, bstep_out he (by rintro ⟨_, g⟩; exact hs g.symm)]
        refine ⟨by simp only; rw [rectsF_snoc, h1, h3], .inr ⟨he, _, p.1, rfl, ?_⟩⟩
        simp only
        rw [h1, h3]
theorem CInv.fold (f : Int → List Rn) : ∀ (l : List Int) (a : Int) (acc : List Bd) (s : List R × List Rn × Nat), (a :: l).Pairwise (· < ·) → CInv acc s a → ∃ y, CInv ((pairs (a :: l)).foldl (bstep f) acc) ((pairs (a :: l)).foldl (cR f) s) y
  | [], a, acc, s, _, h => ⟨a, h⟩
  | b :: l, a, acc, s, hp, h => by
    obtain ⟨h1, h2⟩ := List.pairwise_cons.1 hp
    simp only [pairs, List.foldl_cons]
    exact CInv.fold f l b _ _ h2 (CInv.step (p := (a, b)) h (h1 b (by simp)))
theorem cR_rects (f : Int → List Rn) {cs : List Int} (h : cs.Pairwise (· < ·)) : ((pairs cs).foldl (cR f) ([], [], 0)).1 = rectsF ((pairs cs).foldl (bstep f) []) := by
  cases cs with
  | nil => rfl
  | cons a l =>
    obtain ⟨y, h1, _⟩ := CInv.fold f l a [] ([], [], 0) h ⟨rfl, .inl ⟨rfl, by simp⟩⟩
    exact h1
theorem rows_ys (la lb : List R) : rowsF lb (rowsF la []) = ysF (cl la ++ cl lb) := by
  unfold rowsF ysF
  rw [List.foldl_append]
theorem cutsL_inj : ∀ {a b : List Rn}, cutsL a = cutsL b → a = b
  | [], [], _ => rfl
  | [], r :: b, h => by simp [cutsL] at h
  | r :: a, [], h => by simp [cutsL] at h
  | r :: a, s :: b, h => by
    simp only [cutsL, List.flatMap_cons, List.cons_append, List.nil_append, List.cons.injEq] at h
    obtain ⟨h1, h2, h3⟩ := h
    rw [cutsL_inj h3, Prod.ext h1 h2]
theorem cR_from {f : Int → List Rn} {s : List R × List Rn × Nat} {p : Rn} (h : s.2.2 ≤ s.1.length) : (cR f s p).2.2 ≤ (cR f s p).1.length := by
  unfold cR
  split
  · simp only [List.length_append, List.length_take, List.length_map, List.length_drop]; omega
  · simp only [List.length_append]; omega
end Go.Proofs.Ytkjkolacnpknoaa
end

/-! Regions of the reference, walked: combined. Conditions: as each lemma states them. -/
section
namespace Go.Proofs.Ytkjkolacnpknoaa
open Go Go.Ab Go.RowKit
set_option linter.unusedSimpArgs false
set_option linter.unusedVariables false
set_option linter.unnecessarySimpa false

attribute [local simp] condK_true condK_false condK_not wpc_skip wpc_ret wpc_exit wpc_seq wpc_reg wpc_regD testA_bool wpc_cond wpc_block thenA_normal thenA_ret thenA_exit blockA_normal blockA_ret blockA_exit blockA_other endA_normal endA_ret ev_tmp' ev_const ev_func ev_global cv_int cv_bool cv_string cv_pointer cv_slice cv_agg cv_map put_some put_none wH_s setE_apply setE_env less_eq env_cons env_nil upd_upd upd_apply del_apply startA_eq cells_ag cells_sl one_sl cells_vs one_vs cells_ep one_ep cells_fn one_fn cells_int one_int cells_bool one_bool cells_string one_string cells_pointer one_pointer cells_slice one_slice cells_map one_map cells_agg resK_one resK_nil resK_two rvK_t rvK_c rvsK_nil rvsK_cons iseq_nil iseq_cons gdA_true gdA_false gdA_undef istep_free istep_guard istepV_free istepV_guard dseq_nil dseq_pu dseq_rd dseq_ef wpc_regT dtree_nil dtree_pu dtree_rd dtree_ef dtree_br chkAll_nil chkAll_cons andK_true pickK_true pickK_false pickK_tb pickK_fb bin2K_pl eqbK_eq eqbK_ne eqpK_eq eqpK_ne eqmK_eq eqmK_ne eqzK_eq eqzK_ne eqzK_sl eqzK_vs un1K_pl convK_int fillK_some fillA_cons fillA_nil cellsK_some needK_true needK_ok seeK_ep seeK_ptr oneK_agg oneK_one nilcK_ptr nilcK_ep fadrK_ptr fadrK_ep fldK_ag iadAK_ptr iadAK_ep iadSK_sl iadSK_vs extK_0 extK_1 extK_2 extK_3 lenK_pl lenK_sl lenK_vs lensK_pl boxK_some minmax1K_int storeK_ptr callvK_fn callvK_pl newsK_nil newsK_vs newsK_sl appK_nil appK_nil0 appK_sl appK_vs bnd1K_int bndK_none bndK_some slsK_vs slsK_nil slsK_sl0 slsK_sl slstrK_pl boolK_some eqsK_ag iop_eqs iop_sls iop_slstr seesK_some seesK_ro mapsK_some MAP_some findK_some findK_none plK_pl nmapK_none nmapK_some iop_mlook iop_mlen iop_mmk iop_mupd iop_mdel iop_mrng itK_none itK_some ptr0K_ptr iop_mnxt iop_ment it1K_some entK_some iop_mov iop_pick iop_bin iop_eqb iop_eqp iop_eqm iop_eqz iop_un capK_pl capK_sl capK_vs iop_cap iop_b2s b2sK_nil b2sK_sl b2sK_vs strK_some iop_idxv idxvK_ag atK_some apzK_nil iop_apz mksK_int iop_mks clrK_sl clrK_vs clrK_nil iop_clr iop_conv iop_build iop_load iop_nilc iop_fadr iop_fld iop_iadA iop_iadS iop_ext iop_mkf iop_len iop_lens iop_minmax iop_al iop_box iop_bsl iop_store iop_call iop_callv iop_app BIN_add BIN_sub BIN_mul BIN_and BIN_or BIN_xor BIN_andNot BIN_eql BIN_neq BIN_lss BIN_leq BIN_gtr BIN_geq BIN_quo BIN_rem BIN_shl BIN_shr BIN_sadd BIN_seql BIN_sneq BIN_slss BIN_sleq BIN_sgtr BIN_sgeq UN_neg UN_xor UN_not MM_nil MM_cons partsA argsA ptrA lessL eqL min2I slotN_int slotP_int slotI_int
attribute [local simp] rc_len rc_t4 rc_t1 rc_t2 rc_t3 rc_d1 rc_d2 rc_d3 rc_d4 rc_ag rc_one rc_eq

/-- A row of another's, where ours grows. -/
theorem Row.beside {B Hs G2 G3 : AH} {o v : AV} {cs ds : List AV} {n sz n' sz' : Nat} (ho : Row B Hs o cs n sz) (hS : Sub Hs G2) (hv : Row G2 G3 v ds n' sz') (hl : ds.length = n' * sz') : ∃ BB HH, Row BB HH o cs n sz ∧ Sub HH G3 ∧ Sub B BB ∧ Rw BB v ds n' sz' := by
  rcases hv with ⟨h1, h2, rfl, rfl⟩ | ⟨r, rfl, hr, rfl⟩
  · subst h1; subst h2
    exact ⟨B, Hs, ho, hS, Sub.refl _, Rw.nil _ _⟩
  · have hr1 := hS.none_of hr
    refine ⟨_, _, Row.grow (X := .cells ds) ho hr1, Sub.under hS _ _, (Sub.refl B).upd (ho.sub.none_of hr1), .sl hl (by simp [upd_apply])⟩
theorem flat_mid {P Q : List R} {x : R} {y : Int} : (flat rc (P ++ x :: Q)).take (P.length * 4 + 3) ++ vi y :: (flat rc (P ++ x :: Q)).drop (P.length * 4 + 3 + 1) = flat rc (P ++ sy y x :: Q) := by
  have hl : (flat rc P).length = P.length * 4 := flat_len rc_l P
  rw [show P ++ x :: Q = P ++ ([x] ++ Q) from rfl, show P ++ sy y x :: Q = P ++ ([sy y x] ++ Q) from rfl, flat_app, flat_app, flat_app, flat_app, flat_one, flat_one, List.take_append, List.take_of_length_le (by omega), List.drop_append, List.drop_of_length_le (by omega), hl]
  rw [show P.length * 4 + 3 - P.length * 4 = 3 by omega, show P.length * 4 + 3 + 1 - P.length * 4 = 4 by omega]
  obtain ⟨a, b, c, d⟩ := x
  simp [rc, sy]
end Go.Proofs.Ytkjkolacnpknoaa
end

/-! Regions of the reference, walked: New; and the program's New answers the same. Conditions: as each lemma states them. -/
section
namespace Go.Proofs.Ytkjkolacnpknoaa
open Go Go.Ab Go.RowKit
set_option linter.unusedSimpArgs false
set_option linter.unusedVariables false
set_option linter.unnecessarySimpa false

attribute [local simp] condK_true condK_false condK_not wpc_skip wpc_ret wpc_exit wpc_seq wpc_reg wpc_regD testA_bool wpc_cond wpc_block thenA_normal thenA_ret thenA_exit blockA_normal blockA_ret blockA_exit blockA_other endA_normal endA_ret ev_tmp' ev_const ev_func ev_global cv_int cv_bool cv_string cv_pointer cv_slice cv_agg cv_map put_some put_none wH_s setE_apply setE_env less_eq env_cons env_nil upd_upd upd_apply del_apply startA_eq cells_ag cells_sl one_sl cells_vs one_vs cells_ep one_ep cells_fn one_fn cells_int one_int cells_bool one_bool cells_string one_string cells_pointer one_pointer cells_slice one_slice cells_map one_map cells_agg resK_one resK_nil resK_two rvK_t rvK_c rvsK_nil rvsK_cons iseq_nil iseq_cons gdA_true gdA_false gdA_undef istep_free istep_guard istepV_free istepV_guard dseq_nil dseq_pu dseq_rd dseq_ef wpc_regT dtree_nil dtree_pu dtree_rd dtree_ef dtree_br chkAll_nil chkAll_cons andK_true pickK_true pickK_false pickK_tb pickK_fb bin2K_pl eqbK_eq eqbK_ne eqpK_eq eqpK_ne eqmK_eq eqmK_ne eqzK_eq eqzK_ne eqzK_sl eqzK_vs un1K_pl convK_int fillK_some fillA_cons fillA_nil cellsK_some needK_true needK_ok seeK_ep seeK_ptr oneK_agg oneK_one nilcK_ptr nilcK_ep fadrK_ptr fadrK_ep fldK_ag iadAK_ptr iadAK_ep iadSK_sl iadSK_vs extK_0 extK_1 extK_2 extK_3 lenK_pl lenK_sl lenK_vs lensK_pl boxK_some minmax1K_int storeK_ptr callvK_fn callvK_pl newsK_nil newsK_vs newsK_sl appK_nil appK_nil0 appK_sl appK_vs bnd1K_int bndK_none bndK_some slsK_vs slsK_nil slsK_sl0 slsK_sl slstrK_pl boolK_some eqsK_ag iop_eqs iop_sls iop_slstr seesK_some seesK_ro mapsK_some MAP_some findK_some findK_none plK_pl nmapK_none nmapK_some iop_mlook iop_mlen iop_mmk iop_mupd iop_mdel iop_mrng itK_none itK_some ptr0K_ptr iop_mnxt iop_ment it1K_some entK_some iop_mov iop_pick iop_bin iop_eqb iop_eqp iop_eqm iop_eqz iop_un capK_pl capK_sl capK_vs iop_cap iop_b2s b2sK_nil b2sK_sl b2sK_vs strK_some iop_idxv idxvK_ag atK_some apzK_nil iop_apz mksK_int iop_mks clrK_sl clrK_vs clrK_nil iop_clr iop_conv iop_build iop_load iop_nilc iop_fadr iop_fld iop_iadA iop_iadS iop_ext iop_mkf iop_len iop_lens iop_minmax iop_al iop_box iop_bsl iop_store iop_call iop_callv iop_app BIN_add BIN_sub BIN_mul BIN_and BIN_or BIN_xor BIN_andNot BIN_eql BIN_neq BIN_lss BIN_leq BIN_gtr BIN_geq BIN_quo BIN_rem BIN_shl BIN_shr BIN_sadd BIN_seql BIN_sneq BIN_slss BIN_sleq BIN_sgtr BIN_sgeq UN_neg UN_xor UN_not MM_nil MM_cons partsA argsA ptrA lessL eqL min2I slotN_int slotP_int slotI_int
attribute [local simp] rc_len rc_t4 rc_t1 rc_t2 rc_t3 rc_d1 rc_d2 rc_d3 rc_d4 rc_ag rc_one rc_eq

theorem kM1 : kM 1 = orF := by funext x y; rfl
end Go.Proofs.Ytkjkolacnpknoaa
end

/-! Regions of the reference, walked: Union, Intersect, Subtract. Conditions: as each lemma states them. -/
section
namespace Go.Proofs.Ytkjkolacnpknoaa
open Go Go.Ab Go.RowKit
set_option linter.unusedSimpArgs false
set_option linter.unusedVariables false
set_option linter.unnecessarySimpa false

attribute [local simp] condK_true condK_false condK_not wpc_skip wpc_ret wpc_exit wpc_seq wpc_reg wpc_regD testA_bool wpc_cond wpc_block thenA_normal thenA_ret thenA_exit blockA_normal blockA_ret blockA_exit blockA_other endA_normal endA_ret ev_tmp' ev_const ev_func ev_global cv_int cv_bool cv_string cv_pointer cv_slice cv_agg cv_map put_some put_none wH_s setE_apply setE_env less_eq env_cons env_nil upd_upd upd_apply del_apply startA_eq cells_ag cells_sl one_sl cells_vs one_vs cells_ep one_ep cells_fn one_fn cells_int one_int cells_bool one_bool cells_string one_string cells_pointer one_pointer cells_slice one_slice cells_map one_map cells_agg resK_one resK_nil resK_two rvK_t rvK_c rvsK_nil rvsK_cons iseq_nil iseq_cons gdA_true gdA_false gdA_undef istep_free istep_guard istepV_free istepV_guard dseq_nil dseq_pu dseq_rd dseq_ef wpc_regT dtree_nil dtree_pu dtree_rd dtree_ef dtree_br chkAll_nil chkAll_cons andK_true pickK_true pickK_false pickK_tb pickK_fb bin2K_pl eqbK_eq eqbK_ne eqpK_eq eqpK_ne eqmK_eq eqmK_ne eqzK_eq eqzK_ne eqzK_sl eqzK_vs un1K_pl convK_int fillK_some fillA_cons fillA_nil cellsK_some needK_true needK_ok seeK_ep seeK_ptr oneK_agg oneK_one nilcK_ptr nilcK_ep fadrK_ptr fadrK_ep fldK_ag iadAK_ptr iadAK_ep iadSK_sl iadSK_vs extK_0 extK_1 extK_2 extK_3 lenK_pl lenK_sl lenK_vs lensK_pl boxK_some minmax1K_int storeK_ptr callvK_fn callvK_pl newsK_nil newsK_vs newsK_sl appK_nil appK_nil0 appK_sl appK_vs bnd1K_int bndK_none bndK_some slsK_vs slsK_nil slsK_sl0 slsK_sl slstrK_pl boolK_some eqsK_ag iop_eqs iop_sls iop_slstr seesK_some seesK_ro mapsK_some MAP_some findK_some findK_none plK_pl nmapK_none nmapK_some iop_mlook iop_mlen iop_mmk iop_mupd iop_mdel iop_mrng itK_none itK_some ptr0K_ptr iop_mnxt iop_ment it1K_some entK_some iop_mov iop_pick iop_bin iop_eqb iop_eqp iop_eqm iop_eqz iop_un capK_pl capK_sl capK_vs iop_cap iop_b2s b2sK_nil b2sK_sl b2sK_vs strK_some iop_idxv idxvK_ag atK_some apzK_nil iop_apz mksK_int iop_mks clrK_sl clrK_vs clrK_nil iop_clr iop_conv iop_build iop_load iop_nilc iop_fadr iop_fld iop_iadA iop_iadS iop_ext iop_mkf iop_len iop_lens iop_minmax iop_al iop_box iop_bsl iop_store iop_call iop_callv iop_app BIN_add BIN_sub BIN_mul BIN_and BIN_or BIN_xor BIN_andNot BIN_eql BIN_neq BIN_lss BIN_leq BIN_gtr BIN_geq BIN_quo BIN_rem BIN_shl BIN_shr BIN_sadd BIN_seql BIN_sneq BIN_slss BIN_sleq BIN_sgtr BIN_sgeq UN_neg UN_xor UN_not MM_nil MM_cons partsA argsA ptrA lessL eqL min2I slotN_int slotP_int slotI_int
attribute [local simp] rc_len rc_t4 rc_t1 rc_t2 rc_t3 rc_d1 rc_d2 rc_d3 rc_d4 rc_ag rc_one rc_eq

def modF (m : Int) (la lb : List R) : List R := rectsF (bandsF (kM m) la lb)
end Go.Proofs.Ytkjkolacnpknoaa
end

/-! Regions, in plain words: the points of bands; canonical bands; that the points tell the bands. No program in sight; conditions: as each lemma states them. -/
section
namespace Go.Proofs.Ytkjkolacnpknoaa
open Go Go.Ab Go.RowKit
set_option linter.unusedSimpArgs false
set_option linter.unusedVariables false
set_option linter.unnecessarySimpa false


theorem pairs_ge : ∀ {l : List Int} {b : Int}, (b :: l).Pairwise (· < ·) → ∀ p ∈ pairs (b :: l), b ≤ p.1
  | [], b, _, p, hp => by simp [pairs] at hp
  | c :: l, b, h, p, hp => by
    obtain ⟨h3, h4⟩ := List.pairwise_cons.1 h
    simp only [pairs, List.mem_cons] at hp
    rcases hp with rfl | hp
    · exact Int.le_refl _
    · have := pairs_ge h4 p hp
      have := h3 c (by simp)
      omega
/-- No cut lies within a piece. -/
theorem pairs_cut : ∀ {xs : List Int}, xs.Pairwise (· < ·) → ∀ {p : Rn}, p ∈ pairs xs → ∀ {x : Int}, p.1 ≤ x → x < p.2 → ∀ {e : Int}, e ∈ xs → (e ≤ x ↔ e ≤ p.1)
  | [], _, p, hp, _, _, _, _, _ => by simp [pairs] at hp
  | [a], _, p, hp, _, _, _, _, _ => by simp [pairs] at hp
  | a :: b :: l, h, p, hp, x, h1, h2, e, he => by
    obtain ⟨h3, h4⟩ := List.pairwise_cons.1 h
    have hab := h3 b (by simp)
    simp only [pairs, List.mem_cons] at hp
    rcases hp with rfl | hp
    · simp only at h1 h2 ⊢
      rcases List.mem_cons.1 he with rfl | he
      · omega
      · have hb : b ≤ e := by
          rcases List.mem_cons.1 he with rfl | he
          · exact Int.le_refl _
          · have := (List.pairwise_cons.1 h4).1 e he; omega
        omega
    · have hb := pairs_ge h4 p hp
      rcases List.mem_cons.1 he with rfl | he
      · omega
      · exact pairs_cut h4 hp h1 h2 he
/-- Whatever lies between two cuts lies in a piece. -/
theorem pairs_cover : ∀ {xs : List Int}, xs.Pairwise (· < ·) → ∀ {x e1 e2 : Int}, e1 ∈ xs → e2 ∈ xs → e1 ≤ x → x < e2 → ∃ p ∈ pairs xs, p.1 ≤ x ∧ x < p.2
  | [], _, _, _, _, h, _, _, _ => by simp at h
  | [a], _, x, e1, e2, h1, h2, h3, h4 => by simp at h1 h2; omega
  | a :: b :: l, h, x, e1, e2, h1, h2, h3, h4 => by
    obtain ⟨g3, g4⟩ := List.pairwise_cons.1 h
    have hab := g3 b (by simp)
    have ha1 : a ≤ e1 := by
      rcases List.mem_cons.1 h1 with rfl | h1
      · exact Int.le_refl _
      · have := g3 e1 h1; omega
    by_cases hx : x < b
    · exact ⟨(a, b), by simp [pairs], by simp only; omega, hx⟩
    · have h2' : e2 ∈ b :: l := by
        rcases List.mem_cons.1 h2 with rfl | h2
        · omega
        · exact h2
      obtain ⟨p, hp, q⟩ := pairs_cover g4 (x := x) (e1 := b) (by simp) h2' (by omega) h4
      exact ⟨p, by simp only [pairs, List.mem_cons]; exact .inr hp, q⟩
theorem any_eq {α : Type} {p q : α → Bool} : ∀ {l : List α}, (∀ r ∈ l, p r = q r) → l.any p = l.any q
  | [], _ => rfl
  | a :: l, h => by rw [List.any_cons, List.any_cons, h a (by simp), any_eq fun r hr => h r (by simp [hr])]
theorem combF_in {kf : Bool → Bool → Bool} (h0 : kf false false = false) (a b : List Rn) (ha : ∀ r ∈ a, r.1 < r.2) (hb : ∀ r ∈ b, r.1 < r.2) (x : Int) : InR (combF kf a b) x ↔ kf (cvF a x) (cvF b x) = true := by
  have hr := xsF_rising (a ++ b)
  have h1 : ∀ r ∈ (pairs (xsF (a ++ b))).filter (fun p => kf (cvF a p.1) (cvF b p.1)), r.1 < r.2 := fun r hr' => (pairs_lt _ hr).1 r (List.mem_filter.1 hr').1
  have hin : InR (combF kf a b) x ↔ InR ((pairs (xsF (a ++ b))).filter (fun p => kf (cvF a p.1) (cvF b p.1))) x := sumF_in h1 x
  rw [hin]
  have cut : ∀ p ∈ pairs (xsF (a ++ b)), p.1 ≤ x → x < p.2 → cvF a p.1 = cvF a x ∧ cvF b p.1 = cvF b x := by
    intro p hp g1 g2
    have key : ∀ l : List Rn, (∀ r ∈ l, r ∈ a ++ b) → cvF l p.1 = cvF l x := by
      intro l hl
      unfold cvF
      refine any_eq fun r hr' => ?_
      have m1 : r.1 ∈ xsF (a ++ b) := mem_xsF.2 ⟨r, hl r hr', .inl rfl⟩
      have m2 : r.2 ∈ xsF (a ++ b) := mem_xsF.2 ⟨r, hl r hr', .inr rfl⟩
      have c1 := pairs_cut hr hp g1 g2 m1
      have c2 := pairs_cut hr hp g1 g2 m2
      congr 1
      · exact decide_eq_decide.2 c1.symm
      · exact decide_eq_decide.2 ⟨fun h => by omega, fun h => by omega⟩
    exact ⟨key a fun r hr' => List.mem_append_left _ hr', key b fun r hr' => List.mem_append_right _ hr'⟩
  constructor
  · rintro ⟨p, hp, g1, g2⟩
    obtain ⟨hp1, hp2⟩ := List.mem_filter.1 hp
    obtain ⟨c1, c2⟩ := cut p hp1 g1 g2
    rw [c1, c2] at hp2
    exact hp2
  · intro hk
    have hex : ∃ r ∈ a ++ b, r.1 ≤ x ∧ x < r.2 := by
      cases e1 : cvF a x with
      | true =>
        obtain ⟨r, hr', g⟩ := cvF_iff.1 e1
        exact ⟨r, List.mem_append_left _ hr', g⟩
      | false =>
        cases e2 : cvF b x with
        | true =>
          obtain ⟨r, hr', g⟩ := cvF_iff.1 e2
          exact ⟨r, List.mem_append_right _ hr', g⟩
        | false => rw [e1, e2, h0] at hk; cases hk
    obtain ⟨r, hr', g1, g2⟩ := hex
    obtain ⟨p, hp, q1, q2⟩ := pairs_cover hr (mem_xsF.2 ⟨r, hr', .inl rfl⟩) (mem_xsF.2 ⟨r, hr', .inr rfl⟩) g1 g2
    obtain ⟨c1, c2⟩ := cut p hp q1 q2
    exact ⟨p, List.mem_filter.2 ⟨hp, by rw [c1, c2]; exact hk⟩, q1, q2⟩

/-! ### Bands -/
def InB (bs : List Bd) (x y : Int) : Prop := ∃ b ∈ bs, b.1 ≤ y ∧ y < b.2.1 ∧ InR b.2.2 x
def CanB (bs : List Bd) : Prop := (∀ b ∈ bs, b.1 < b.2.1 ∧ b.2.2 ≠ [] ∧ Can b.2.2) ∧ bs.Pairwise fun a b => a.2.1 ≤ b.1 ∧ (a.2.1 = b.1 → a.2.2 ≠ b.2.2)
theorem CanB.cons {r : Bd} {rs : List Bd} : CanB (r :: rs) ↔ (r.1 < r.2.1 ∧ r.2.2 ≠ [] ∧ Can r.2.2) ∧ (∀ s ∈ rs, r.2.1 ≤ s.1 ∧ (r.2.1 = s.1 → r.2.2 ≠ s.2.2)) ∧ CanB rs := by
  constructor
  · rintro ⟨h1, h2⟩
    obtain ⟨h3, h4⟩ := List.pairwise_cons.1 h2
    exact ⟨h1 r (by simp), h3, fun s hs => h1 s (by simp [hs]), h4⟩
  · rintro ⟨h1, h2, h3, h4⟩
    refine ⟨fun s hs => ?_, List.pairwise_cons.2 ⟨h2, h4⟩⟩
    rcases List.mem_cons.1 hs with rfl | hs
    · exact h1
    · exact h3 s hs
theorem can_pt {rs : List Rn} (h : Can rs) (hne : rs ≠ []) : ∃ x, InR rs x := by
  cases rs with
  | nil => exact absurd rfl hne
  | cons r rs => exact ⟨r.1, r, by simp, Int.le_refl _, (Can.cons.1 h).1⟩
theorem InB.cons {r : Bd} {rs : List Bd} {x y : Int} : InB (r :: rs) x y ↔ (r.1 ≤ y ∧ y < r.2.1 ∧ InR r.2.2 x) ∨ InB rs x y := by simp [InB]
theorem CanB.low {r : Bd} {rs : List Bd} (h : CanB (r :: rs)) {x y : Int} (hi : InB (r :: rs) x y) : r.1 ≤ y := by
  obtain ⟨h1, h2, _⟩ := CanB.cons.1 h
  rcases InB.cons.1 hi with g | ⟨s, hs, g, _⟩
  · exact g.1
  · have := (h2 s hs).1; omega
theorem CanB.head {r : Bd} {rs : List Bd} (h : CanB (r :: rs)) {x y : Int} (h1 : r.1 ≤ y) (h2 : y < r.2.1) : InB (r :: rs) x y ↔ InR r.2.2 x := by
  rw [InB.cons]
  constructor
  · rintro (g | ⟨s, hs, g, _⟩)
    · exact g.2.2
    · have := ((CanB.cons.1 h).2.1 s hs).1; omega
  · exact fun g => .inl ⟨h1, h2, g⟩
theorem CanB.tail_ge {r : Bd} {rs : List Bd} (h : CanB (r :: rs)) {x y : Int} (hi : InB rs x y) : r.2.1 ≤ y := by
  obtain ⟨s, hs, g, _⟩ := hi
  have := ((CanB.cons.1 h).2.1 s hs).1
  omega
/-- A band does not end earlier than the other's. -/
theorem CanB.ends {r s : Bd} {a b : List Bd} (ha : CanB (r :: a)) (hb : CanB (s :: b)) (h : ∀ x y, InB (r :: a) x y ↔ InB (s :: b) x y) (e1 : r.1 = s.1) (e2 : r.2.2 = s.2.2) (hlt : r.2.1 < s.2.1) : False := by
  obtain ⟨⟨r1, r2, r3⟩, r4, r5⟩ := CanB.cons.1 ha
  have hat : ∀ x, InB a x r.2.1 ↔ InR r.2.2 x := fun x => by
    have := (h x r.2.1).trans (hb.head (x := x) (y := r.2.1) (by omega) hlt)
    rw [InB.cons] at this
    constructor
    · intro g; rw [e2]; exact this.1 (.inr g)
    · intro g
      rw [e2] at g
      rcases this.2 g with k | k
      · omega
      · exact k
  obtain ⟨x0, hx0⟩ := can_pt r3 r2
  cases a with
  | nil => obtain ⟨t, ht, _⟩ := (hat x0).2 hx0; simp at ht
  | cons t a =>
    have ht := r4 t (by simp)
    have hlow := r5.low ((hat x0).2 hx0)
    have et : r.2.1 = t.1 := by omega
    have ht1 := ((CanB.cons.1 r5).1).1
    refine ht.2 et (can_uniq r3 (CanB.cons.1 r5).1.2.2 fun x => ?_)
    rw [← hat x]
    exact r5.head (by omega) (by omega)
theorem canb_uniq : ∀ {a b : List Bd}, CanB a → CanB b → (∀ x y, InB a x y ↔ InB b x y) → a = b
  | [], [], _, _, _ => rfl
  | [], s :: b, _, hb, h => by
    obtain ⟨⟨h1, h2, h3⟩, _⟩ := CanB.cons.1 hb
    obtain ⟨x, hx⟩ := can_pt h3 h2
    obtain ⟨t, ht, _⟩ := (h x s.1).2 (InB.cons.2 (.inl ⟨Int.le_refl _, h1, hx⟩))
    simp at ht
  | r :: a, [], ha, _, h => by
    obtain ⟨⟨h1, h2, h3⟩, _⟩ := CanB.cons.1 ha
    obtain ⟨x, hx⟩ := can_pt h3 h2
    obtain ⟨t, ht, _⟩ := (h x r.1).1 (InB.cons.2 (.inl ⟨Int.le_refl _, h1, hx⟩))
    simp at ht
  | r :: a, s :: b, ha, hb, h => by
    obtain ⟨⟨r1, r2, r3⟩, r4, r5⟩ := CanB.cons.1 ha
    obtain ⟨⟨s1, s2, s3⟩, s4, s5⟩ := CanB.cons.1 hb
    obtain ⟨xr, hxr⟩ := can_pt r3 r2
    obtain ⟨xs, hxs⟩ := can_pt s3 s2
    have e1 : r.1 = s.1 := by
      have g1 := hb.low ((h xr r.1).1 (InB.cons.2 (.inl ⟨Int.le_refl _, r1, hxr⟩)))
      have g2 := ha.low ((h xs s.1).2 (InB.cons.2 (.inl ⟨Int.le_refl _, s1, hxs⟩)))
      omega
    have e2 : r.2.2 = s.2.2 := can_uniq r3 s3 fun x => by
      rw [← ha.head (x := x) (y := r.1) (Int.le_refl _) r1, h x r.1, hb.head (by omega) (by omega)]
    have e3 : r.2.1 = s.2.1 := by
      rcases Int.lt_trichotomy r.2.1 s.2.1 with g | g | g
      · exact (ha.ends hb h e1 e2 g).elim
      · exact g
      · exact (hb.ends ha (fun x y => (h x y).symm) e1.symm e2.symm g).elim
    have e : r = s := Prod.ext e1 (Prod.ext e3 e2)
    subst e
    rw [canb_uniq r5 s5 fun x y => ?_]
    constructor
    · intro g
      rcases InB.cons.1 ((h x y).1 (InB.cons.2 (.inr g))) with k | k
      · have := ha.tail_ge g; omega
      · exact k
    · intro g
      rcases InB.cons.1 ((h x y).2 (InB.cons.2 (.inr g))) with k | k
      · have := hb.tail_ge g; omega
      · exact k
end Go.Proofs.Ytkjkolacnpknoaa
end

/-! Regions, in plain words: the program's bands are canonical, and their points are those of the rectangles; putting a canonical region in order changes nothing. No program in sight; conditions: as each lemma states them. -/
section
namespace Go.Proofs.Ytkjkolacnpknoaa
open Go Go.Ab Go.RowKit
set_option linter.unusedSimpArgs false
set_option linter.unusedVariables false
set_option linter.unnecessarySimpa false


theorem canB_app {a b : List Bd} : CanB (a ++ b) ↔ CanB a ∧ CanB b ∧ ∀ r ∈ a, ∀ s ∈ b, r.2.1 ≤ s.1 ∧ (r.2.1 = s.1 → r.2.2 ≠ s.2.2) := by
  unfold CanB
  rw [List.pairwise_append]
  constructor
  · rintro ⟨h1, h2, h3, h4⟩
    exact ⟨⟨fun r hr => h1 r (by simp [hr]), h2⟩, ⟨fun r hr => h1 r (by simp [hr]), h3⟩, h4⟩
  · rintro ⟨⟨h1, h2⟩, ⟨h3, h4⟩, h5⟩
    exact ⟨fun r hr => (List.mem_append.1 hr).elim (h1 r) (h3 r), h2, h4, h5⟩
theorem canB_one {r : Bd} : CanB [r] ↔ r.1 < r.2.1 ∧ r.2.2 ≠ [] ∧ Can r.2.2 := by
  rw [CanB.cons]; simp [CanB]
theorem inB_app {a b : List Bd} {x y : Int} : InB (a ++ b) x y ↔ InB a x y ∨ InB b x y := by
  simp only [InB, List.mem_append]
  constructor
  · rintro ⟨r, h | h, h2⟩
    · exact .inl ⟨r, h, h2⟩
    · exact .inr ⟨r, h, h2⟩
  · rintro (⟨r, h, h2⟩ | ⟨r, h, h2⟩)
    · exact ⟨r, .inl h, h2⟩
    · exact ⟨r, .inr h, h2⟩
theorem inB_one {r : Bd} {x y : Int} : InB [r] x y ↔ r.1 ≤ y ∧ y < r.2.1 ∧ InR r.2.2 x := by simp [InB]
theorem bstep_can {f : Int → List Rn} {o : List Bd} {c : Rn} (hf : Can (f c.1)) (h : CanB o) (hc : c.1 < c.2) (hs : ∀ l ∈ o, l.2.1 ≤ c.1) : CanB (bstep f o c) ∧ (∀ x y, InB (bstep f o c) x y ↔ InB o x y ∨ (c.1 ≤ y ∧ y < c.2 ∧ InR (f c.1) x)) ∧ ∀ l ∈ bstep f o c, l.2.1 ≤ c.2 := by
  by_cases he : f c.1 = []
  · rw [bstep_no he, he]
    exact ⟨h, fun x y => by simp [inR_nil], fun l hl => by have := hs l hl; omega⟩
  · have hone : CanB [((c.1, c.2, f c.1) : Bd)] := canB_one.2 ⟨hc, he, hf⟩
    rcases list_snoc o with rfl | ⟨o, l, rfl⟩
    · rw [bstep_nil he]
      exact ⟨hone, fun x y => by rw [inB_one]; simp [InB], by simp⟩
    · obtain ⟨h1, h2, h3⟩ := canB_app.1 h
      obtain ⟨l1, l2, l3⟩ := canB_one.1 h2
      have hl := hs l (by simp)
      by_cases e : l.2.1 = c.1 ∧ l.2.2 = f c.1
      · rw [bstep_in he e.1 e.2]
        refine ⟨canB_app.2 ⟨h1, canB_one.2 ⟨by simp only; omega, l2, l3⟩, fun a ha b hb => ?_⟩, fun x y => ?_, fun a ha => ?_⟩
        · rw [List.mem_singleton.1 hb]; exact h3 a ha l (by simp)
        · rw [inB_app, inB_app, inB_one, inB_one, ← e.2]
          simp only
          constructor
          · rintro (g | ⟨g1, g2, g3⟩)
            · exact .inl (.inl g)
            · by_cases g4 : y < l.2.1
              · exact .inl (.inr ⟨g1, g4, g3⟩)
              · exact .inr ⟨by omega, g2, g3⟩
          · rintro ((g | ⟨g1, g2, g3⟩) | ⟨g1, g2, g3⟩)
            · exact .inl g
            · exact .inr ⟨g1, by omega, g3⟩
            · exact .inr ⟨by omega, g2, g3⟩
        · rcases List.mem_append.1 ha with ha | ha
          · have := hs a (by simp [ha]); omega
          · rw [List.mem_singleton.1 ha]; exact Int.le_refl _
      · rw [bstep_out he e]
        refine ⟨canB_app.2 ⟨h, hone, fun a ha b hb => ?_⟩, fun x y => by rw [inB_app, inB_one], fun a ha => ?_⟩
        · rw [List.mem_singleton.1 hb]
          rcases List.mem_append.1 ha with ha | ha
          · have := (h3 a ha l (by simp)).1
            exact ⟨by simp only; omega, fun g => by simp only at g; omega⟩
          · rw [List.mem_singleton.1 ha]
            exact ⟨hl, fun g g2 => e ⟨g, g2⟩⟩
        · rcases List.mem_append.1 ha with ha | ha
          · have := hs a ha; omega
          · rw [List.mem_singleton.1 ha]; exact Int.le_refl _
theorem bfold_can {f : Int → List Rn} (hf : ∀ y, Can (f y)) : ∀ (l : List Rn) (o : List Bd), CanB o → (∀ p ∈ l, p.1 < p.2) → l.Pairwise (fun a b => a.2 ≤ b.1) → (∀ a ∈ o, ∀ p ∈ l, a.2.1 ≤ p.1) →
    CanB (l.foldl (bstep f) o) ∧ ∀ x y, InB (l.foldl (bstep f) o) x y ↔ InB o x y ∨ ∃ p ∈ l, p.1 ≤ y ∧ y < p.2 ∧ InR (f p.1) x
  | [], o, h, _, _, _ => ⟨h, fun x y => by simp⟩
  | c :: l, o, h, h1, h2, h3 => by
    obtain ⟨h4, h5⟩ := List.pairwise_cons.1 h2
    obtain ⟨g1, g2, g3⟩ := bstep_can (hf c.1) h (h1 c (by simp)) fun a ha => h3 a ha c (by simp)
    obtain ⟨k1, k2⟩ := bfold_can hf l _ g1 (fun s hs => h1 s (by simp [hs])) h5 fun a ha s hs => Int.le_trans (g3 a ha) (h4 s hs)
    refine ⟨k1, fun x y => ?_⟩
    rw [List.foldl_cons, k2, g2, or_assoc]
    simp
/-- The points of a list of rectangles. -/
def inn (r : R) (x y : Int) : Bool := (decide (r.x0 ≤ x) && decide (x < r.x1)) && (decide (r.y0 ≤ y) && decide (y < r.y1))
theorem inn_iff {r : R} {x y : Int} : inn r x y = true ↔ (r.x0 ≤ x ∧ x < r.x1) ∧ (r.y0 ≤ y ∧ y < r.y1) := by simp [inn]
def ptF (l : List R) (x y : Int) : Bool := l.any fun r => inn r x y
theorem ptF_iff {l : List R} {x y : Int} : ptF l x y = true ↔ ∃ r ∈ l, (r.x0 ≤ x ∧ x < r.x1) ∧ (r.y0 ≤ y ∧ y < r.y1) := by simp [ptF, inn]
theorem row_pt {l : List R} (hc : ∀ r ∈ l, rempty r = false) (x y : Int) : cvF (sumF (rsF l y)) x = ptF l x y := by
  have h1 : ∀ r ∈ rsF l y, r.1 < r.2 := fun r hr => (rsF_ok hc r hr).1
  have : cvF (sumF (rsF l y)) x = true ↔ ptF l x y = true := by
    rw [cvF_iff, sumF_in h1, ptF_iff]
    constructor
    · rintro ⟨r, hr, g⟩
      obtain ⟨s, hs, rfl⟩ := List.mem_map.1 hr
      obtain ⟨hs1, hs2⟩ := List.mem_filter.1 hs
      simp at hs2
      exact ⟨s, hs1, g, hs2⟩
    · rintro ⟨s, hs, g1, g2⟩
      exact ⟨(s.x0, s.x1), List.mem_map.2 ⟨s, List.mem_filter.2 ⟨hs, by simp [g2]⟩, rfl⟩, g1⟩
  cases e1 : cvF (sumF (rsF l y)) x <;> cases e2 : ptF l x y <;> simp_all
theorem bands_can {kf : Bool → Bool → Bool} (h0 : kf false false = false) (la lb : List R) : CanB (bandsF kf la lb) ∧ ∀ x y, InB (bandsF kf la lb) x y ↔ kf (ptF (cl la) x y) (ptF (cl lb) x y) = true := by
  have hr := ysF_rising (cl la ++ cl lb)
  obtain ⟨p1, p2⟩ := pairs_lt _ hr
  have hf : ∀ y, Can (rowF kf (cl la) (cl lb) y) := fun y => by unfold rowF combF; exact kept_can (xsF_rising _)
  obtain ⟨k1, k2⟩ := bfold_can hf (pairs (ysF (cl la ++ cl lb))) [] ⟨by simp, .nil⟩ p1 p2 (by simp)
  have hca := cl_ok la
  have hcb := cl_ok lb
  have hrow : ∀ x y, InR (rowF kf (cl la) (cl lb) y) x ↔ kf (ptF (cl la) x y) (ptF (cl lb) x y) = true := by
    intro x y
    have h1 := fun (l : List R) (hc : ∀ r ∈ l, rempty r = false) => sumF_can (l := rsF l y) fun r hr => (rsF_ok hc r hr).1
    unfold rowF
    rw [combF_in h0 _ _ (h1 _ hca).1 (h1 _ hcb).1, row_pt hca, row_pt hcb]
  have cut : ∀ p ∈ pairs (ysF (cl la ++ cl lb)), ∀ x y, p.1 ≤ y → y < p.2 → ptF (cl la) x p.1 = ptF (cl la) x y ∧ ptF (cl lb) x p.1 = ptF (cl lb) x y := by
    intro p hp x y g1 g2
    have key : ∀ l : List R, (∀ r ∈ l, r ∈ cl la ++ cl lb) → ptF l x p.1 = ptF l x y := by
      intro l hl
      unfold ptF
      refine any_eq fun r hr' => ?_
      have m1 : r.y0 ∈ ysF (cl la ++ cl lb) := mem_ysF.2 ⟨r, hl r hr', .inl rfl⟩
      have m2 : r.y1 ∈ ysF (cl la ++ cl lb) := mem_ysF.2 ⟨r, hl r hr', .inr rfl⟩
      have c1 := pairs_cut hr hp g1 g2 m1
      have c2 := pairs_cut hr hp g1 g2 m2
      unfold inn
      congr 2
      · exact decide_eq_decide.2 c1.symm
      · exact decide_eq_decide.2 ⟨fun h => by omega, fun h => by omega⟩
    exact ⟨key _ fun r hr' => List.mem_append_left _ hr', key _ fun r hr' => List.mem_append_right _ hr'⟩
  refine ⟨k1, fun x y => ?_⟩
  refine (k2 x y).trans ?_
  constructor
  · rintro (⟨b, hb, _⟩ | ⟨p, hp, g1, g2, g3⟩)
    · simp at hb
    · obtain ⟨c1, c2⟩ := cut p hp x y g1 g2
      rw [hrow, c1, c2] at g3
      exact g3
  · intro hk
    have hex : ∃ r ∈ cl la ++ cl lb, r.y0 ≤ y ∧ y < r.y1 := by
      cases e1 : ptF (cl la) x y with
      | true =>
        obtain ⟨r, hr', g⟩ := ptF_iff.1 e1
        exact ⟨r, List.mem_append_left _ hr', g.2⟩
      | false =>
        cases e2 : ptF (cl lb) x y with
        | true =>
          obtain ⟨r, hr', g⟩ := ptF_iff.1 e2
          exact ⟨r, List.mem_append_right _ hr', g.2⟩
        | false => rw [e1, e2, h0] at hk; cases hk
    obtain ⟨r, hr', g1, g2⟩ := hex
    obtain ⟨p, hp, q1, q2⟩ := pairs_cover hr (mem_ysF.2 ⟨r, hr', .inl rfl⟩) (mem_ysF.2 ⟨r, hr', .inr rfl⟩) g1 g2
    obtain ⟨c1, c2⟩ := cut p hp x y q1 q2
    exact .inr ⟨p, hp, q1, q2, by rw [hrow, c1, c2]; exact hk⟩
end Go.Proofs.Ytkjkolacnpknoaa
end

/-! Regions, in plain words: a canonical region put in order is itself; its area is the sum of the areas of any rectangles that lie apart and have its points. No program in sight; conditions: as each lemma states them. -/
section
namespace Go.Proofs.Ytkjkolacnpknoaa
open Go Go.Ab Go.RowKit
set_option linter.unusedSimpArgs false
set_option linter.unusedVariables false
set_option linter.unnecessarySimpa false


theorem rectsF_mem {bs : List Bd} {r : R} : r ∈ rectsF bs ↔ ∃ b ∈ bs, ∃ s ∈ b.2.2, r = mkR b.1 b.2.1 s := by
  simp only [rectsF, List.mem_flatMap, List.mem_map]
  constructor
  · rintro ⟨b, hb, s, hs, rfl⟩; exact ⟨b, hb, s, hs, rfl⟩
  · rintro ⟨b, hb, s, hs, rfl⟩; exact ⟨b, hb, s, hs, rfl⟩
theorem pt_rects {bs : List Bd} {x y : Int} : ptF (rectsF bs) x y = true ↔ InB bs x y := by
  rw [ptF_iff]
  constructor
  · rintro ⟨r, hr, g1, g2⟩
    obtain ⟨b, hb, s, hs, rfl⟩ := rectsF_mem.1 hr
    exact ⟨b, hb, g2.1, g2.2, s, hs, g1⟩
  · rintro ⟨b, hb, g1, g2, s, hs, g3⟩
    exact ⟨_, rectsF_mem.2 ⟨b, hb, s, hs, rfl⟩, g3, g1, g2⟩
theorem rects_clean {bs : List Bd} (h : CanB bs) (hr : ∀ x y, InB bs x y → (-16384 ≤ x ∧ x < 16384) ∧ (-16384 ≤ y ∧ y < 16384)) : ∀ r ∈ rectsF bs, rempty r = false := by
  intro r hr'
  obtain ⟨b, hb, s, hs, rfl⟩ := rectsF_mem.1 hr'
  obtain ⟨h1, _, h2⟩ := h.1 b hb
  have h3 := h2.1 s hs
  have p1 := hr s.1 b.1 ⟨b, hb, Int.le_refl _, h1, s, hs, Int.le_refl _, h3⟩
  have p2 := hr (s.2 - 1) (b.2.1 - 1) ⟨b, hb, by omega, by omega, s, hs, by omega, by omega⟩
  exact rempty_of _ (by simp only [mkR]; omega)
theorem cl_self {l : List R} (h : ∀ r ∈ l, rempty r = false) : cl l = l := List.filter_eq_self.2 fun r hr => by simp [h r hr]
theorem bool_eq {a b : Bool} (h : a = true ↔ b = true) : a = b := by cases a <;> cases b <;> simp_all
theorem canon_can (l : List R) : CanB (bandsF orF l []) := (bands_can rfl l []).1
theorem canon_inB (l : List R) (x y : Int) : InB (bandsF orF l []) x y ↔ ptF (cl l) x y = true := by
  rw [(bands_can rfl l []).2]
  simp [cl, ptF]
theorem canon_pts (l : List R) (x y : Int) : ptF (canonF l) x y = ptF (cl l) x y := bool_eq (pt_rects.trans (canon_inB l x y))
theorem pt_rng {l : List R} (hc : ∀ r ∈ l, rempty r = false) {x y : Int} (h : ptF l x y = true) : (-16384 ≤ x ∧ x < 16384) ∧ (-16384 ≤ y ∧ y < 16384) := by
  obtain ⟨r, hr, g1, g2⟩ := ptF_iff.1 h
  have := rempty_ok r (hc r hr)
  omega
theorem canon_clean (l : List R) : ∀ r ∈ canonF l, rempty r = false := rects_clean (canon_can l) fun x y h => pt_rng (cl_ok l) ((canon_inB l x y).1 h)
theorem canon_idem (l : List R) : canonF (canonF l) = canonF l := by
  have e : bandsF orF (canonF l) [] = bandsF orF l [] := canb_uniq (canon_can _) (canon_can _) fun x y => by
    rw [canon_inB, canon_inB, cl_self (canon_clean l), canon_pts]
  show rectsF (bandsF orF (canonF l) []) = rectsF (bandsF orF l [])
  rw [e]

/-! ### Areas: counts of points -/
def ran : List Int := (List.range 32768).map fun i : Nat => (i : Int) - 16384
theorem cnt_range (a b : Nat) : ∀ n, (List.range n).countP (fun i => decide (a ≤ i) && decide (i < b)) = min b n - min a n := by
  intro n
  induction n with
  | zero => simp
  | succ n ih =>
    rw [List.range_succ, List.countP_append, ih]
    by_cases h : a ≤ n ∧ n < b
    · simp [h]; omega
    · have : (decide (a ≤ n) && decide (n < b)) = false := by simpa using h
      simp [this]; omega
theorem cnt_iv {a b : Int} (h1 : -16384 ≤ a) (h2 : a ≤ b) (h3 : b ≤ 16384) : ran.countP (fun x => decide (a ≤ x) && decide (x < b)) = (b - a).toNat := by
  unfold ran
  rw [List.countP_map]
  have e : ((fun x : Int => decide (a ≤ x) && decide (x < b)) ∘ fun i : Nat => (i : Int) - 16384) = fun i : Nat => decide ((a + 16384).toNat ≤ i) && decide (i < (b + 16384).toNat) := by
    funext i
    simp only [Function.comp]
    congr 1
    · exact decide_eq_decide.2 ⟨fun h => by omega, fun h => by omega⟩
    · exact decide_eq_decide.2 ⟨fun h => by omega, fun h => by omega⟩
  rw [e, cnt_range]
  omega
def cnt (p : Int → Int → Bool) : Nat := (ran.map fun y => ran.countP fun x => p x y).sum
theorem sum_add {α : Type} (f g : α → Nat) : ∀ l : List α, (l.map fun y => f y + g y).sum = (l.map f).sum + (l.map g).sum
  | [] => rfl
  | a :: l => by simp only [List.map_cons, List.sum_cons]; rw [sum_add f g l]; omega
theorem countP_or2 {α : Type} {p q : α → Bool} (h : ∀ x, ¬ (p x = true ∧ q x = true)) : ∀ l : List α, l.countP (fun x => p x || q x) = l.countP p + l.countP q
  | [] => rfl
  | a :: l => by
    have := h a
    rw [List.countP_cons, List.countP_cons, List.countP_cons, countP_or2 h l]
    cases e1 : p a <;> cases e2 : q a <;> simp_all <;> omega
theorem cnt_or' {p q : Int → Int → Bool} (h : ∀ x y, ¬ (p x y = true ∧ q x y = true)) (l l2 : List Int) : (l.map fun y => l2.countP fun x => p x y || q x y).sum = (l.map fun y => l2.countP fun x => p x y).sum + (l.map fun y => l2.countP fun x => q x y).sum := by
  rw [← sum_add]
  have e : (fun y => l2.countP fun x => p x y || q x y) = fun y => (l2.countP fun x => p x y) + l2.countP fun x => q x y := by
    funext y
    exact countP_or2 (fun x => h x y) l2
  rw [e]
theorem cnt_or {p q : Int → Int → Bool} (h : ∀ x y, ¬ (p x y = true ∧ q x y = true)) : cnt (fun x y => p x y || q x y) = cnt p + cnt q := cnt_or' h ran ran
theorem sum_if {α : Type} (p : α → Bool) (c : Nat) : ∀ l : List α, (l.map fun y => if p y = true then c else 0).sum = c * l.countP p
  | [] => by simp
  | a :: l => by
    rw [List.map_cons, List.sum_cons, sum_if p c l, List.countP_cons]
    cases p a <;> simp [Nat.mul_add]; omega
theorem cnt_rect {r : R} (h : rempty r = false) : cnt (inn r) = (r.x1 - r.x0).toNat * (r.y1 - r.y0).toNat := by
  have hr := rempty_ok r h
  unfold cnt
  have e : (fun y => ran.countP fun x => inn r x y) = fun y => if (decide (r.y0 ≤ y) && decide (y < r.y1)) = true then (r.x1 - r.x0).toNat else 0 := by
    funext y
    cases hy : (decide (r.y0 ≤ y) && decide (y < r.y1)) with
    | true =>
      have : (fun x => inn r x y) = fun x => decide (r.x0 ≤ x) && decide (x < r.x1) := by funext x; unfold inn; rw [hy, Bool.and_true]
      rw [this, cnt_iv (by omega) (by omega) (by omega)]; rfl
    | false =>
      have : (fun x => inn r x y) = fun _ => false := by funext x; unfold inn; rw [hy, Bool.and_false]
      rw [this]; simp
  rw [e, sum_if, cnt_iv (by omega) (by omega) (by omega)]
def areaR (r : R) : Int := (r.x1 - r.x0) * (r.y1 - r.y0)
def areaF (l : List R) : Int := (l.map areaR).sum
def Apart (a b : R) : Prop := ∀ x y, ¬ (inn a x y = true ∧ inn b x y = true)
theorem area_cnt : ∀ {l : List R}, (∀ r ∈ l, rempty r = false) → l.Pairwise Apart → areaF l = (cnt (ptF l) : Int)
  | [], _, _ => by
    have : cnt (ptF []) = 0 := by
      unfold cnt
      have e : (fun y => ran.countP fun x => ptF [] x y) = fun _ : Int => 0 := by funext y; simp [ptF]
      rw [e]
      generalize ran = l
      induction l with
      | nil => rfl
      | cons a l ih => simpa using ih
    rw [this]; rfl
  | r :: l, hc, hd => by
    obtain ⟨h1, h2⟩ := List.pairwise_cons.1 hd
    have ih := area_cnt (l := l) (fun s hs => hc s (by simp [hs])) h2
    have e : ptF (r :: l) = fun x y => inn r x y || ptF l x y := by funext x y; simp [ptF]
    have hr := rempty_ok r (hc r (by simp))
    have hdis : ∀ x y, ¬ (inn r x y = true ∧ ptF l x y = true) := by
      rintro x y ⟨g1, g2⟩
      simp only [ptF, List.any_eq_true] at g2
      obtain ⟨s, hs, g2⟩ := g2
      exact h1 s hs x y ⟨g1, g2⟩
    rw [e, cnt_or hdis, cnt_rect (hc r (by simp))]
    · have e2 : areaF (r :: l) = areaR r + areaF l := by simp [areaF]
      rw [e2, ih]
      have e3 : (((r.x1 - r.x0).toNat * (r.y1 - r.y0).toNat : Nat) : Int) = areaR r := by
        rw [Int.natCast_mul, Int.toNat_of_nonneg (by omega), Int.toNat_of_nonneg (by omega)]; rfl
      rw [Int.natCast_add, e3]
theorem rects_apart : ∀ {bs : List Bd}, CanB bs → (rectsF bs).Pairwise Apart
  | [], _ => .nil
  | b :: bs, h => by
    obtain ⟨⟨h1, _, h2⟩, h3, h4⟩ := CanB.cons.1 h
    have e : rectsF (b :: bs) = b.2.2.map (mkR b.1 b.2.1) ++ rectsF bs := rfl
    rw [e, List.pairwise_append]
    refine ⟨?_, rects_apart h4, fun r hr s hs x y ⟨g1, g2⟩ => ?_⟩
    · rw [List.pairwise_map]
      refine h2.2.imp fun {a c} hac x y ⟨g1, g2⟩ => ?_
      have k1 := (inn_iff.1 g1).1
      have k2 := (inn_iff.1 g2).1
      simp only [mkR] at k1 k2
      omega
    · obtain ⟨t, _, rfl⟩ := List.mem_map.1 hr
      obtain ⟨c, hc, u, _, rfl⟩ := rectsF_mem.1 hs
      have k1 := (inn_iff.1 g1).2
      have k2 := (inn_iff.1 g2).2
      have := (h3 c hc).1
      simp only [mkR] at k1 k2
      omega
theorem canon_area {l : List R} (hc : ∀ r ∈ l, rempty r = false) (hd : l.Pairwise Apart) : areaF (canonF l) = areaF l := by
  rw [area_cnt (canon_clean l) (rects_apart (canon_can l)), area_cnt hc hd]
  have e : ptF (canonF l) = ptF l := by funext x y; rw [canon_pts, cl_self hc]
  rw [e]
end Go.Proofs.Ytkjkolacnpknoaa
end

/-! The reference's questions about a region, walked: Same, IsCanonical, Area, Contains. Conditions: as each lemma states them. -/
section
namespace Go.Proofs.Ytkjkolacnpknoaa
open Go Go.Ab Go.RowKit
set_option linter.unusedSimpArgs false
set_option linter.unusedVariables false
set_option linter.unnecessarySimpa false

attribute [local simp] condK_true condK_false condK_not wpc_skip wpc_ret wpc_exit wpc_seq wpc_reg wpc_regD testA_bool wpc_cond wpc_block thenA_normal thenA_ret thenA_exit blockA_normal blockA_ret blockA_exit blockA_other endA_normal endA_ret ev_tmp' ev_const ev_func ev_global cv_int cv_bool cv_string cv_pointer cv_slice cv_agg cv_map put_some put_none wH_s setE_apply setE_env less_eq env_cons env_nil upd_upd upd_apply del_apply startA_eq cells_ag cells_sl one_sl cells_vs one_vs cells_ep one_ep cells_fn one_fn cells_int one_int cells_bool one_bool cells_string one_string cells_pointer one_pointer cells_slice one_slice cells_map one_map cells_agg resK_one resK_nil resK_two rvK_t rvK_c rvsK_nil rvsK_cons iseq_nil iseq_cons gdA_true gdA_false gdA_undef istep_free istep_guard istepV_free istepV_guard dseq_nil dseq_pu dseq_rd dseq_ef wpc_regT dtree_nil dtree_pu dtree_rd dtree_ef dtree_br chkAll_nil chkAll_cons andK_true pickK_true pickK_false pickK_tb pickK_fb bin2K_pl eqbK_eq eqbK_ne eqpK_eq eqpK_ne eqmK_eq eqmK_ne eqzK_eq eqzK_ne eqzK_sl eqzK_vs un1K_pl convK_int fillK_some fillA_cons fillA_nil cellsK_some needK_true needK_ok seeK_ep seeK_ptr oneK_agg oneK_one nilcK_ptr nilcK_ep fadrK_ptr fadrK_ep fldK_ag iadAK_ptr iadAK_ep iadSK_sl iadSK_vs extK_0 extK_1 extK_2 extK_3 lenK_pl lenK_sl lenK_vs lensK_pl boxK_some minmax1K_int storeK_ptr callvK_fn callvK_pl newsK_nil newsK_vs newsK_sl appK_nil appK_nil0 appK_sl appK_vs bnd1K_int bndK_none bndK_some slsK_vs slsK_nil slsK_sl0 slsK_sl slstrK_pl boolK_some eqsK_ag iop_eqs iop_sls iop_slstr seesK_some seesK_ro mapsK_some MAP_some findK_some findK_none plK_pl nmapK_none nmapK_some iop_mlook iop_mlen iop_mmk iop_mupd iop_mdel iop_mrng itK_none itK_some ptr0K_ptr iop_mnxt iop_ment it1K_some entK_some iop_mov iop_pick iop_bin iop_eqb iop_eqp iop_eqm iop_eqz iop_un capK_pl capK_sl capK_vs iop_cap iop_b2s b2sK_nil b2sK_sl b2sK_vs strK_some iop_idxv idxvK_ag atK_some apzK_nil iop_apz mksK_int iop_mks clrK_sl clrK_vs clrK_nil iop_clr iop_conv iop_build iop_load iop_nilc iop_fadr iop_fld iop_iadA iop_iadS iop_ext iop_mkf iop_len iop_lens iop_minmax iop_al iop_box iop_bsl iop_store iop_call iop_callv iop_app BIN_add BIN_sub BIN_mul BIN_and BIN_or BIN_xor BIN_andNot BIN_eql BIN_neq BIN_lss BIN_leq BIN_gtr BIN_geq BIN_quo BIN_rem BIN_shl BIN_shr BIN_sadd BIN_seql BIN_sneq BIN_slss BIN_sleq BIN_sgtr BIN_sgeq UN_neg UN_xor UN_not MM_nil MM_cons partsA argsA ptrA lessL eqL min2I slotN_int slotP_int slotI_int
attribute [local simp] rc_len rc_t4 rc_t1 rc_t2 rc_t3 rc_d1 rc_d2 rc_d3 rc_d4 rc_ag rc_one rc_eq

theorem areaF_snoc (l : List R) (r : R) : areaF (l ++ [r]) = areaF l + areaR r := by simp [areaF]
theorem areaR_rng {r : R} (h : rempty r = false) : 0 ≤ areaR r ∧ areaR r ≤ 1073741824 := by
  have := rempty_ok r h
  unfold areaR
  refine ⟨Int.mul_nonneg (by omega) (by omega), ?_⟩
  have h1 : (r.x1 - r.x0) * (r.y1 - r.y0) ≤ 32768 * 32768 := Int.mul_le_mul (by omega) (by omega) (by omega) (by omega)
  omega
theorem areaF_rng : ∀ {l : List R}, (∀ r ∈ l, rempty r = false) → 0 ≤ areaF l ∧ areaF l ≤ l.length * 1073741824
  | [], _ => by simp [areaF]
  | r :: l, h => by
    have h1 := areaR_rng (h r (by simp))
    have h2 := areaF_rng (l := l) fun s hs => h s (by simp [hs])
    have e : areaF (r :: l) = areaR r + areaF l := by simp [areaF]
    rw [e, List.length_cons]
    omega
end Go.Proofs.Ytkjkolacnpknoaa
end

/-! The reference's Contains, walked. Conditions: as each lemma states them. -/
section
namespace Go.Proofs.Ytkjkolacnpknoaa
open Go Go.Ab Go.RowKit
set_option linter.unusedSimpArgs false
set_option linter.unusedVariables false
set_option linter.unnecessarySimpa false

attribute [local simp] condK_true condK_false condK_not wpc_skip wpc_ret wpc_exit wpc_seq wpc_reg wpc_regD testA_bool wpc_cond wpc_block thenA_normal thenA_ret thenA_exit blockA_normal blockA_ret blockA_exit blockA_other endA_normal endA_ret ev_tmp' ev_const ev_func ev_global cv_int cv_bool cv_string cv_pointer cv_slice cv_agg cv_map put_some put_none wH_s setE_apply setE_env less_eq env_cons env_nil upd_upd upd_apply del_apply startA_eq cells_ag cells_sl one_sl cells_vs one_vs cells_ep one_ep cells_fn one_fn cells_int one_int cells_bool one_bool cells_string one_string cells_pointer one_pointer cells_slice one_slice cells_map one_map cells_agg resK_one resK_nil resK_two rvK_t rvK_c rvsK_nil rvsK_cons iseq_nil iseq_cons gdA_true gdA_false gdA_undef istep_free istep_guard istepV_free istepV_guard dseq_nil dseq_pu dseq_rd dseq_ef wpc_regT dtree_nil dtree_pu dtree_rd dtree_ef dtree_br chkAll_nil chkAll_cons andK_true pickK_true pickK_false pickK_tb pickK_fb bin2K_pl eqbK_eq eqbK_ne eqpK_eq eqpK_ne eqmK_eq eqmK_ne eqzK_eq eqzK_ne eqzK_sl eqzK_vs un1K_pl convK_int fillK_some fillA_cons fillA_nil cellsK_some needK_true needK_ok seeK_ep seeK_ptr oneK_agg oneK_one nilcK_ptr nilcK_ep fadrK_ptr fadrK_ep fldK_ag iadAK_ptr iadAK_ep iadSK_sl iadSK_vs extK_0 extK_1 extK_2 extK_3 lenK_pl lenK_sl lenK_vs lensK_pl boxK_some minmax1K_int storeK_ptr callvK_fn callvK_pl newsK_nil newsK_vs newsK_sl appK_nil appK_nil0 appK_sl appK_vs bnd1K_int bndK_none bndK_some slsK_vs slsK_nil slsK_sl0 slsK_sl slstrK_pl boolK_some eqsK_ag iop_eqs iop_sls iop_slstr seesK_some seesK_ro mapsK_some MAP_some findK_some findK_none plK_pl nmapK_none nmapK_some iop_mlook iop_mlen iop_mmk iop_mupd iop_mdel iop_mrng itK_none itK_some ptr0K_ptr iop_mnxt iop_ment it1K_some entK_some iop_mov iop_pick iop_bin iop_eqb iop_eqp iop_eqm iop_eqz iop_un capK_pl capK_sl capK_vs iop_cap iop_b2s b2sK_nil b2sK_sl b2sK_vs strK_some iop_idxv idxvK_ag atK_some apzK_nil iop_apz mksK_int iop_mks clrK_sl clrK_vs clrK_nil iop_clr iop_conv iop_build iop_load iop_nilc iop_fadr iop_fld iop_iadA iop_iadS iop_ext iop_mkf iop_len iop_lens iop_minmax iop_al iop_box iop_bsl iop_store iop_call iop_callv iop_app BIN_add BIN_sub BIN_mul BIN_and BIN_or BIN_xor BIN_andNot BIN_eql BIN_neq BIN_lss BIN_leq BIN_gtr BIN_geq BIN_quo BIN_rem BIN_shl BIN_shr BIN_sadd BIN_seql BIN_sneq BIN_slss BIN_sleq BIN_sgtr BIN_sgeq UN_neg UN_xor UN_not MM_nil MM_cons partsA argsA ptrA lessL eqL min2I slotN_int slotP_int slotI_int
attribute [local simp] rc_len rc_t4 rc_t1 rc_t2 rc_t3 rc_d1 rc_d2 rc_d3 rc_d4 rc_ag rc_one rc_eq

theorem ptF_snoc (l : List R) (r : R) (x y : Int) : ptF (cl (l ++ [r])) x y = (ptF (cl l) x y || (usF r && inn r x y)) := by
  rw [cl_push, usF_eq]
  cases rempty r <;> simp [ptF]
theorem ptF_mem {l : List R} {r : R} (h : r ∈ l) {x y : Int} (hu : usF r = true) (hi : inn r x y = true) : ptF (cl l) x y = true := by
  rw [usF_eq] at hu
  exact List.any_eq_true.2 ⟨r, List.mem_filter.2 ⟨h, by simpa using hu⟩, hi⟩
end Go.Proofs.Ytkjkolacnpknoaa
end
