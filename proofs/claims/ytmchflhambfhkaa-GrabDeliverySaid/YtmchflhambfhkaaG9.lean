/-
  GrabDelivery: what the law does at every list of calls. Conditions: the list reads as a list of calls.
-/
import Derived.Test.YtmchflhambfhkaaG7
namespace Go.Proofs.Ytmchflhambfhkaa
open Go Go.Ab Go.RowKit
set_option linter.unusedSimpArgs false
set_option linter.unusedVariables false
set_option linter.unnecessarySimpa false

attribute [local simp] condK_true condK_false condK_not wpc_skip wpc_ret wpc_exit wpc_seq wpc_reg wpc_regD testA_bool wpc_cond wpc_block thenA_normal thenA_ret thenA_exit blockA_normal blockA_ret blockA_exit blockA_other endA_normal endA_ret ev_tmp' ev_const ev_func ev_global cv_int cv_bool cv_string cv_pointer cv_slice cv_agg put_some put_none wH_s setE_apply less_eq env_cons env_nil upd_apply del_apply startA_eq cells_ag cells_sl one_sl cells_vs one_vs cells_ep one_ep cells_fn one_fn cells_int one_int cells_bool one_bool cells_string one_string cells_pointer one_pointer cells_slice one_slice cells_map one_map cells_agg resK_one resK_nil resK_two rvK_t rvK_c rvsK_nil rvsK_cons iseq_nil iseq_cons gdA_true gdA_false gdA_undef istep_free istep_guard istepV_free istepV_guard dseq_nil dseq_pu dseq_rd dseq_ef chkAll_nil chkAll_cons andK_true pickK_true pickK_false pickK_tb pickK_fb bin2K_pl eqbK_eq eqbK_ne eqpK_eq eqpK_ne un1K_pl convK_int fillK_some fillA_cons fillA_nil cellsK_some needK_true needK_ok seeK_ep seeK_ptr oneK_agg oneK_one nilcK_ptr nilcK_ep fadrK_ptr fadrK_ep fldK_ag iadAK_ptr iadAK_ep iadSK_sl iadSK_vs extK_0 extK_1 extK_2 extK_3 lenK_pl lenK_sl lenK_vs lensK_pl boxK_some minmax1K_int storeK_ptr callvK_fn callvK_pl newsK_nil newsK_vs newsK_sl appK_nil appK_nil0 appK_sl appK_vs bnd1K_int bndK_none bndK_some slsK_vs slsK_nil slsK_sl0 slsK_sl slstrK_pl boolK_some eqsK_ag iop_eqs iop_sls iop_slstr iop_mov iop_pick iop_bin iop_eqb iop_eqp iop_un iop_conv iop_build iop_load iop_nilc iop_fadr iop_fld iop_iadA iop_iadS iop_ext iop_mkf iop_len iop_lens iop_minmax iop_al iop_box iop_bsl iop_store iop_call iop_callv iop_app BIN_add BIN_sub BIN_mul BIN_and BIN_or BIN_xor BIN_andNot BIN_eql BIN_neq BIN_lss BIN_leq BIN_gtr BIN_geq BIN_quo BIN_rem BIN_shl BIN_shr BIN_sadd BIN_seql BIN_sneq BIN_slss BIN_sleq BIN_sgtr BIN_sgeq UN_neg UN_xor UN_not MM_nil MM_cons partsA argsA ptrA lessL eqL min2I
attribute [local simp] slotN_int slotP_int


theorem top_facts {m : M} (h : Inv m) : topM m = (0, 0, 0) ∨ ∃ k o s, topM m = (k, o, s) ∧ (k = 1 ∨ k = 2 ∨ k = 3) ∧ 1 ≤ o := by
  unfold topM
  by_cases hd : m.d0 = 0
  · by_cases hb : m.b0 = 0
    · by_cases hc : m.ch = []
      · left; simp [hd, hb, hc]
      · right
        have := h.o hc
        exact ⟨2, m.owner, _, by simp [hd, hb, hc]; rfl, .inr (.inl rfl), this⟩
    · right
      have := h.b
      exact ⟨1, m.b0, m.b1, by simp [hd, hb], .inl rfl, by omega⟩
  · right
    have := h.d
    exact ⟨3, m.d0, m.d1, by simp [hd], .inr (.inr rfl), by omega⟩

theorem grabDelivery {n : Nat} {cs : List AV} (c : Int) (hcs : n ≤ 100 → ∃ l : List Opn, l.length = n ∧ cs = opcs l) (hn : n ≤ maxLen) {K : AV → AH → Prop} (hk : ∀ H', K (vb true) H') :
    ACall Try.prog 4 [.vs n false cs, vi c] (fun _ => none) K := by
  refine call_c follows cf4_ok (by simp) ?_
  simp
  by_cases h0 : (100 : Int) < n
  · simp [h0]
    refine c10 fun H' _ => ?_
    simp
    exact hk _
  by_cases hc : c < 1
  · simp [h0, hc]
    refine c10 fun H' _ => ?_
    simp
    exact hk _
  obtain ⟨l, rfl, rfl⟩ := hcs (by omega)
  simp [h0, hc]
  refine c20 l (by omega) fun i H1 F1 h1 _ => ?_
  simp
  have hI : Inv (runM m0 l) := Inv.run l Inv.zero
  generalize runM m0 l = m at *
  refine c16 h1 hI.lt ?_
  rcases top_facts hI with ht | ⟨k, o, s, ht, hkk, ho⟩
  · rw [ht]
    simp
    refine c18 h1 hI.lt c ?_
    simp [allowsM, ht, hc]
    refine c18 h1 hI.lt 0 ?_
    simp [allowsM]
    refine c10 fun H' _ => ?_
    simp
    exact hk _
  · have ho1 : ¬ o < 1 := by omega
    rw [ht]
    rcases hkk with rfl | rfl | rfl
    · simp [ho1]
      refine c18 h1 hI.lt c ?_
      simp [allowsM, ht, hc]
      refine c18 h1 hI.lt 0 ?_
      simp [allowsM]
      refine c10 fun H' _ => ?_
      simp
      exact hk _
    · simp [ho1]
      refine c18 h1 hI.lt c ?_
      simp [allowsM, ht, hc]
      refine c18 h1 hI.lt 0 ?_
      simp [allowsM]
      refine c10 fun H' _ => ?_
      simp
      exact hk _
    · simp [ho1]
      refine c18 h1 hI.lt c ?_
      simp [allowsM, ht, hc]
      refine c18 h1 hI.lt 0 ?_
      simp [allowsM]
      refine c10 fun H' _ => ?_
      simp
      exact hk _
end Go.Proofs.Ytmchflhambfhkaa
