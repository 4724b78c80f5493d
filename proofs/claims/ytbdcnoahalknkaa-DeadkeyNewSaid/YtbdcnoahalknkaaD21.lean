/-
  The arguments of DeadkeyApart and DeadkeyNew. No conditions.
-/
import Derived.Test.YtbdcnoahalknkaaD18
import Derived.Test.YtbdcnoahalknkaaD20
namespace Go.Proofs.Ytbdcnoahalknkaa
open Go Go.Ab Go.RowKit
set_option linter.unusedSimpArgs false
set_option linter.unusedVariables false
set_option linter.unnecessarySimpa false

attribute [local simp] condK_true condK_false condK_not wpc_skip wpc_ret wpc_exit wpc_seq wpc_reg wpc_regD testA_bool wpc_cond wpc_block thenA_normal thenA_ret thenA_exit blockA_normal blockA_ret blockA_exit blockA_other endA_normal endA_ret ev_tmp' ev_const ev_func ev_global cv_int cv_bool cv_string cv_pointer cv_slice cv_agg cv_map put_some put_none wH_s setE_apply setE_env less_eq env_cons env_nil upd_upd upd_apply del_apply startA_eq cells_ag cells_sl one_sl cells_vs one_vs cells_ep one_ep cells_fn one_fn cells_int one_int cells_bool one_bool cells_string one_string cells_pointer one_pointer cells_slice one_slice cells_map one_map cells_agg resK_one resK_nil resK_two rvK_t rvK_c rvsK_nil rvsK_cons iseq_nil iseq_cons gdA_true gdA_false gdA_undef istep_free istep_guard istepV_free istepV_guard dseq_nil dseq_pu dseq_rd dseq_ef wpc_regT dtree_nil dtree_pu dtree_rd dtree_ef dtree_br chkAll_nil chkAll_cons andK_true pickK_true pickK_false pickK_tb pickK_fb bin2K_pl eqbK_eq eqbK_ne eqpK_eq eqpK_ne eqmK_eq eqmK_ne eqzK_eq eqzK_ne eqzK_sl eqzK_vs un1K_pl convK_int fillK_some fillA_cons fillA_nil cellsK_some needK_true needK_ok seeK_ep seeK_ptr oneK_agg oneK_one nilcK_ptr nilcK_ep fadrK_ptr fadrK_ep fldK_ag iadAK_ptr iadAK_ep iadSK_sl iadSK_vs extK_0 extK_1 extK_2 extK_3 lenK_pl lenK_sl lenK_vs lensK_pl boxK_some minmax1K_int storeK_ptr callvK_fn callvK_pl newsK_nil newsK_vs newsK_sl appK_nil appK_nil0 appK_sl appK_vs bnd1K_int bndK_none bndK_some slsK_vs slsK_nil slsK_sl0 slsK_sl slstrK_pl boolK_some eqsK_ag iop_eqs iop_sls iop_slstr seesK_some seesK_ro mapsK_some MAP_some findK_some findK_none plK_pl nmapK_none nmapK_some iop_mlook iop_mlen iop_mmk iop_mupd iop_mdel iop_mrng itK_none itK_some ptr0K_ptr iop_mnxt iop_ment it1K_some entK_some iop_mov iop_pick iop_bin iop_eqb iop_eqp iop_eqm iop_eqz iop_un iop_conv iop_build iop_load iop_nilc iop_fadr iop_fld iop_iadA iop_iadS iop_ext iop_mkf iop_len iop_lens iop_minmax iop_al iop_box iop_bsl iop_store iop_call iop_callv iop_app BIN_add BIN_sub BIN_mul BIN_and BIN_or BIN_xor BIN_andNot BIN_eql BIN_neq BIN_lss BIN_leq BIN_gtr BIN_geq BIN_quo BIN_rem BIN_shl BIN_shr BIN_sadd BIN_seql BIN_sneq BIN_slss BIN_sleq BIN_sgtr BIN_sgeq UN_neg UN_xor UN_not MM_nil MM_cons partsA argsA ptrA lessL eqL min2I slotN_int slotP_int slotI_int

theorem fitSeqs2 {a : AV} (h : FitT false [.sl seqL] a) : ∃ L : List (AV × Sq), a = .vs L.length false (flat sqc L) ∧ L.length ≤ maxLen ∧ (∀ x ∈ L, x.1 = .vs x.2.ks.length false (x.2.ks.map vi)) ∧ ∀ x ∈ L, x.2.ks.length ≤ maxLen := by
  obtain ⟨n, cs, rfl, hn, hl, hf⟩ := (FitL.one_inv h).sl_inv
  obtain ⟨l, h1, h2⟩ := FitL.elems (E := { p : Sq // p.ks.length ≤ maxLen }) (enc := fun p => [.vs p.1.ks.length false (p.1.ks.map vi), vs8 p.1.r]) (by decide) (fun cs h => by
    obtain ⟨_, _, rfl, h0, h⟩ := h.cons_inv
    obtain ⟨_, _, rfl, h1, h⟩ := h.cons_inv
    obtain rfl := h.nil_inv
    obtain ⟨m, rfl, hm⟩ := fitKeysL h0
    obtain ⟨r, rfl, _⟩ := h1.s_inv
    exact ⟨⟨⟨m, r⟩, hm⟩, rfl⟩) n cs hl hf
  subst h1; subst h2
  refine ⟨l.map fun p => (.vs p.1.ks.length false (p.1.ks.map vi), p.1), ?_, by simpa using hn, ?_, ?_⟩
  · simp [flat, sqc, Function.comp_def]
  · intro x hx
    obtain ⟨p, hp, rfl⟩ := List.mem_map.1 hx
    rfl
  · intro x hx
    obtain ⟨p, hp, rfl⟩ := List.mem_map.1 hx
    exact p.2
theorem law_DeadkeyApart (xs : List AV) (hf : FitsT [(false, [.sl seqL]), (false, [.i .u8]), (false, [.i .u8])] xs) : ACall Try.prog 9 xs (fun _ => none) (fun v _ => v = vb true) := by
  obtain ⟨a, _, rfl, h1, hf⟩ := hf.cons
  obtain ⟨b, _, rfl, h2, hf⟩ := hf.cons
  obtain ⟨c, _, rfl, h3, hf⟩ := hf.cons
  obtain rfl := hf.nil
  obtain ⟨L, rfl, hL, hk, hl⟩ := fitSeqs2 h1
  obtain ⟨n, rfl, h4, h5⟩ := fitU8 h2
  obtain ⟨m, rfl, h6, h7⟩ := fitU8 h3
  refine c9 n m h4 h5 h6 h7 (sr_arg (fun x hx H => ?_) _) hk hl hL
  rw [hk x hx]
  exact Rw.vs H (by simp)
theorem law_DeadkeyNew (xs : List AV) (hf : FitsT [(false, [.sl seqL])] xs) (hs : ∀ n g cs, xs[0]? = some (.vs n g cs) → n * Try.prog.bytesOf 51 ≤ reachBytes) : ACall Try.prog 3 xs (fun _ => none) (fun v _ => v = vb true) := by
  obtain ⟨a, _, rfl, h1, hf⟩ := hf.cons
  obtain rfl := hf.nil
  obtain ⟨L, rfl, hL, hk, hl⟩ := fitSeqs h1
  have h2 := hs _ _ _ rfl
  have h4 : Try.prog.bytesOf 51 = 40 := by kernel_rfl
  rw [h4] at h2
  have h3 : reachBytes = 140737488351232 := rfl
  exact c3 (sr_arg hk _) hl hL (by omega)
end Go.Proofs.Ytbdcnoahalknkaa
