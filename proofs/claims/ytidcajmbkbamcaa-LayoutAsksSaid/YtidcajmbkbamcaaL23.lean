/-
  The list of the reference is that of the program, in order: plain facts. Conditions: as each lemma states them.
-/
import Derived.Test.YtidcajmbkbamcaaL22
namespace Go.Proofs.Ytidcajmbkbamcaa
open Go Go.Ab Go.RowKit
set_option linter.unusedSimpArgs false
set_option linter.unusedVariables false
set_option linter.unnecessarySimpa false

attribute [local simp] condK_true condK_false condK_not wpc_skip wpc_ret wpc_exit wpc_seq wpc_reg wpc_regD testA_bool wpc_cond wpc_block thenA_normal thenA_ret thenA_exit blockA_normal blockA_ret blockA_exit blockA_other endA_normal endA_ret ev_tmp' ev_const ev_func ev_global cv_int cv_bool cv_string cv_pointer cv_slice cv_agg put_some put_none wH_s setE_apply setE_env less_eq env_cons env_nil upd_upd upd_apply del_apply startA_eq cells_ag cells_sl one_sl cells_vs one_vs cells_ep one_ep cells_fn one_fn cells_int one_int cells_bool one_bool cells_string one_string cells_pointer one_pointer cells_slice one_slice cells_map one_map cells_agg resK_one resK_nil resK_two rvK_t rvK_c rvsK_nil rvsK_cons iseq_nil iseq_cons gdA_true gdA_false gdA_undef istep_free istep_guard istepV_free istepV_guard dseq_nil dseq_pu dseq_rd dseq_ef chkAll_nil chkAll_cons andK_true pickK_true pickK_false pickK_tb pickK_fb bin2K_pl eqbK_eq eqbK_ne eqpK_eq eqpK_ne un1K_pl convK_int fillK_some fillA_cons fillA_nil cellsK_some needK_true needK_ok seeK_ep seeK_ptr oneK_agg oneK_one nilcK_ptr nilcK_ep fadrK_ptr fadrK_ep fldK_ag iadAK_ptr iadAK_ep iadSK_sl iadSK_vs extK_0 extK_1 extK_2 extK_3 lenK_pl lenK_sl lenK_vs lensK_pl boxK_some minmax1K_int storeK_ptr callvK_fn callvK_pl newsK_nil newsK_vs newsK_sl appK_nil appK_nil0 appK_sl appK_vs bnd1K_int bndK_none bndK_some slsK_vs slsK_nil slsK_sl0 slsK_sl slstrK_pl boolK_some eqsK_ag iop_eqs iop_sls iop_slstr seesK_some seesK_ro mapsK_some MAP_some findK_some findK_none plK_pl nmapK_none nmapK_some iop_mlook iop_mlen iop_mmk iop_mupd iop_mdel iop_mrng itK_none itK_some ptr0K_ptr iop_mnxt iop_ment it1K_some entK_some iop_mov iop_pick iop_bin iop_eqb iop_eqp iop_un iop_conv iop_build iop_load iop_nilc iop_fadr iop_fld iop_iadA iop_iadS iop_ext iop_mkf iop_len iop_lens iop_minmax iop_al iop_box iop_bsl iop_store iop_call iop_callv iop_app BIN_add BIN_sub BIN_mul BIN_and BIN_or BIN_xor BIN_andNot BIN_eql BIN_neq BIN_lss BIN_leq BIN_gtr BIN_geq BIN_quo BIN_rem BIN_shl BIN_shr BIN_sadd BIN_seql BIN_sneq BIN_slss BIN_sleq BIN_sgtr BIN_sgeq UN_neg UN_xor UN_not MM_nil MM_cons partsA argsA ptrA lessL eqL min2I slotN_int slotP_int slotI_int

theorem bytesLess_iff : ∀ a b : List UInt8, Op.bytesLess a b = true ↔ a < b
  | [], [] => by simp [Op.bytesLess]
  | [], y :: b => by simp [Op.bytesLess]
  | x :: a, [] => by simp [Op.bytesLess]
  | x :: a, y :: b => by
    have ih := bytesLess_iff a b
    simp only [Op.bytesLess, List.cons_lt_cons_iff]
    by_cases h1 : x < y
    · simp [h1]
    · by_cases h2 : x = y
      · subst h2; simp [ih]
      · simp [h1, h2, ih]
theorem srtL_sorted (l : List (List UInt8)) : (srtL l).Pairwise fun x y => x ≤ y := by
  have := List.pairwise_mergeSort (le := fun x y : List UInt8 => decide (x ≤ y)) (fun a b c h1 h2 => by simp at *; exact List.le_trans h1 h2) (fun a b => by simpa using List.le_total a b) l
  exact this.imp fun h => by simpa using h
def Up (L : List O) : Prop := L.Pairwise fun a b => a.nm.toList ≤ b.nm.toList
theorem souts_uniq {m L : List O} (hn : (m.map okey).Nodup) (hp : L.Perm m) (hs : Up L) : L = souts m := by
  have h1 : L.map (fun o => o.nm.toList) = srtL (m.map fun o => o.nm.toList) := by
    refine List.Perm.eq_of_pairwise (le := fun x y => x ≤ y) (fun a b _ _ h1 h2 => List.le_antisymm h1 h2) ?_ (srtL_sorted _) ?_
    · exact List.pairwise_map.2 hs
    · exact (hp.map _).trans (List.mergeSort_perm _ _).symm
  unfold souts snames
  rw [← h1, List.map_map, List.map_map]
  conv => lhs; rw [← List.map_id L]
  refine List.map_congr_left fun o ho => ?_
  simp only [Function.comp, toB_toList]
  exact (look_of hn (hp.mem_iff.1 ho)).symm
theorem look_nm {m : List O} {s : ByteArray} (h : s ∈ m.map okey) : (look m s).nm = s := by
  rcases splitS okey s m with e | ⟨m1, x, m2, rfl, e1, e2⟩
  · obtain ⟨x, hx, rfl⟩ := List.mem_map.1 h
    exact absurd rfl (e x hx)
  · rw [look_mid e1 e2]; exact e2
theorem souts_up (m : List O) : Up (souts m) := by
  unfold Up souts
  rw [List.pairwise_map]
  have h1 : (snames m).Pairwise fun a b => a.toList ≤ b.toList := by
    unfold snames
    rw [List.pairwise_map]
    refine (srtL_sorted _).imp fun {a b} h => ?_
    have e : ∀ l : List UInt8, (toB l).toList = l := fun l => by rw [ByteArray.toList_eq]; rfl
    rw [e, e]; exact h
  refine List.Pairwise.imp_of_mem ?_ h1
  intro a b ha hb h
  rw [look_nm ((snames_perm m).mem_iff.1 ha), look_nm ((snames_perm m).mem_iff.1 hb)]
  exact h
theorem oins_perm (o : O) : ∀ l, (oins o l).Perm (o :: l)
  | [] => .refl _
  | x :: t => by
    unfold oins
    split
    · exact .refl _
    · exact ((oins_perm o t).cons x).trans (List.Perm.swap ..)
theorem oins_up (o : O) : ∀ l, Up l → Up (oins o l)
  | [], _ => by simp [oins, Up]
  | x :: t, h => by
    obtain ⟨h1, h2⟩ := List.pairwise_cons.1 h
    unfold oins
    split
    · rename_i c
      have hlt : o.nm.toList < x.nm.toList := (bytesLess_iff _ _).1 c
      have hle : o.nm.toList ≤ x.nm.toList := List.le_of_lt hlt
      refine List.pairwise_cons.2 ⟨fun y hy => ?_, h⟩
      rcases List.mem_cons.1 hy with rfl | hy
      · exact hle
      · exact List.le_trans hle (h1 y hy)
    · rename_i c
      have hle : x.nm.toList ≤ o.nm.toList := by
        have : ¬ o.nm.toList < x.nm.toList := fun e => c ((bytesLess_iff _ _).2 e)
        exact List.not_lt.1 this
      refine List.pairwise_cons.2 ⟨fun y hy => ?_, oins_up o t h2⟩
      rcases List.mem_cons.1 ((oins_perm o t).mem_iff.1 hy) with rfl | hy
      · exact hle
      · exact h1 y hy
end Go.Proofs.Ytidcajmbkbamcaa
