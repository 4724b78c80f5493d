/-
  GrabRefused: what the law does at every list of calls and every call. Conditions: the arguments read as a list of calls, and a call.
-/
import Derived.Test.YtmchflhambfhkaaG11
namespace Go.Proofs.Ytmchflhambfhkaa
open Go Go.Ab Go.RowKit
set_option linter.unusedSimpArgs false
set_option linter.unusedVariables false
set_option linter.unnecessarySimpa false

attribute [local simp] condK_true condK_false condK_not wpc_skip wpc_ret wpc_exit wpc_seq wpc_reg wpc_regD testA_bool wpc_cond wpc_block thenA_normal thenA_ret thenA_exit blockA_normal blockA_ret blockA_exit blockA_other endA_normal endA_ret ev_tmp' ev_const ev_func ev_global cv_int cv_bool cv_string cv_pointer cv_slice cv_agg put_some put_none wH_s setE_apply less_eq env_cons env_nil upd_apply del_apply startA_eq cells_ag cells_sl one_sl cells_vs one_vs cells_ep one_ep cells_fn one_fn cells_int one_int cells_bool one_bool cells_string one_string cells_pointer one_pointer cells_slice one_slice cells_map one_map cells_agg resK_one resK_nil resK_two rvK_t rvK_c rvsK_nil rvsK_cons iseq_nil iseq_cons gdA_true gdA_false gdA_undef istep_free istep_guard istepV_free istepV_guard dseq_nil dseq_pu dseq_rd dseq_ef chkAll_nil chkAll_cons andK_true pickK_true pickK_false pickK_tb pickK_fb bin2K_pl eqbK_eq eqbK_ne eqpK_eq eqpK_ne un1K_pl convK_int fillK_some fillA_cons fillA_nil cellsK_some needK_true needK_ok seeK_ep seeK_ptr oneK_agg oneK_one nilcK_ptr nilcK_ep fadrK_ptr fadrK_ep fldK_ag iadAK_ptr iadAK_ep iadSK_sl iadSK_vs extK_0 extK_1 extK_2 extK_3 lenK_pl lenK_sl lenK_vs lensK_pl boxK_some minmax1K_int storeK_ptr callvK_fn callvK_pl newsK_nil newsK_vs newsK_sl appK_nil appK_nil0 appK_sl appK_vs bnd1K_int bndK_none bndK_some slsK_vs slsK_nil slsK_sl0 slsK_sl slstrK_pl boolK_some eqsK_ag iop_eqs iop_sls iop_slstr iop_mov iop_pick iop_bin iop_eqb iop_eqp iop_un iop_conv iop_build iop_load iop_nilc iop_fadr iop_fld iop_iadA iop_iadS iop_ext iop_mkf iop_len iop_lens iop_minmax iop_al iop_box iop_bsl iop_store iop_call iop_callv iop_app BIN_add BIN_sub BIN_mul BIN_and BIN_or BIN_xor BIN_andNot BIN_eql BIN_neq BIN_lss BIN_leq BIN_gtr BIN_geq BIN_quo BIN_rem BIN_shl BIN_shr BIN_sadd BIN_seql BIN_sneq BIN_slss BIN_sleq BIN_sgtr BIN_sgeq UN_neg UN_xor UN_not MM_nil MM_cons partsA argsA ptrA lessL eqL min2I
attribute [local simp] slotN_int slotP_int


theorem ref_same {m : M} (x : Opn) (h : (doM m x).2.e ≠ 0) : (doM m x).1 = m := by
  unfold doM at h ⊢
  split at h
  · rename_i e; rw [if_pos e]
    unfold implM at h ⊢
    split
    · rfl
    · split
      · rfl
      · simp_all
  split at h
  · simp at h
  split at h
  · rename_i e1 e2 e3; rw [if_neg e1, if_neg e2, if_pos e3]
    unfold popupM at h ⊢
    split
    · rfl
    split
    · rfl
    split
    · rfl
    split
    · rfl
    split
    · rfl
    · rename_i p1 p2 p3 p4 p5
      rw [if_neg p1, if_neg p2, if_neg p3, if_neg p4, if_neg p5] at h
      exact absurd rfl h
  split at h
  · simp at h
  split at h
  · simp at h
  split at h
  · rename_i e1 e2 e3 e4 e5 e6; rw [if_neg e1, if_neg e2, if_neg e3, if_neg e4, if_neg e5, if_pos e6]
    unfold dragM at h ⊢
    split
    · rfl
    split
    · rfl
    · simp_all
  · simp at h

theorem grabRefused {n : Nat} {cs : List AV} (x : Opn) (hcs : n ≤ 100 → ∃ l : List Opn, l.length = n ∧ cs = opcs l) (hn : n ≤ maxLen) {K : AV → AH → Prop} (hk : ∀ H', K (vb true) H') :
    ACall Try.prog 7 [.vs n false cs, .ag (opc x)] (fun _ => none) K := by
  refine call_c follows cf7_ok (by simp) ?_
  simp [opc]
  refine newK_of fun bx hbx => ?_
  simp
  by_cases h0 : (100 : Int) < n
  · simp [h0]
    refine c10 fun H' _ => ?_
    simp
    exact hk _
  obtain ⟨l, rfl, rfl⟩ := hcs (by omega)
  simp [h0]
  refine c20 l (by omega) fun i H1 F1 h1 t1 => ?_
  simp
  refine c20 l (by omega) fun i' H2 F2 h2 t2 => ?_
  have hI : Inv (runM m0 l) := Inv.run l Inv.zero
  have hb2 : H2 bx = some (.cells (opc x)) := by
    rw [t2.2 bx (fun h => h) (by rw [t1.2 bx (fun h => h) (by simp)]; simp), t1.2 bx (fun h => h) (by simp)]
    simp [opc]
  have h1' : St H2 F1 i (runM m0 l) := h1.apart t2 fun j _ h => h
  have hdis : ∀ j, F2 j → ¬ F1 j := by
    intro j hj hj1
    rcases t2.1 j hj with h | h
    · exact h
    · exact h1.own j hj1 h
  generalize runM m0 l = m at *
  simp [hb2, opc]
  refine c15 h1' hI.lt x fun H3 F3 a h3 t3 hr => ?_
  simp
  have h4 : St H3 F2 i' m := h2.apart t3 hdis
  have hdis' : ∀ j, F2 j → ¬ F3 j := by
    intro j hj hj3
    rcases t3.1 j hj3 with h | h
    · exact hdis j hj h
    · exact h2.own j hj h
  by_cases he : (doM m x).2.e = 0
  · simp [he]
    refine c10 fun H' _ => ?_
    simp
    exact hk _
  rw [ref_same x he] at h3
  simp [he]
  refine c16 h3 hI.lt ?_
  simp
  refine c16 h4 hI.lt ?_
  simp
  refine c22 h3 hI.lt (-1) 0 fun H5 F5 a5 h5 t5 hr5 => ?_
  have h6 : St H5 F2 i' m := h4.apart t5 hdis'
  have hdis5 : ∀ j, F2 j → ¬ F5 j := by
    intro j hj hj3
    rcases t5.1 j hj3 with h | h
    · exact hdis' j hj h
    · exact h4.own j hj h
  have hlc : (clickM m (-1) 0).2.length < 100 := by
    have := hI.lt
    unfold clickM
    split
    · simp
    split
    · simp [cutM]; omega
    split
    · simp
    · simp [cutM]; omega
  have hIc := hI.click (-1) 0
  have one : ∀ {l : List (Int × Int)} {a : AV} {H2 : AH} {G : Nat → Prop}, LRow H2 l a G → a.cells = some [a] ∧ a.one = true := by
    intro l a H2 G hl
    rcases hl with ⟨_, rfl⟩ | ⟨r, x, rfl, _, _⟩ <;> exact ⟨rfl, rfl⟩
  obtain ⟨q1, _⟩ := one hr5
  simp [q1]
  refine c22 h6 hI.lt (-1) 0 fun H6 F6 a6 h7 t6 hr6 => ?_
  obtain ⟨q2, _⟩ := one hr6
  simp [q2]
  have hr5' : LRow H6 (clickM m (-1) 0).2 a5 (fun _ => True) := by
    rcases hr5 with h | ⟨r, z, g1, g2, g3, g4⟩
    · exact .inl h
    · refine .inr ⟨r, z, g1, ?_, trivial⟩
      have : ¬ F2 r := fun h => h4.own r h g4
      rw [t6.2 r this (by rw [g2]; simp), g2]
  have h5' : St H6 F5 i (clickM m (-1) 0).1 := h5.apart t6 fun j h h' => hdis5 j h' h
  refine c14 ⟨0, 0, false, (clickM m (-1) 0).2⟩ ⟨0, 0, false, (clickM m (-1) 0).2⟩ hr5' hr6 hlc fun H7 t7 => ?_
  have h8 : St H7 F5 i (clickM m (-1) 0).1 := h5'.keep fun j hj => t7 j (h5'.own j hj)
  have h9 : St H7 F6 i' (clickM m (-1) 0).1 := h7.keep fun j hj => t7 j (h7.own j hj)
  have hd6 : ∀ j, F6 j → ¬ F5 j := by
    intro j hj hj5
    rcases t6.1 j hj with h | h
    · exact hdis5 j h hj5
    · exact h5.own j hj5 h
  simp
  refine c24 h8 fun H8 F8 h10 t8 => ?_
  have h11 : St H8 F6 i' (clickM m (-1) 0).1 := h9.apart t8 hd6
  simp
  refine c24 h11 fun H9 F9 h12 t9 => ?_
  simp
  refine c10 fun H' _ => ?_
  simp
  exact hk _
end Go.Proofs.Ytmchflhambfhkaa
