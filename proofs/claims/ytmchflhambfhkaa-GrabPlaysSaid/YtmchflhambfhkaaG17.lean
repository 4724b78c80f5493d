/-
  A call of the specification. Conditions: the stack is one that calls have made.
-/
import Derived.Test.YtmchflhambfhkaaG16
namespace Go.Proofs.Ytmchflhambfhkaa
open Go Go.Ab Go.RowKit
set_option linter.unusedSimpArgs false
set_option linter.unusedVariables false
set_option linter.unnecessarySimpa false

attribute [local simp] condK_true condK_false condK_not wpc_skip wpc_ret wpc_exit wpc_seq wpc_reg wpc_regD testA_bool wpc_cond wpc_block thenA_normal thenA_ret thenA_exit blockA_normal blockA_ret blockA_exit blockA_other endA_normal endA_ret ev_tmp' ev_const ev_func ev_global cv_int cv_bool cv_string cv_pointer cv_slice cv_agg put_some put_none wH_s setE_apply less_eq env_cons env_nil upd_apply del_apply startA_eq cells_ag cells_sl one_sl cells_vs one_vs cells_ep one_ep cells_fn one_fn cells_int one_int cells_bool one_bool cells_string one_string cells_pointer one_pointer cells_slice one_slice cells_map one_map cells_agg resK_one resK_nil resK_two rvK_t rvK_c rvsK_nil rvsK_cons iseq_nil iseq_cons gdA_true gdA_false gdA_undef istep_free istep_guard istepV_free istepV_guard dseq_nil dseq_pu dseq_rd dseq_ef chkAll_nil chkAll_cons andK_true pickK_true pickK_false pickK_tb pickK_fb bin2K_pl eqbK_eq eqbK_ne eqpK_eq eqpK_ne un1K_pl convK_int fillK_some fillA_cons fillA_nil cellsK_some needK_true needK_ok seeK_ep seeK_ptr oneK_agg oneK_one nilcK_ptr nilcK_ep fadrK_ptr fadrK_ep fldK_ag iadAK_ptr iadAK_ep iadSK_sl iadSK_vs extK_0 extK_1 extK_2 extK_3 lenK_pl lenK_sl lenK_vs lensK_pl boxK_some minmax1K_int storeK_ptr callvK_fn callvK_pl newsK_nil newsK_vs newsK_sl appK_nil appK_nil0 appK_sl appK_vs bnd1K_int bndK_none bndK_some slsK_vs slsK_nil slsK_sl0 slsK_sl slstrK_pl boolK_some eqsK_ag iop_eqs iop_sls iop_slstr iop_mov iop_pick iop_bin iop_eqb iop_eqp iop_un iop_conv iop_build iop_load iop_nilc iop_fadr iop_fld iop_iadA iop_iadS iop_ext iop_mkf iop_len iop_lens iop_minmax iop_al iop_box iop_bsl iop_store iop_call iop_callv iop_app BIN_add BIN_sub BIN_mul BIN_and BIN_or BIN_xor BIN_andNot BIN_eql BIN_neq BIN_lss BIN_leq BIN_gtr BIN_geq BIN_quo BIN_rem BIN_shl BIN_shr BIN_sadd BIN_seql BIN_sneq BIN_slss BIN_sleq BIN_sgtr BIN_sgeq UN_neg UN_xor UN_not MM_nil MM_cons partsA argsA ptrA lessL eqL min2I
attribute [local simp] slotN_int slotP_int


def DP (H : AH) (G : Nat → Prop) (r : M × Res) (K : AV → AH → Prop) : Prop :=
  ∀ H' a l, Ext H H' → Row H' r.1.ch a (fun k => G k ∨ H k = none) → LRow H' r.2.l l (fun k => H k = none) → K (.tp [.ag (rcs r.1 a), .ag [vi r.2.e, vi r.2.n, vb r.2.ok, l]]) H'

theorem c13 {H : AH} {m : M} {a : AV} {G : Nat → Prop} (hI : Inv m) (hr : Row H m.ch a G) (x : Opn) {K : AV → AH → Prop} (hk : DP H G (doM m x) K) :
    ACall Try.prog 13 [.ag (rcs m a), .ag (opc x)] H K := by
  refine call_c follows cf13_ok (by simp) ?_
  obtain ⟨o1, o2⟩ := hr.one
  simp [rcs, opc]
  refine newK_of fun p hp => ?_
  simp
  refine newK_of fun bx hbx => ?_
  obtain ⟨n1, hbx⟩ := upd_none.1 hbx
  simp
  refine newK_of fun q hq => ?_
  obtain ⟨n2, hq⟩ := upd_none.1 hq
  obtain ⟨n3, hq⟩ := upd_none.1 hq
  simp
  refine newK_of fun o ho => ?_
  obtain ⟨n4, ho⟩ := upd_none.1 ho
  obtain ⟨n5, ho⟩ := upd_none.1 ho
  obtain ⟨n6, ho⟩ := upd_none.1 ho
  have hE : ∀ o1 o2 o3 o4, Ext H (upd (upd (upd (upd H p o1) bx o2) q o3) o o4) := fun _ _ _ _ => ((((Ext.refl H).upd hp).upd hbx).upd hq).upd ho
  simp [n1, n2, n3, n4, n5, n6, Ne.symm n1, Ne.symm n2, Ne.symm n3, Ne.symm n4, Ne.symm n5, Ne.symm n6]
  generalize hH1 : upd (upd (upd (upd H p _) bx _) q _) o _ = H1
  have hE1 : Ext H H1 := hH1 ▸ hE _ _ _ _
  have hq1 : ∃ cs, H1 q = some (.cells cs) ∧ cs.length = 8 := by rw [← hH1]; exact ⟨_, by simp [Ne.symm n4]; rfl, rfl⟩
  have ho1 : ∃ cs, H1 o = some (.cells cs) ∧ cs.length = 4 := by rw [← hH1]; exact ⟨_, by simp; rfl, rfl⟩
  have hp1 : H1 p = some (.cells (rcs m a)) := by rw [← hH1]; simp [rcs, Ne.symm n1, Ne.symm n3, Ne.symm n6]
  have hb1 : H1 bx = some (.cells [vi x.k, vi x.c, vi x.s, vi x.p]) := by rw [← hH1]; simp [Ne.symm n2, Ne.symm n5]
  clear hH1 hE
  obtain ⟨qs, hq1, hqs⟩ := hq1
  obtain ⟨os, ho1, hos⟩ := ho1
  unfold rcs at hp1
  have hr1 := hr.ext0 hE1
  have fin : ∀ (H2 : AH) (m2 : M) (r : Res) (a2 l : AV) (b : Nat) (o1 o2 o3 o4 : AO), doM m x = (m2, r) → Ext H1 H2 → Row H2 m2.ch a2 (fun k => (G k ∧ H k ≠ none) ∨ H1 k = none) → LRow H2 r.l l (fun k => H1 k = none) → H2 b = none →
      K (.tp [.ag (rcs m2 a2), .ag [vi r.e, vi r.n, vb r.ok, l]]) (upd (upd (upd (upd H2 b o1) b o2) q o3) o o4) := by
    intro H2 m2 r a2 l b o1 o2 o3 o4 hd g1 g2 g3 g4
    rw [hd] at hk
    have hE2 := hE1.trans g1
    have nn : ∀ z, H1 z = none → H z = none := fun z hz => by
      cases e : H z with
      | none => rfl
      | some o => rw [hE1 z (by rw [e]; simp), e] at hz; cases hz
    have hbn : H b = none := by
      cases e : H b with
      | none => rfl
      | some o => rw [hE2 b (by rw [e]; simp), e] at g4; cases g4
    refine hk _ a2 l ((((hE2.upd hbn).upd hbn).upd hq).upd ho) ?_ ?_
    · rcases g2 with h | ⟨k, z, rest, w1, w2, w3⟩
      · exact .inl h
      · have y1 : k ≠ b := by rintro rfl; rw [g4] at w2; cases w2
        have y2 : k ≠ q := by
          rintro rfl
          rcases w3 with w3 | w3
          · exact w3.2 hq
          · rw [hq1] at w3; cases w3
        have y3 : k ≠ o := by
          rintro rfl
          rcases w3 with w3 | w3
          · exact w3.2 ho
          · rw [ho1] at w3; cases w3
        refine .inr ⟨k, z, rest, w1, by simp [y1, y2, y3, w2], ?_⟩
        rcases w3 with w3 | w3
        · exact .inl w3.1
        · exact .inr (nn k w3)
    · rcases g3 with h | ⟨k, z, w1, w2, w3⟩
      · exact .inl h
      · have y1 : k ≠ b := by rintro rfl; rw [g4] at w2; cases w2
        have y2 : k ≠ q := by rintro rfl; rw [hq1] at w3; cases w3
        have y3 : k ≠ o := by rintro rfl; rw [ho1] at w3; cases w3
        exact .inr ⟨k, z, w1, by simp [y1, y2, y3, w2], nn k w3⟩
  have two' : ∀ (H2 : AH) (b : Nat), Ext H1 H2 → H2 b = none → H2 q = some (.cells qs) ∧ H2 o = some (.cells os) ∧ q ≠ b ∧ o ≠ b := by
    intro H2 b g1 g2
    have w1 : H2 q = some (.cells qs) := by rw [g1 q (by rw [hq1]; simp), hq1]
    have w2 : H2 o = some (.cells os) := by rw [g1 o (by rw [ho1]; simp), ho1]
    exact ⟨w1, w2, (by rintro rfl; rw [w1] at g2; cases g2), (by rintro rfl; rw [w2] at g2; cases g2)⟩
  by_cases e1 : x.k = 1
  · have hd : doM m x = ((implM m x.c x.s).1, ⟨(implM m x.c x.s).2, 0, false, []⟩) := by simp [doM, e1]
    simp [e1, hp1, hb1]
    refine c28 hI hr1 _ _ fun H2 a2 hE2 hr2 => ?_
    obtain ⟨o3, o4⟩ := hr2.one
    simp [rcs]
    refine newK_of fun b hb => ?_
    obtain ⟨y1, y2, y3, y4⟩ := two' H2 b hE2 hb
    simp (disch := omega) [o4, y1, y2, y3, y4, Ne.symm y3, Ne.symm y4, n4, Ne.symm n4, hqs, hos]
    exact fin H2 _ ⟨(implM m x.c x.s).2, 0, false, []⟩ a2 (.pl (.slice none 0 0)) b _ _ _ _ hd hE2 hr2 (.inl ⟨rfl, rfl⟩) hb
  by_cases e2 : x.k = 2
  · have hd : doM m x = ((releaseM m).1, ⟨0, (releaseM m).2.1, (releaseM m).2.2, []⟩) := by simp [doM, e1, e2]
    simp [e1, e2, hp1, hb1]
    refine c29 hI hr1 fun H2 a2 hE2 hr2 => ?_
    obtain ⟨o3, o4⟩ := hr2.one
    simp [rcs]
    refine newK_of fun b hb => ?_
    obtain ⟨y1, y2, y3, y4⟩ := two' H2 b hE2 hb
    simp (disch := omega) [o4, y1, y2, y3, y4, Ne.symm y3, Ne.symm y4, n4, Ne.symm n4, hqs, hos]
    exact fin H2 _ ⟨0, (releaseM m).2.1, (releaseM m).2.2, []⟩ a2 (.pl (.slice none 0 0)) b _ _ _ _ hd hE2 hr2 (.inl ⟨rfl, rfl⟩) hb
  by_cases e3 : x.k = 3
  · have hd : doM m x = ((popupM m x.c x.s x.p).1, ⟨(popupM m x.c x.s x.p).2, 0, false, []⟩) := by simp [doM, e1, e2, e3]
    simp [e1, e2, e3, hp1, hb1]
    refine c30 hI hr1 _ _ _ fun H2 a2 hE2 hr2 => ?_
    obtain ⟨o3, o4⟩ := hr2.one
    simp [rcs]
    refine newK_of fun b hb => ?_
    obtain ⟨y1, y2, y3, y4⟩ := two' H2 b hE2 hb
    simp (disch := omega) [o4, y1, y2, y3, y4, Ne.symm y3, Ne.symm y4, n4, Ne.symm n4, hqs, hos]
    exact fin H2 _ ⟨(popupM m x.c x.s x.p).2, 0, false, []⟩ a2 (.pl (.slice none 0 0)) b _ _ _ _ hd hE2 hr2 (.inl ⟨rfl, rfl⟩) hb
  by_cases e4 : x.k = 4
  · have hd : doM m x = ((dismissM m x.s).1, ⟨0, 0, false, (dismissM m x.s).2⟩) := by simp [doM, e1, e2, e3, e4]
    simp [e1, e2, e3, e4, hp1, hb1]
    refine c31 hI hr1 _ fun H2 a2 l2 hE2 hr2 hl2 => ?_
    obtain ⟨o3, o4⟩ := hr2.one
    obtain ⟨o5, o6⟩ := hl2.one
    simp [rcs]
    refine newK_of fun b hb => ?_
    obtain ⟨y1, y2, y3, y4⟩ := two' H2 b hE2 hb
    simp (disch := omega) [o4, o5, o6, y1, y2, y3, y4, Ne.symm y3, Ne.symm y4, n4, Ne.symm n4, hqs, hos]
    exact fin H2 _ ⟨0, 0, false, (dismissM m x.s).2⟩ a2 l2 b _ _ _ _ hd hE2 hr2 hl2 hb
  by_cases e5 : x.k = 5
  · have hd : doM m x = ((clickM m x.c x.s).1, ⟨0, 0, false, (clickM m x.c x.s).2⟩) := by simp [doM, e1, e2, e3, e4, e5]
    simp [e1, e2, e3, e4, e5, hp1, hb1]
    refine c32 hI hr1 _ _ fun H2 a2 l2 hE2 hr2 hl2 => ?_
    obtain ⟨o3, o4⟩ := hr2.one
    obtain ⟨o5, o6⟩ := hl2.one
    simp [rcs]
    refine newK_of fun b hb => ?_
    obtain ⟨y1, y2, y3, y4⟩ := two' H2 b hE2 hb
    simp (disch := omega) [o4, o5, o6, y1, y2, y3, y4, Ne.symm y3, Ne.symm y4, n4, Ne.symm n4, hqs, hos]
    exact fin H2 _ ⟨0, 0, false, (clickM m x.c x.s).2⟩ a2 l2 b _ _ _ _ hd hE2 hr2 hl2 hb
  by_cases e6 : x.k = 6
  · have hd : doM m x = ((dragM m x.c x.s).1, ⟨(dragM m x.c x.s).2, 0, false, []⟩) := by simp [doM, e1, e2, e3, e4, e5, e6]
    simp [e1, e2, e3, e4, e5, e6, hp1, hb1]
    refine c33 hI hr1 _ _ fun H2 a2 hE2 hr2 => ?_
    obtain ⟨o3, o4⟩ := hr2.one
    simp [rcs]
    refine newK_of fun b hb => ?_
    obtain ⟨y1, y2, y3, y4⟩ := two' H2 b hE2 hb
    simp (disch := omega) [o4, y1, y2, y3, y4, Ne.symm y3, Ne.symm y4, n4, Ne.symm n4, hqs, hos]
    exact fin H2 _ ⟨(dragM m x.c x.s).2, 0, false, []⟩ a2 (.pl (.slice none 0 0)) b _ _ _ _ hd hE2 hr2 (.inl ⟨rfl, rfl⟩) hb
  have hd : doM m x = ((endM m).1, ⟨0, 0, (endM m).2, []⟩) := by simp [doM, e1, e2, e3, e4, e5, e6]
  simp [e1, e2, e3, e4, e5, e6, hp1, hb1]
  refine c34 hI hr1 fun H2 a2 hE2 hr2 => ?_
  obtain ⟨o3, o4⟩ := hr2.one
  simp [rcs]
  refine newK_of fun b hb => ?_
  obtain ⟨y1, y2, y3, y4⟩ := two' H2 b hE2 hb
  simp (disch := omega) [o4, y1, y2, y3, y4, Ne.symm y3, Ne.symm y4, n4, Ne.symm n4, hqs, hos]
  exact fin H2 _ ⟨0, 0, (endM m).2, []⟩ a2 (.pl (.slice none 0 0)) b _ _ _ _ hd hE2 hr2 (.inl ⟨rfl, rfl⟩) hb
end Go.Proofs.Ytmchflhambfhkaa
