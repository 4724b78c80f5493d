/-
  The chapter's example. No conditions.
-/
import Derived.Test.YtnlckmkjhpaloaaQ4
namespace Go.Proofs.Ytnlckmkjhpaloaa
open Go Go.Ab Go.RowKit
set_option linter.unusedSimpArgs false
set_option linter.unusedVariables false
set_option linter.unnecessarySimpa false

attribute [local simp] condK_true condK_false condK_not wpc_skip wpc_ret wpc_exit wpc_seq wpc_reg wpc_regD testA_bool wpc_cond wpc_block thenA_normal thenA_ret thenA_exit blockA_normal blockA_ret blockA_exit blockA_other endA_normal endA_ret ev_tmp' ev_const ev_func ev_global cv_int cv_bool cv_string cv_pointer cv_slice cv_agg put_some put_none wH_s setE_apply setE_env less_eq env_cons env_nil upd_upd upd_apply del_apply startA_eq cells_ag cells_sl one_sl cells_vs one_vs cells_ep one_ep cells_fn one_fn cells_int one_int cells_bool one_bool cells_string one_string cells_pointer one_pointer cells_slice one_slice cells_map one_map cells_agg resK_one resK_nil resK_two rvK_t rvK_c rvsK_nil rvsK_cons iseq_nil iseq_cons gdA_true gdA_false gdA_undef istep_free istep_guard istepV_free istepV_guard dseq_nil dseq_pu dseq_rd dseq_ef chkAll_nil chkAll_cons andK_true pickK_true pickK_false pickK_tb pickK_fb bin2K_pl eqbK_eq eqbK_ne eqpK_eq eqpK_ne un1K_pl convK_int fillK_some fillA_cons fillA_nil cellsK_some needK_true needK_ok seeK_ep seeK_ptr oneK_agg oneK_one nilcK_ptr nilcK_ep fadrK_ptr fadrK_ep fldK_ag iadAK_ptr iadAK_ep iadSK_sl iadSK_vs extK_0 extK_1 extK_2 extK_3 lenK_pl lenK_sl lenK_vs lensK_pl boxK_some minmax1K_int storeK_ptr callvK_fn callvK_pl newsK_nil newsK_vs newsK_sl appK_nil appK_nil0 appK_sl appK_vs bnd1K_int bndK_none bndK_some slsK_vs slsK_nil slsK_sl0 slsK_sl slstrK_pl boolK_some eqsK_ag iop_eqs iop_sls iop_slstr seesK_some seesK_ro mapsK_some MAP_some findK_some findK_none plK_pl nmapK_none nmapK_some iop_mlook iop_mlen iop_mmk iop_mupd iop_mdel iop_mrng itK_none itK_some ptr0K_ptr iop_mnxt iop_ment it1K_some entK_some iop_mov iop_pick iop_bin iop_eqb iop_eqp iop_un iop_conv iop_build iop_load iop_nilc iop_fadr iop_fld iop_iadA iop_iadS iop_ext iop_mkf iop_len iop_lens iop_minmax iop_al iop_box iop_bsl iop_store iop_call iop_callv iop_app BIN_add BIN_sub BIN_mul BIN_and BIN_or BIN_xor BIN_andNot BIN_eql BIN_neq BIN_lss BIN_leq BIN_gtr BIN_geq BIN_quo BIN_rem BIN_shl BIN_shr BIN_sadd BIN_seql BIN_sneq BIN_slss BIN_sleq BIN_sgtr BIN_sgeq UN_neg UN_xor UN_not MM_nil MM_cons partsA argsA ptrA lessL eqL min2I slotN_int slotP_int slotI_int
attribute [local simp] ent_len ent_tt ent_dd ent_one ent_ag ent_t1 ent_d1 ent_eq

def G0 : Int → Ent := fun _ => e0
theorem asgG_ok {g : Int → Ent} {s r : Int} (h : asgE g s r = 0) : asgG g s r = gset g s ⟨r, true⟩ := if_pos h
theorem asgG_no {g : Int → Ent} {s r : Int} (h : asgE g s r ≠ 0) : asgG g s r = g := if_neg h
theorem dstG_ok {g : Int → Ent} {s : Int} (h : dstE g s = 0) : dstG g s = gset g s e0 := if_pos h
theorem dstG_no {g : Int → Ent} {s : Int} (h : dstE g s ≠ 0) : dstG g s = g := if_neg h
theorem relG_ok {g : Int → Ent} {s : Int} (h : (g s).a = true) : relG g s = gset g s ⟨(g s).r, false⟩ := if_pos h
theorem relG_no {g : Int → Ent} {s : Int} (h : (g s).a = false) : relG g s = g := if_neg (by rw [h]; decide)
theorem upm_upm {H : AH} {b : Nat} {m m' : Es} {st st' : List Nat} {cl cl' : Nat} : upm (upm H b m st cl) b m' st' cl' = upm H b m' st' cl' := upd_upd
attribute [local simp] upm_upm
theorem c9 : PC Try.prog 9 [] (vb true) := by
  refine .tell fun H => ?_
  refine call_c follows cf9_ok (by simp) ?_
  simp
  refine c10 fun p b hp hb hg => ?_
  have hS : Sub H (upd (upd H b (.map [] [] 0)) p (.cells [vb true, .pl (.map (some b))])) := ((Sub.refl H).upd hb).upd hp
  generalize upd (upd H b (.map [] [] 0)) p (.cells [vb true, .pl (.map (some b))]) = H1 at hg hS ⊢
  simp
  refine c21 _ _ hg fun m1 s1 c1 l1 g1 => ?_
  rw [show asgG (fun _ => e0) 3 2 = gset G0 3 ⟨2, true⟩ from asgG_ok (by decide)] at g1
  rw [show asgE (fun _ => e0) 3 2 = 0 by decide]
  simp
  refine c21 _ _ g1 fun m2 s2 c2 l2 g2 => ?_
  rw [show asgE (gset G0 3 ⟨2, true⟩) 3 4 = 12 by decide]
  rw [show asgG (gset G0 3 ⟨2, true⟩) 3 4 = gset G0 3 ⟨2, true⟩ from asgG_no (by decide), upm_upm] at g2
  simp
  refine c23 _ g2 fun m3 s3 c3 l3 g3 => ?_
  rw [show dstE (gset G0 3 ⟨2, true⟩) 3 = 14 by decide]
  rw [show dstG (gset G0 3 ⟨2, true⟩) 3 = gset G0 3 ⟨2, true⟩ from dstG_no (by decide), upm_upm] at g3
  simp
  refine c19 _ g3 (by simp at l1; omega) fun out Ho l hrow hof => ?_
  have hl : l = [3] := hof.eq ⟨by simp, fun s => by
    have : isR 2 = true := by decide
    simp only [List.mem_singleton, this, true_and, gset]
    by_cases e : s = 3 <;> simp [e, G0, e0]⟩
  subst hl
  have hbb : (upm H1 b m3 s3 c3) b = some (.map (mI ek ev m3) s3 c3) := by simp [upm, upd_apply]
  rcases hrow with ⟨f1, _, _, _⟩ | ⟨q, rfl, hq, rfl⟩
  · cases f1
  have hqb : q ≠ b := by rintro rfl; rw [hbb] at hq; cases hq
  have hqH : H q = none := by
    have : H1 q = none := by simpa [upm, upd_apply, hqb] using hq
    exact hS.none_of this
  have g4 := g3.sub ((Sub.refl _).upd hq (o := .cells ([3].map vi)))
  simp
  refine c22 _ g4 fun m5 s5 c5 l5 g5 => ?_
  rw [show relE (gset G0 3 ⟨2, true⟩) 3 = 0 by decide]
  rw [show relG (gset G0 3 ⟨2, true⟩) 3 = gset (gset G0 3 ⟨2, true⟩) 3 ⟨2, false⟩ from relG_ok (by decide)] at g5
  simp
  refine c21 _ _ g5 fun m6 s6 c6 l6 g6 => ?_
  rw [show asgE (gset (gset G0 3 ⟨2, true⟩) 3 ⟨2, false⟩) 3 4 = 12 by decide]
  rw [show asgG (gset (gset G0 3 ⟨2, true⟩) 3 ⟨2, false⟩) 3 4 = gset (gset G0 3 ⟨2, true⟩) 3 ⟨2, false⟩ from asgG_no (by decide), upm_upm] at g6
  simp
  refine c14 _ g6 ?_
  simp
  refine c23 _ g6 fun m7 s7 c7 l7 g7 => ?_
  rw [show dstE (gset (gset G0 3 ⟨2, true⟩) 3 ⟨2, false⟩) 3 = 0 by decide]
  rw [show dstG (gset (gset G0 3 ⟨2, true⟩) 3 ⟨2, false⟩) 3 = gset (gset (gset G0 3 ⟨2, true⟩) 3 ⟨2, false⟩) 3 e0 from dstG_ok (by decide), upm_upm] at g7
  simp
  refine c21 _ _ g7 fun m8 s8 c8 l8 g8 => ?_
  rw [show asgE (gset (gset (gset G0 3 ⟨2, true⟩) 3 ⟨2, false⟩) 3 e0) 3 4 = 0 by decide]
  rw [show asgG (gset (gset (gset G0 3 ⟨2, true⟩) 3 ⟨2, false⟩) 3 e0) 3 4 = gset (gset (gset (gset G0 3 ⟨2, true⟩) 3 ⟨2, false⟩) 3 e0) 3 ⟨4, true⟩ from asgG_ok (by decide), upm_upm] at g8
  have k1 : (upm (upd (upm H1 b m3 s3 c3) q (.cells [vi 3])) b m8 s8 c8) q = some (.cells [vi 3]) := by simp [upm, upd_apply, hqb]
  have k2 : (gset (gset G0 3 ⟨2, true⟩) 3 ⟨2, false⟩ 3).r = 2 := by decide
  have k3 : (gset (gset (gset (gset G0 3 ⟨2, true⟩) 3 ⟨2, false⟩) 3 e0) 3 ⟨4, true⟩ 3).a = true := by decide
  simp [*]
  refine c16 _ g8 ?_
  simp [*]
  have z1 : Sub H (upm H1 b m3 s3 c3) := hS.upd hb
  have z2 := z1.upd hqH (o := .cells [vi 3])
  exact z2.upd hb
end Go.Proofs.Ytnlckmkjhpaloaa
