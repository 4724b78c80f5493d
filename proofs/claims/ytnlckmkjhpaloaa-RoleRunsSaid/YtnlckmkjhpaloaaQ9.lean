/-
  RoleSeparate: for every run the law returns true, and its arguments read as they did. No conditions: every input that the row admits.
-/
import Derived.Test.YtnlckmkjhpaloaaQ7
namespace Go.Proofs.Ytnlckmkjhpaloaa
open Go Go.Ab Go.RowKit Go.ChangeShapes Go.WideShapes Go.ChangeAt
set_option linter.unusedSimpArgs false
set_option linter.unusedVariables false
set_option linter.unnecessarySimpa false

attribute [local simp] condK_true condK_false condK_not wpc_skip wpc_ret wpc_exit wpc_seq wpc_reg wpc_regD testA_bool wpc_cond wpc_block thenA_normal thenA_ret thenA_exit blockA_normal blockA_ret blockA_exit blockA_other endA_normal endA_ret ev_tmp' ev_const ev_func ev_global cv_int cv_bool cv_string cv_pointer cv_slice cv_agg put_some put_none wH_s setE_apply setE_env less_eq env_cons env_nil upd_upd upd_apply del_apply startA_eq cells_ag cells_sl one_sl cells_vs one_vs cells_ep one_ep cells_fn one_fn cells_int one_int cells_bool one_bool cells_string one_string cells_pointer one_pointer cells_slice one_slice cells_map one_map cells_agg resK_one resK_nil resK_two rvK_t rvK_c rvsK_nil rvsK_cons iseq_nil iseq_cons gdA_true gdA_false gdA_undef istep_free istep_guard istepV_free istepV_guard dseq_nil dseq_pu dseq_rd dseq_ef chkAll_nil chkAll_cons andK_true pickK_true pickK_false pickK_tb pickK_fb bin2K_pl eqbK_eq eqbK_ne eqpK_eq eqpK_ne un1K_pl convK_int fillK_some fillA_cons fillA_nil cellsK_some needK_true needK_ok seeK_ep seeK_ptr oneK_agg oneK_one nilcK_ptr nilcK_ep fadrK_ptr fadrK_ep fldK_ag iadAK_ptr iadAK_ep iadSK_sl iadSK_vs extK_0 extK_1 extK_2 extK_3 lenK_pl lenK_sl lenK_vs lensK_pl boxK_some minmax1K_int storeK_ptr callvK_fn callvK_pl newsK_nil newsK_vs newsK_sl appK_nil appK_nil0 appK_sl appK_vs bnd1K_int bndK_none bndK_some slsK_vs slsK_nil slsK_sl0 slsK_sl slstrK_pl boolK_some eqsK_ag iop_eqs iop_sls iop_slstr seesK_some seesK_ro mapsK_some MAP_some findK_some findK_none plK_pl nmapK_none nmapK_some iop_mlook iop_mlen iop_mmk iop_mupd iop_mdel iop_mrng itK_none itK_some ptr0K_ptr iop_mnxt iop_ment it1K_some entK_some iop_mov iop_pick iop_bin iop_eqb iop_eqp iop_un iop_conv iop_build iop_load iop_nilc iop_fadr iop_fld iop_iadA iop_iadS iop_ext iop_mkf iop_len iop_lens iop_minmax iop_al iop_box iop_bsl iop_store iop_call iop_callv iop_app BIN_add BIN_sub BIN_mul BIN_and BIN_or BIN_xor BIN_andNot BIN_eql BIN_neq BIN_lss BIN_leq BIN_gtr BIN_geq BIN_quo BIN_rem BIN_shl BIN_shr BIN_sadd BIN_seql BIN_sneq BIN_slss BIN_sleq BIN_sgtr BIN_sgeq UN_neg UN_xor UN_not MM_nil MM_cons partsA argsA ptrA lessL eqL min2I slotN_int slotP_int slotI_int
attribute [local simp] ent_len ent_tt ent_dd ent_one ent_ag ent_t1 ent_d1 opc_len opc_tt opc_dd opc_one opc_ag opc_t1 opc_t2 opc_d1 opc_d2 ent_eq upm_upm

theorem op_other {g : Int → Ent} {x : Op} {s : Int} (h : x.s ≠ s) : opG g x s = g s := by
  have h' : ¬ s = x.s := fun e => h e.symm
  unfold opG asgG relG dstG
  repeat' split
  all_goals simp [gset, h']
theorem op_same {g g' : Int → Ent} {x : Op} (h : g x.s = g' x.s) : opE g x = opE g' x ∧ opG g x x.s = opG g' x x.s := by
  have e1 : asgE g x.s x.r = asgE g' x.s x.r := by unfold asgE; rw [h]
  have e2 : relE g x.s = relE g' x.s := by unfold relE; rw [h]
  have e3 : dstE g x.s = dstE g' x.s := by unfold dstE; rw [h]
  refine ⟨by unfold opE; rw [e1, e2, e3], ?_⟩
  unfold opG asgG relG dstG
  rw [e1, e3, h]
  repeat' split
  all_goals simp [gset, h]
/-- Two Roles side by side. -/
structure RG2 (H : AH) (p b p' b' : Nat) (g g' : Int → Ent) (m m' : Es) (st st' : List Nat) (cl cl' : Nat) : Prop where
  ra : RG H p b g m st cl
  rb : RG H p' b' g' m' st' cl'
  n1 : p ≠ b'
  n2 : b ≠ b'
  n3 : p' ≠ b
theorem RG.frame {H : AH} {p b b' : Nat} {g : Int → Ent} {m m' : Es} {st st' : List Nat} {cl cl' : Nat} (h : RG H p b g m st cl) (n1 : p ≠ b') (n2 : b ≠ b') : RG (upm H b' m' st' cl') p b g m st cl :=
  ⟨⟨by simp only [upm, upd_apply, if_neg n1]; exact h.rs.ob, by simp only [upm, upd_apply, if_neg n2]; exact h.rs.mp, h.rs.ne, h.rs.nd, h.rs.stp⟩, h.g⟩
theorem c7 (l : List Op) (su : Int) : PC Try.prog 7 [.vs l.length false (flat opc l), vi su] (vb true) := by
  refine .tell fun H => ?_
  refine call_c follows cf7_ok (by simp) ?_
  by_cases d1 : (60 : Int) < l.length
  · repeat' (first | simp [*] | with_reducible (refine (c9 ..).ac ?_))
    exact Sub.refl _
  simp [d1]
  refine c10 fun p b hp hb hg => ?_
  have hS : Sub H (upd (upd H b (.map [] [] 0)) p (.cells [vb true, .pl (.map (some b))])) := ((Sub.refl H).upd hb).upd hp
  generalize upd (upd H b (.map [] [] 0)) p (.cells [vb true, .pl (.map (some b))]) = H1 at hg hS ⊢
  simp
  refine c10 fun p' b' hp' hb' hg' => ?_
  have hS' : Sub H1 (upd (upd H1 b' (.map [] [] 0)) p' (.cells [vb true, .pl (.map (some b'))])) := ((Sub.refl H1).upd hb').upd hp'
  have h0 : RG2 (upd (upd H1 b' (.map [] [] 0)) p' (.cells [vb true, .pl (.map (some b'))])) p b p' b' (fun _ => e0) (fun _ => e0) [] [] [] [] 0 0 :=
    ⟨hg.sub hS', hg', ne_of_free hg.rs.ob hb', ne_of_free hg.rs.mp hb', Ne.symm (ne_of_free hg.rs.mp hp')⟩
  have hb2 : H b' = none := hS.none_of hb'
  have hSS := hS.trans hS'
  clear hg hg' hS hS' hp hp' hb'
  generalize upd (upd H1 b' (.map [] [] 0)) p' (.cells [vb true, .pl (.map (some b'))]) = H2 at h0 hSS ⊢
  simp
  have hn3 := h0.n2
  refine wpc_loop (fun s => ∃ (i : Nat) (m m' : Es) (st st' : List Nat) (cl cl' : Nat) (g g' : Int → Ent), s.n = 61 ∧ s.H = upm (upm H2 b m st cl) b' m' st' cl' ∧ s.t 0 = .vs l.length false (flat opc l) ∧ s.t 1 = vi su ∧ s.t 5 = pA p ∧ s.t 6 = pA p' ∧ s.t 7 = vi i ∧
      RG2 (upm (upm H2 b m st cl) b' m' st' cl') p b p' b' g g' m m' st st' cl cl' ∧ i ≤ l.length ∧ g su = g' su) (fun s => l.length - slotN (s.t 7)) ?_ ?_
  · have e : upm (upm H2 b [] [] 0) b' [] [] 0 = H2 := by rw [h0.ra.self, h0.rb.self]
    refine FgK.same ⟨0, [], [], [], [], 0, 0, _, _, by simp, e.symm, by simp, by simp, by simp, by simp, by simp, by rw [e]; exact h0, by omega, rfl⟩
  rintro s ⟨i, m, m', st, st', cl, cl', g, g', hn, hH, e0', e1, e5, e6, e7, hG, hi, hr⟩
  have w := IntWalk.i64_in ((i : Int) + 1) (by omega)
  have comm : ∀ (m m' m1 : Es) (st st' s1 : List Nat) (cl cl' c1 : Nat), upm (upm (upm H2 b m st cl) b' m' st' cl') b m1 s1 c1 = upm (upm H2 b m1 s1 c1) b' m' st' cl' := by
    intro m m' m1 st st' s1 cl cl' c1
    funext j
    simp only [upm, upd_apply]
    by_cases e : j = b
    · subst e; simp [hn3]
    · simp [e]
  by_cases hlt : i < l.length
  · obtain ⟨rest, hd⟩ := op_at hlt
    generalize l[i] = x at hd
    obtain ⟨xk, xs, xr⟩ := x
    simp only at hd
    simp (disch := omega) [*]
    refine c13 _ hG.ra fun m1 s1 c1 l1 g1 => ?_
    have g1' := hG.rb.frame (m' := m1) (st' := s1) (cl' := c1) hG.n3 (Ne.symm hG.n2)
    rw [comm] at g1 g1'
    rw [comm]
    by_cases b1 : xs = su
    · subst b1
      have q := op_same (x := ⟨xk, xs, xr⟩) hr
      simp (disch := omega) [*]
      refine c13 _ g1' fun m2 s2 c2 l2 g2 => ?_
      have g2' := g1.frame (m' := m2) (st' := s2) (cl' := c2) hG.n1 hG.n2
      rw [upm_upm] at g2 g2'
      simp (disch := omega) [q.1, *]
      refine c14 _ g2' ?_
      simp (disch := omega) [*]
      refine c14 _ g2 ?_
      have q2 : opG g ⟨xk, xs, xr⟩ xs = opG g' ⟨xk, xs, xr⟩ xs := q.2
      simp (disch := omega) [*]
      refine c16 _ g2' ?_
      simp (disch := omega) [*]
      refine c16 _ g2 ?_
      simp (disch := omega) [*]
      exact FgK.same ⟨⟨i + 1, m1, m2, s1, s2, c1, c2, _, _, by simp [*], by simp, by simp [*], by simp [*], by simp [*], by simp [*], by simp [*], ⟨g2', g2, hG.n1, hG.n2, hG.n3⟩, by omega, q2⟩, by simp [*]; omega⟩
    · have q := op_other (g := g) (x := ⟨xk, xs, xr⟩) (s := su) b1
      simp (disch := omega) [*]
      refine c14 _ g1 ?_
      simp (disch := omega) [*]
      refine c14 _ g1' ?_
      simp (disch := omega) [*]
      refine c16 _ g1 ?_
      simp (disch := omega) [*]
      refine c16 _ g1' ?_
      simp (disch := omega) [*]
      exact FgK.same ⟨⟨i + 1, m1, m', s1, st', c1, cl', _, g', by simp [*], by simp, by simp [*], by simp [*], by simp [*], by simp [*], by simp [*], ⟨g1, g1', hG.n1, hG.n2, hG.n3⟩, by omega, by rw [q]; exact hr⟩, by simp [*]; omega⟩
  · simp (disch := omega) [*]
    refine (c9).ac ?_
    simp
    exact (hSS.upd hb).upd hb2
theorem law_RoleSeparate (xs : List AV) (hf : FitsT [(false, [.sl opL]), (false, [.i .i64])] xs) : ACall Try.prog 7 xs (fun _ => none) (fun v _ => v = vb true) := by
  match xs, hf with
  | [a, b], ⟨h1, h2, _⟩ =>
    obtain ⟨l, rfl, _⟩ := fitOps h1
    obtain ⟨x, rfl⟩ := fitInt h2
    exact (c7 l x).same rfl

theorem roleSeparate_lifted (os : Os) (started : os.Started) (H : Type) (enc : TypeId × Value → H) :
    ReturnsInHanded {} Try.checked os 7 .any (Rows.roleSeparateSpec.pre6 enc Try.prog Try.f7 Rows.roleSeparateRow.domain false) (Rows.roleSeparateSpec.post enc Try.prog Try.f7 false true false false) := by
  refine returnsInHanded_of_change_sized (C := Try.checked) own started (by kernel_rfl) Try.func7
    (ChangeSpec.witness6 (enc := enc) (C := Try.checked) false ⟨#[], #[.slice none 0 0, .int .i64 0], []⟩ 8 (by kernel_rfl) (by kernel_rfl) (by kernel_rfl) (by kernel_rfl)) ?_
  intro W base args ds gs before hval hW _ _ _
  refine law_contract (L := [(false, [.sl opL]), (false, [.i .i64])]) laidOut (by kernel_rfl) rfl (fun ds hd => ?_) ⟨_, rfl, by kernel_rfl⟩ ?_ (fun xs hf => law_RoleSeparate xs hf) W base args ds gs before hval hW
  · match ds, hd with
    | [d0, d1], _ => exact ⟨rfl, rfl, rfl⟩
  · exact of_decide_eq_true (by kernel_rfl)

theorem roleSeparate_holds : Rows.RoleSeparateSaid :=
  OpenClaim.holds_of_wide 7 Try.f7 rfl rfl rfl rfl rfl rfl rfl ⟨rfl, rfl, rfl, rfl, rfl⟩ rfl rfl rfl rfl rfl (by kernel_rfl) Try.func7 (by kernel_rfl)
    (of_decide_eq_true (by kernel_rfl)) (by unfold Func.isWrapper; first | (rw [if_pos (by decide +kernel)]; kernel_rfl) | (rw [if_neg (by decide +kernel)]; exact ⟨rfl, rfl⟩))
    (fun os started H enc _ => roleSeparate_lifted os started H enc)
end Go.Proofs.Ytnlckmkjhpaloaa
