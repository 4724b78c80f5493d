/-
  RoleForever: for every run the law returns true, and its arguments read as they did. No conditions: every input that the row admits.
-/
import Derived.Test.YtnlckmkjhpaloaaQ6
namespace Go.Proofs.Ytnlckmkjhpaloaa
open Go Go.Ab Go.RowKit Go.ChangeShapes Go.WideShapes Go.ChangeAt
set_option linter.unusedSimpArgs false
set_option linter.unusedVariables false
set_option linter.unnecessarySimpa false

attribute [local simp] condK_true condK_false condK_not wpc_skip wpc_ret wpc_exit wpc_seq wpc_reg wpc_regD testA_bool wpc_cond wpc_block thenA_normal thenA_ret thenA_exit blockA_normal blockA_ret blockA_exit blockA_other endA_normal endA_ret ev_tmp' ev_const ev_func ev_global cv_int cv_bool cv_string cv_pointer cv_slice cv_agg put_some put_none wH_s setE_apply setE_env less_eq env_cons env_nil upd_upd upd_apply del_apply startA_eq cells_ag cells_sl one_sl cells_vs one_vs cells_ep one_ep cells_fn one_fn cells_int one_int cells_bool one_bool cells_string one_string cells_pointer one_pointer cells_slice one_slice cells_map one_map cells_agg resK_one resK_nil resK_two rvK_t rvK_c rvsK_nil rvsK_cons iseq_nil iseq_cons gdA_true gdA_false gdA_undef istep_free istep_guard istepV_free istepV_guard dseq_nil dseq_pu dseq_rd dseq_ef chkAll_nil chkAll_cons andK_true pickK_true pickK_false pickK_tb pickK_fb bin2K_pl eqbK_eq eqbK_ne eqpK_eq eqpK_ne un1K_pl convK_int fillK_some fillA_cons fillA_nil cellsK_some needK_true needK_ok seeK_ep seeK_ptr oneK_agg oneK_one nilcK_ptr nilcK_ep fadrK_ptr fadrK_ep fldK_ag iadAK_ptr iadAK_ep iadSK_sl iadSK_vs extK_0 extK_1 extK_2 extK_3 lenK_pl lenK_sl lenK_vs lensK_pl boxK_some minmax1K_int storeK_ptr callvK_fn callvK_pl newsK_nil newsK_vs newsK_sl appK_nil appK_nil0 appK_sl appK_vs bnd1K_int bndK_none bndK_some slsK_vs slsK_nil slsK_sl0 slsK_sl slstrK_pl boolK_some eqsK_ag iop_eqs iop_sls iop_slstr seesK_some seesK_ro mapsK_some MAP_some findK_some findK_none plK_pl nmapK_none nmapK_some iop_mlook iop_mlen iop_mmk iop_mupd iop_mdel iop_mrng itK_none itK_some ptr0K_ptr iop_mnxt iop_ment it1K_some entK_some iop_mov iop_pick iop_bin iop_eqb iop_eqp iop_un iop_conv iop_build iop_load iop_nilc iop_fadr iop_fld iop_iadA iop_iadS iop_ext iop_mkf iop_len iop_lens iop_minmax iop_al iop_box iop_bsl iop_store iop_call iop_callv iop_app BIN_add BIN_sub BIN_mul BIN_and BIN_or BIN_xor BIN_andNot BIN_eql BIN_neq BIN_lss BIN_leq BIN_gtr BIN_geq BIN_quo BIN_rem BIN_shl BIN_shr BIN_sadd BIN_seql BIN_sneq BIN_slss BIN_sleq BIN_sgtr BIN_sgeq UN_neg UN_xor UN_not MM_nil MM_cons partsA argsA ptrA lessL eqL min2I slotN_int slotP_int slotI_int
attribute [local simp] ent_len ent_tt ent_dd ent_one ent_ag ent_t1 ent_d1 opc_len opc_tt opc_dd opc_one opc_ag opc_t1 opc_t2 opc_d1 opc_d2 ent_eq upm_upm

theorem keep_role {g : Int → Ent} {s r : Int} {x : Op} (h : (g s).r = r) (hr : 1 ≤ r) (hx : ¬ (x.s = s ∧ x.k ≠ 0 ∧ x.k ≠ 1)) : (opG g x s).r = r := by
  unfold opG asgG relG dstG
  by_cases hs : x.s = s
  · subst hs
    by_cases h0 : x.k = 0
    · rw [if_pos h0]
      split
      · rename_i e
        unfold asgE at e
        split at e
        · cases e
        · split at e
          · cases e
          · rename_i c
            have : g x.s = e0 ∨ g x.s = ⟨x.r, false⟩ := by
              by_cases c1 : g x.s = e0
              · exact .inl c1
              · exact .inr (Classical.byContradiction fun c2 => c ⟨c1, c2⟩)
            rcases this with c1 | c1
            · rw [c1] at h; simp [e0] at h; omega
            · rw [c1] at h; simpa [gset] using h
      · exact h
    · rw [if_neg h0]
      by_cases h1 : x.k = 1
      · rw [if_pos h1]
        split
        · simpa [gset] using h
        · exact h
      · exact absurd ⟨rfl, h0, h1⟩ hx
  · have hs' : ¬ s = x.s := fun e => hs e.symm
    split
    · split
      · simpa [gset, hs'] using h
      · exact h
    · split
      · split
        · simpa [gset, hs'] using h
        · exact h
      · split
        · simpa [gset, hs'] using h
        · exact h
theorem refuse {g : Int → Ent} {r : Int} {x : Op} (h : (g x.s).r = r) (hr : 1 ≤ r) (hk : x.k = 0) (hx : x.r ≠ r) : opE g x ≠ 0 := by
  rw [opE, if_pos hk, asgE]
  split
  · decide
  · rw [if_pos]
    · decide
    · refine ⟨fun e => ?_, fun e => ?_⟩
      · rw [e] at h; simp [e0] at h; omega
      · rw [e] at h; exact hx h
theorem op_at {l : List Op} {i : Nat} (h : i < l.length) : ∃ rest, (flat opc l).drop (i * 3) = vi l[i].k :: vi l[i].s :: vi l[i].r :: rest := ⟨_, flat_drop (enc := opc) (fun _ => rfl) l i h⟩
theorem c4 (l : List Op) (su fi : Int) : PC Try.prog 4 [.vs l.length false (flat opc l), vi su, vi fi] (vb true) := by
  refine .tell fun H => ?_
  refine call_c follows cf4_ok (by simp) ?_
  by_cases c0 : (60 < l.length ∨ su < 1) ∨ fi < 1 ∨ 5 < fi
  · have c1 : 60 < l.length ∨ su < 1 ∨ fi < 1 ∨ 5 < fi := by omega
    by_cases d1 : (60 : Int) < l.length <;> by_cases d2 : su < 1 <;> by_cases d3 : fi < 1 <;> by_cases d4 : 5 < fi <;> (first | (exfalso; omega) | skip)
    all_goals (clear c0 c1)
    all_goals (repeat' (first | simp [*] | with_reducible (refine (c9 ..).ac ?_)))
    all_goals exact Sub.refl _
  have d1 : ¬ (60 : Int) < l.length := by omega
  have d2 : ¬ su < 1 := by omega
  have d3 : ¬ fi < 1 := by omega
  have d4 : ¬ 5 < fi := by omega
  have d5 : isR fi = true := by simp [isR]; omega
  simp [d1, d2, d3, d4]
  refine c10 fun p b hp hb hg => ?_
  have hS : Sub H (upd (upd H b (.map [] [] 0)) p (.cells [vb true, .pl (.map (some b))])) := ((Sub.refl H).upd hb).upd hp
  generalize upd (upd H b (.map [] [] 0)) p (.cells [vb true, .pl (.map (some b))]) = H1 at hg hS ⊢
  simp
  refine c21 _ _ hg fun m1 s1 c1 l1 g1 => ?_
  have z1 : asgE (fun _ => e0) su fi = 0 := by simp [asgE, d2, d5]
  rw [asgG_ok z1] at g1
  rw [z1]
  simp
  refine wpc_loop (fun s => ∃ (i : Nat) (m : Es) (st : List Nat) (cl : Nat) (g : Int → Ent), s.n = 103 ∧ s.H = upm H1 b m st cl ∧ s.t 0 = .vs l.length false (flat opc l) ∧ s.t 1 = vi su ∧ s.t 2 = vi fi ∧ s.t 7 = pA p ∧ s.t 8 = vi i ∧
      RG (upm H1 b m st cl) p b g m st cl ∧ i ≤ l.length ∧ (g su).r = fi) (fun s => l.length - slotN (s.t 8)) ?_ ?_
  · exact FgK.same ⟨0, m1, s1, c1, _, by simp, rfl, by simp, by simp, by simp, by simp, by simp, g1, by omega, by simp [gset]⟩
  rintro s ⟨i, m, st, cl, g, hn, hH, e0', e1, e2, e7, e8, hG, hi, hr⟩
  have w := IntWalk.i64_in ((i : Int) + 1) (by omega)
  by_cases hlt : i < l.length
  · obtain ⟨rest, hd⟩ := op_at hlt
    have keep : ¬ (l[i].s = su ∧ l[i].k ≠ 0 ∧ l[i].k ≠ 1) → (opG g l[i] su).r = fi := keep_role hr (by omega)
    have ref : l[i].s = su → l[i].k = 0 → l[i].r ≠ fi → opE g l[i] ≠ 0 := fun hs => refuse (by rw [hs]; exact hr) (by omega)
    generalize l[i] = x at hd keep ref
    obtain ⟨xk, xs, xr⟩ := x
    simp only at hd keep ref
    by_cases b1 : xs = su ∧ xk ≠ 0 ∧ xk ≠ 1
    · obtain ⟨b1, b2, b3⟩ := b1
      subst b1
      simp (disch := omega) [*]
      exact FgK.same ⟨⟨i + 1, m, st, cl, g, by simp [*], by simp [*], by simp [*], by simp [*], by simp [*], by simp [*], by simp [*], hG, by omega, hr⟩, by simp [*]; omega⟩
    · have k1 := keep b1
      have body : ∀ s' : ASt, s'.n = 103 → s'.t 0 = .vs l.length false (flat opc l) → s'.t 1 = vi su → s'.t 2 = vi fi → s'.t 7 = pA p → s'.t 8 = vi ((i : Int) + 1) → ∀ m' st' cl', s'.H = upm H1 b m' st' cl' → RG (upm H1 b m' st' cl') p b (opG g ⟨xk, xs, xr⟩) m' st' cl' →
          (fun s'' => (∃ (i : Nat) (m : Es) (st : List Nat) (cl : Nat) (g : Int → Ent), s''.n = 103 ∧ s''.H = upm H1 b m st cl ∧ s''.t 0 = .vs l.length false (flat opc l) ∧ s''.t 1 = vi su ∧ s''.t 2 = vi fi ∧ s''.t 7 = pA p ∧ s''.t 8 = vi i ∧
      RG (upm H1 b m st cl) p b g m st cl ∧ i ≤ l.length ∧ (g su).r = fi) ∧ l.length - slotN (s''.t 8) < l.length - slotN (s.t 8)) s' := by
        intro s' q1 q2 q3 q4 q5 q6 m' st' cl' q7 q8
        exact ⟨⟨i + 1, m', st', cl', _, q1, q7, q2, q3, q4, q5, by rw [q6]; simp, q8, by omega, k1⟩, by rw [q6, e8]; simp; omega⟩
      by_cases b2 : xs = su
      · by_cases b3 : xk = 0
        · by_cases b4 : xr = fi
          · simp (disch := omega) [*]
            refine c13 _ hG fun m' st' cl' hl' hg' => ?_
            rw [upm_upm] at hg'
            subst b2 b3 b4
            simp (disch := omega) [*]
            refine c14 _ hg' ?_
            simp (disch := omega) [*]
            exact FgK.same (body _ (by simp [*]) (by simp [*]) (by simp [*]) (by simp [*]) (by simp [*]) (by simp [*]) m' st' cl' rfl hg')
          · have k2 := ref b2 b3 b4
            simp (disch := omega) [*]
            refine c13 _ hG fun m' st' cl' hl' hg' => ?_
            rw [upm_upm] at hg'
            subst b2 b3
            simp (disch := omega) [*]
            refine c14 _ hg' ?_
            simp (disch := omega) [*]
            exact FgK.same (body _ (by simp [*]) (by simp [*]) (by simp [*]) (by simp [*]) (by simp [*]) (by simp [*]) m' st' cl' rfl hg')
        · have b5 : xk = 1 := by
            refine Classical.byContradiction fun e => b1 ⟨b2, b3, e⟩
          simp (disch := omega) [*]
          refine c13 _ hG fun m' st' cl' hl' hg' => ?_
          rw [upm_upm] at hg'
          subst b2 b5
          simp (disch := omega) [*]
          refine c14 _ hg' ?_
          simp (disch := omega) [*]
          exact FgK.same (body _ (by simp [*]) (by simp [*]) (by simp [*]) (by simp [*]) (by simp [*]) (by simp [*]) m' st' cl' rfl hg')
      · simp (disch := omega) [*]
        refine c13 _ hG fun m' st' cl' hl' hg' => ?_
        rw [upm_upm] at hg'
        simp (disch := omega) [*]
        refine c14 _ hg' ?_
        simp (disch := omega) [*]
        exact FgK.same (body _ (by simp [*]) (by simp [*]) (by simp [*]) (by simp [*]) (by simp [*]) (by simp [*]) m' st' cl' rfl hg')
  · simp (disch := omega) [*]
    refine (c9).ac ?_
    simp
    exact hS.upd hb
theorem law_RoleForever (xs : List AV) (hf : FitsT [(false, [.sl opL]), (false, [.i .i64]), (false, [.i .i64])] xs) : ACall Try.prog 4 xs (fun _ => none) (fun v _ => v = vb true) := by
  match xs, hf with
  | [a, b, c], ⟨h1, h2, h3, _⟩ =>
    obtain ⟨l, rfl, _⟩ := fitOps h1
    obtain ⟨x, rfl⟩ := fitInt h2
    obtain ⟨y, rfl⟩ := fitInt h3
    exact (c4 l x y).same rfl

theorem roleForever_lifted (os : Os) (started : os.Started) (H : Type) (enc : TypeId × Value → H) :
    ReturnsInHanded {} Try.checked os 4 .any (Rows.roleForeverSpec.pre6 enc Try.prog Try.f4 Rows.roleForeverRow.domain false) (Rows.roleForeverSpec.post enc Try.prog Try.f4 false true false false) := by
  refine returnsInHanded_of_change_sized (C := Try.checked) own started (by kernel_rfl) Try.func4
    (ChangeSpec.witness6 (enc := enc) (C := Try.checked) false ⟨#[], #[.slice none 0 0, .int .i64 0, .int .i64 0], []⟩ 8 (by kernel_rfl) (by kernel_rfl) (by kernel_rfl) (by kernel_rfl)) ?_
  intro W base args ds gs before hval hW _ _ _
  refine law_contract (L := [(false, [.sl opL]), (false, [.i .i64]), (false, [.i .i64])]) laidOut (by kernel_rfl) rfl (fun ds hd => ?_) ⟨_, rfl, by kernel_rfl⟩ ?_ (fun xs hf => law_RoleForever xs hf) W base args ds gs before hval hW
  · match ds, hd with
    | [d0, d1, d2], _ => exact ⟨rfl, rfl, rfl⟩
  · exact of_decide_eq_true (by kernel_rfl)

theorem roleForever_holds : Rows.RoleForeverSaid :=
  OpenClaim.holds_of_wide 4 Try.f4 rfl rfl rfl rfl rfl rfl rfl ⟨rfl, rfl, rfl, rfl, rfl⟩ rfl rfl rfl rfl rfl (by kernel_rfl) Try.func4 (by kernel_rfl)
    (of_decide_eq_true (by kernel_rfl)) (by unfold Func.isWrapper; first | (rw [if_pos (by decide +kernel)]; kernel_rfl) | (rw [if_neg (by decide +kernel)]; exact ⟨rfl, rfl⟩))
    (fun os started H enc _ => roleForever_lifted os started H enc)
end Go.Proofs.Ytnlckmkjhpaloaa
