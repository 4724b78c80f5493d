/-
  RoleTurns: for every run the law returns true, and its arguments read as they did. No conditions: every input that the row admits.
-/
import Derived.Test.YtnlckmkjhpaloaaQ6
namespace Go.Proofs.Ytnlckmkjhpaloaa
open Go Go.Ab Go.RowKit Go.ChangeShapes Go.WideShapes Go.ChangeAt
set_option linter.unusedSimpArgs false
set_option linter.unusedVariables false
set_option linter.unnecessarySimpa false

attribute [local simp] condK_true condK_false condK_not wpc_skip wpc_ret wpc_exit wpc_seq wpc_reg wpc_regD testA_bool wpc_cond wpc_block thenA_normal thenA_ret thenA_exit blockA_normal blockA_ret blockA_exit blockA_other endA_normal endA_ret ev_tmp' ev_const ev_func ev_global cv_int cv_bool cv_string cv_pointer cv_slice cv_agg put_some put_none wH_s setE_apply setE_env less_eq env_cons env_nil upd_upd upd_apply del_apply startA_eq cells_ag cells_sl one_sl cells_vs one_vs cells_ep one_ep cells_fn one_fn cells_int one_int cells_bool one_bool cells_string one_string cells_pointer one_pointer cells_slice one_slice cells_map one_map cells_agg resK_one resK_nil resK_two rvK_t rvK_c rvsK_nil rvsK_cons iseq_nil iseq_cons gdA_true gdA_false gdA_undef istep_free istep_guard istepV_free istepV_guard dseq_nil dseq_pu dseq_rd dseq_ef chkAll_nil chkAll_cons andK_true pickK_true pickK_false pickK_tb pickK_fb bin2K_pl eqbK_eq eqbK_ne eqpK_eq eqpK_ne un1K_pl convK_int fillK_some fillA_cons fillA_nil cellsK_some needK_true needK_ok seeK_ep seeK_ptr oneK_agg oneK_one nilcK_ptr nilcK_ep fadrK_ptr fadrK_ep fldK_ag iadAK_ptr iadAK_ep iadSK_sl iadSK_vs extK_0 extK_1 extK_2 extK_3 lenK_pl lenK_sl lenK_vs lensK_pl boxK_some minmax1K_int storeK_ptr callvK_fn callvK_pl newsK_nil newsK_vs newsK_sl appK_nil appK_nil0 appK_sl appK_vs bnd1K_int bndK_none bndK_some slsK_vs slsK_nil slsK_sl0 slsK_sl slstrK_pl boolK_some eqsK_ag iop_eqs iop_sls iop_slstr seesK_some seesK_ro mapsK_some MAP_some findK_some findK_none plK_pl nmapK_none nmapK_some iop_mlook iop_mlen iop_mmk iop_mupd iop_mdel iop_mrng itK_none itK_some ptr0K_ptr iop_mnxt iop_ment it1K_some entK_some iop_mov iop_pick iop_bin iop_eqb iop_eqp iop_un iop_conv iop_build iop_load iop_nilc iop_fadr iop_fld iop_iadA iop_iadS iop_ext iop_mkf iop_len iop_lens iop_minmax iop_al iop_box iop_bsl iop_store iop_call iop_callv iop_app BIN_add BIN_sub BIN_mul BIN_and BIN_or BIN_xor BIN_andNot BIN_eql BIN_neq BIN_lss BIN_leq BIN_gtr BIN_geq BIN_quo BIN_rem BIN_shl BIN_shr BIN_sadd BIN_seql BIN_sneq BIN_slss BIN_sleq BIN_sgtr BIN_sgeq UN_neg UN_xor UN_not MM_nil MM_cons partsA argsA ptrA lessL eqL min2I slotN_int slotP_int slotI_int
attribute [local simp] ent_len ent_tt ent_dd ent_one ent_ag ent_t1 ent_d1 opc_len opc_tt opc_dd opc_one opc_ag opc_t1 opc_t2 opc_d1 opc_d2 ent_eq upm_upm

theorem vb_at {l : List Bool} {j : Nat} (h : j < l.length) : ((l.map vb).drop j).take 1 = [vb l[j]] := by
  rw [← List.map_drop, List.drop_eq_getElem_cons h]; rfl
theorem ofs_true {g : Int → Ent} {su n : Int} {lo : List Int} (h : OfL g n lo) (hn : isR n = true) (h1 : ∀ t, t ≠ su → g t = e0) (h2 : g su = ⟨n, true⟩) : lo = [su] := by
  refine h.eq ⟨by simp, fun s => ?_⟩
  by_cases e : s = su
  · subst e; simp [hn, h2]
  · simp [hn, h1 s e, e, e0]
theorem ofs_false {g : Int → Ent} {su n : Int} {lo : List Int} (h : OfL g n lo) (h1 : ∀ t, t ≠ su → g t = e0) (h2 : (g su).a = false) : lo = [] := by
  refine h.eq ⟨.nil, fun s => ?_⟩
  by_cases e : s = su
  · subst e
    have : g s ≠ ⟨n, true⟩ := fun e => by rw [e] at h2; cases h2
    simp [this]
  · simp [h1 s e, e0]
theorem c5 (l : List Bool) (su n : Int) : PC Try.prog 5 [.vs l.length false (l.map vb), vi su, vi n] (vb true) := by
  refine .tell fun H => ?_
  refine call_c follows cf5_ok (by simp) ?_
  by_cases c0 : (60 < l.length ∨ su < 1) ∨ n < 1 ∨ 5 < n
  · have c1 : 60 < l.length ∨ su < 1 ∨ n < 1 ∨ 5 < n := by omega
    by_cases d1 : (60 : Int) < l.length <;> by_cases d2 : su < 1 <;> by_cases d3 : n < 1 <;> by_cases d4 : 5 < n <;> (first | (exfalso; omega) | skip)
    all_goals (clear c0 c1)
    all_goals (repeat' (first | simp [*] | with_reducible (refine (c9 ..).ac ?_)))
    all_goals exact Sub.refl _
  have d1 : ¬ (60 : Int) < l.length := by omega
  have d2 : ¬ su < 1 := by omega
  have d3 : ¬ n < 1 := by omega
  have d4 : ¬ 5 < n := by omega
  have d5 : isR n = true := by simp [isR]; omega
  clear c0
  simp [d1, d2, d3, d4]
  refine c10 fun p b hp hb hg => ?_
  have hS : Sub H (upd (upd H b (.map [] [] 0)) p (.cells [vb true, .pl (.map (some b))])) := ((Sub.refl H).upd hb).upd hp
  generalize upd (upd H b (.map [] [] 0)) p (.cells [vb true, .pl (.map (some b))]) = H1 at hg hS ⊢
  simp
  refine wpc_loop (fun s => ∃ (i : Nat) (m : Es) (st : List Nat) (cl : Nat) (g : Int → Ent) (ac : Bool), s.n = 75 ∧ s.H = upm H1 b m st cl ∧ s.t 0 = .vs l.length false (l.map vb) ∧ s.t 1 = vi su ∧ s.t 2 = vi n ∧ s.t 7 = pA p ∧ s.t 8 = vb ac ∧ s.t 9 = vi i ∧
      RG (upm H1 b m st cl) p b g m st cl ∧ i ≤ l.length ∧ m.length ≤ i ∧ (∀ t, t ≠ su → g t = e0) ∧ (g su = ⟨n, ac⟩ ∨ (ac = false ∧ g su = e0))) (fun s => l.length - slotN (s.t 9)) ?_ ?_
  · refine FgK.same ⟨0, [], [], 0, fun _ => e0, false, by simp, ?_, by simp, by simp, by simp, by simp, by simp, by simp, ?_, by omega, by simp, fun _ _ => rfl, .inr ⟨rfl, rfl⟩⟩
    · exact hg.self.symm
    · rw [hg.self]; exact hg
  rintro s ⟨i, m, st, cl, g, ac, hn, hH, e0', e1, e2, e7, e8, e9, hG, hi, hml, k1, k2⟩
  have w := IntWalk.i64_in ((i : Int) + 1) (by omega)
  by_cases hlt : i < l.length
  · have hd := vb_at hlt
    generalize l[i] = v at hd
    cases v with
    | true =>
      cases ac with
      | false =>
        have q : asgE g su n = 0 := by
          rw [asgE, if_neg (by simp [d2, d5])]
          rcases k2 with k2 | ⟨_, k2⟩ <;> simp [k2, e0]
        simp (disch := omega) [*]
        refine c21 _ _ hG fun m' st' cl' hl' hg' => ?_
        rw [upm_upm, asgG_ok q] at hg'
        have ofs := fun {lo} (h : OfL (gset g su ⟨n, true⟩) n lo) => ofs_true (su := su) h d5 (fun t ht => by simp [gset, ht, k1]) (by simp [gset])
        have a1 : (gset g su ⟨n, true⟩ su).a = true := by simp [gset]
        simp (disch := omega) [*]
        (refine c16 _ hg' ?_; simp (disch := omega) [*]; refine c19 _ hg' (by omega) fun out Ho lo hrow hof => ?_; have hlo := ofs hof; have hln := fun k => (hrow.rin (by simp)).lenK (k := k); simp (disch := omega) [*]; exact FgK.of _ hrow.sub ⟨⟨i + 1, m', st', cl', _, _, by simp [*], rfl, by simp [*], by simp [*], by simp [*], by simp [*], by simp [*]; rfl, by simp [*], hg', by omega, by omega, fun t ht => by simp [gset, ht, k1], by first | exact k2 | simp [gset, *]⟩, by simp [*]; omega⟩)
      | true =>
        have k3 : g su = ⟨n, true⟩ := by rcases k2 with k2 | ⟨k2, _⟩; exact k2; cases k2
        have q : asgE g su n = 12 := by
          rw [asgE, if_neg (by simp [d2, d5])]
          simp [k3, e0]
        simp (disch := omega) [*]
        refine c21 _ _ hG fun m' st' cl' hl' hg' => ?_
        rw [upm_upm, asgG_no (by rw [q]; decide)] at hg'
        have ofs := fun {lo} (h : OfL g n lo) => ofs_true h d5 k1 k3
        have a1 : (g su).a = true := by rw [k3]
        simp (disch := omega) [*]
        (refine c16 _ hg' ?_; simp (disch := omega) [*]; refine c19 _ hg' (by omega) fun out Ho lo hrow hof => ?_; have hlo := ofs hof; have hln := fun k => (hrow.rin (by simp)).lenK (k := k); simp (disch := omega) [*]; exact FgK.of _ hrow.sub ⟨⟨i + 1, m', st', cl', _, _, by simp [*], rfl, by simp [*], by simp [*], by simp [*], by simp [*], by simp [*]; rfl, by simp [*], hg', by omega, by omega, fun t ht => by simp [gset, ht, k1], by first | exact k2 | simp [gset, *]⟩, by simp [*]; omega⟩)
    | false =>
      cases ac with
      | false =>
        have k3 : (g su).a = false := by rcases k2 with k2 | ⟨_, k2⟩ <;> rw [k2]; rfl
        have q : relE g su = 14 := by rw [relE, k3]; rfl
        simp (disch := omega) [*]
        refine c22 _ hG fun m' st' cl' hl' hg' => ?_
        rw [upm_upm, relG_no k3] at hg'
        have ofs := fun {lo} (h : OfL g n lo) => ofs_false h k1 k3
        simp (disch := omega) [*]
        (refine c16 _ hg' ?_; simp (disch := omega) [*]; refine c19 _ hg' (by omega) fun out Ho lo hrow hof => ?_; have hlo := ofs hof; have hln := fun k => (hrow.rin (by simp)).lenK (k := k); simp (disch := omega) [*]; exact FgK.of _ hrow.sub ⟨⟨i + 1, m', st', cl', _, _, by simp [*], rfl, by simp [*], by simp [*], by simp [*], by simp [*], by simp [*]; rfl, by simp [*], hg', by omega, by omega, fun t ht => by simp [gset, ht, k1], by first | exact k2 | simp [gset, *]⟩, by simp [*]; omega⟩)
      | true =>
        have k3 : g su = ⟨n, true⟩ := by rcases k2 with k2 | ⟨k2, _⟩; exact k2; cases k2
        have k4 : (g su).a = true := by rw [k3]
        have q : relE g su = 0 := if_pos k4
        simp (disch := omega) [*]
        refine c22 _ hG fun m' st' cl' hl' hg' => ?_
        rw [upm_upm, relG_ok k4, k3] at hg'
        have ofs := fun {lo} (h : OfL (gset g su ⟨n, false⟩) n lo) => ofs_false h (su := su) (fun t ht => by simp [gset, ht, k1]) (by simp [gset])
        have a1 : (gset g su ⟨n, false⟩ su).a = false := by simp [gset]
        simp (disch := omega) [*]
        (refine c16 _ hg' ?_; simp (disch := omega) [*]; refine c19 _ hg' (by omega) fun out Ho lo hrow hof => ?_; have hlo := ofs hof; have hln := fun k => (hrow.rin (by simp)).lenK (k := k); simp (disch := omega) [*]; exact FgK.of _ hrow.sub ⟨⟨i + 1, m', st', cl', _, _, by simp [*], rfl, by simp [*], by simp [*], by simp [*], by simp [*], by simp [*]; rfl, by simp [*], hg', by omega, by omega, fun t ht => by simp [gset, ht, k1], by first | exact k2 | simp [gset, *]⟩, by simp [*]; omega⟩)
  · simp (disch := omega) [*]
    refine (c9).ac ?_
    simp
    exact hS.upd hb
theorem flat1 : ∀ l : List Bool, (l.map fun x => [vb x]).flatten = l.map vb
  | [] => rfl
  | x :: l => by simp [flat1 l]
theorem fitBools {a : AV} (h : FitT false [.sl [.b]] a) : ∃ l : List Bool, a = .vs l.length false (l.map vb) := by
  obtain ⟨n, cs, rfl, hn, hl, hf⟩ := (FitL.one_inv h).sl_inv
  obtain ⟨l, rfl, rfl⟩ := FitL.elems (enc := fun x => [vb x]) (by decide) (fun cs h => by
    obtain ⟨_, _, rfl, h0, h⟩ := h.cons_inv
    obtain rfl := h.nil_inv
    obtain ⟨x, rfl⟩ := h0.b_inv
    exact ⟨x, rfl⟩) n cs hl hf
  exact ⟨l, by rw [flat1]⟩
theorem law_RoleTurns (xs : List AV) (hf : FitsT [(false, [.sl [.b]]), (false, [.i .i64]), (false, [.i .i64])] xs) : ACall Try.prog 5 xs (fun _ => none) (fun v _ => v = vb true) := by
  match xs, hf with
  | [a, b, c], ⟨h1, h2, h3, _⟩ =>
    obtain ⟨l, rfl⟩ := fitBools h1
    obtain ⟨x, rfl⟩ := fitInt h2
    obtain ⟨y, rfl⟩ := fitInt h3
    exact (c5 l x y).same rfl

theorem roleTurns_lifted (os : Os) (started : os.Started) (H : Type) (enc : TypeId × Value → H) :
    ReturnsInHanded {} Try.checked os 5 .any (Rows.roleTurnsSpec.pre6 enc Try.prog Try.f5 Rows.roleTurnsRow.domain false) (Rows.roleTurnsSpec.post enc Try.prog Try.f5 false true false false) := by
  refine returnsInHanded_of_change_sized (C := Try.checked) own started (by kernel_rfl) Try.func5
    (ChangeSpec.witness6 (enc := enc) (C := Try.checked) false ⟨#[], #[.slice none 0 0, .int .i64 0, .int .i64 0], []⟩ 8 (by kernel_rfl) (by kernel_rfl) (by kernel_rfl) (by kernel_rfl)) ?_
  intro W base args ds gs before hval hW _ _ _
  refine law_contract (L := [(false, [.sl [.b]]), (false, [.i .i64]), (false, [.i .i64])]) laidOut (by kernel_rfl) rfl (fun ds hd => ?_) ⟨_, rfl, by kernel_rfl⟩ ?_ (fun xs hf => law_RoleTurns xs hf) W base args ds gs before hval hW
  · match ds, hd with
    | [d0, d1, d2], _ => exact ⟨rfl, rfl, rfl⟩
  · exact of_decide_eq_true (by kernel_rfl)

theorem roleTurns_holds : Rows.RoleTurnsSaid :=
  OpenClaim.holds_of_wide 5 Try.f5 rfl rfl rfl rfl rfl rfl rfl ⟨rfl, rfl, rfl, rfl, rfl⟩ rfl rfl rfl rfl rfl (by kernel_rfl) Try.func5 (by kernel_rfl)
    (of_decide_eq_true (by kernel_rfl)) (by unfold Func.isWrapper; first | (rw [if_pos (by decide +kernel)]; kernel_rfl) | (rw [if_neg (by decide +kernel)]; exact ⟨rfl, rfl⟩))
    (fun os started H enc _ => roleTurns_lifted os started H enc)
end Go.Proofs.Ytnlckmkjhpaloaa
