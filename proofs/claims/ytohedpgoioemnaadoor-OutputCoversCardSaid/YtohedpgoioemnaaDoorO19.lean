/-
  OutputCovers: for every output and rectangle the law returns true. Conditions: as each lemma states them.
-/
import Derived.Test.YtohedpgoioemnaaDoorO18
import Derived.Test.YtohedpgoioemnaaDoorXTie
namespace Go.Proofs.YtohedpgoioemnaaDoor
open Go Go.Ab Go.RowKit Go.ChangeShapes Go.WideShapes Go.ChangeAt
set_option linter.unusedSimpArgs false
set_option linter.unusedVariables false
set_option linter.unnecessarySimpa false

attribute [local simp] condK_true condK_false condK_not wpc_skip wpc_ret wpc_exit wpc_seq wpc_reg wpc_regD testA_bool wpc_cond wpc_block thenA_normal thenA_ret thenA_exit blockA_normal blockA_ret blockA_exit blockA_other endA_normal endA_ret ev_tmp' ev_const ev_func ev_global cv_int cv_bool cv_string cv_pointer cv_slice cv_agg put_some put_none wH_s setE_apply setE_env less_eq env_cons env_nil upd_upd upd_apply del_apply startA_eq cells_ag cells_sl one_sl cells_vs one_vs cells_ep one_ep cells_fn one_fn cells_int one_int cells_bool one_bool cells_string one_string cells_pointer one_pointer cells_slice one_slice cells_map one_map cells_agg resK_one resK_nil resK_two rvK_t rvK_c rvsK_nil rvsK_cons iseq_nil iseq_cons gdA_true gdA_false gdA_undef istep_free istep_guard istepV_free istepV_guard dseq_nil dseq_pu dseq_rd dseq_ef chkAll_nil chkAll_cons andK_true pickK_true pickK_false pickK_tb pickK_fb bin2K_pl eqbK_eq eqbK_ne eqpK_eq eqpK_ne un1K_pl convK_int fillK_some fillA_cons fillA_nil cellsK_some needK_true needK_ok seeK_ep seeK_ptr oneK_agg oneK_one nilcK_ptr nilcK_ep fadrK_ptr fadrK_ep fldK_ag iadAK_ptr iadAK_ep iadSK_sl iadSK_vs extK_0 extK_1 extK_2 extK_3 lenK_pl lenK_sl lenK_vs lensK_pl boxK_some minmax1K_int storeK_ptr callvK_fn callvK_pl newsK_nil newsK_vs newsK_sl appK_nil appK_nil0 appK_sl appK_vs bnd1K_int bndK_none bndK_some slsK_vs slsK_nil slsK_sl0 slsK_sl slstrK_pl boolK_some eqsK_ag iop_eqs iop_sls iop_slstr seesK_some seesK_ro mapsK_some MAP_some findK_some findK_none plK_pl nmapK_none nmapK_some iop_mlook iop_mlen iop_mmk iop_mupd iop_mdel iop_mrng itK_none itK_some ptr0K_ptr iop_mnxt iop_ment it1K_some entK_some iop_mov iop_pick iop_bin iop_eqb iop_eqp iop_un iop_conv iop_build iop_load iop_nilc iop_fadr iop_fld iop_iadA iop_iadS iop_ext iop_mkf iop_len iop_lens iop_minmax iop_al iop_box iop_bsl iop_store iop_call iop_callv iop_app BIN_add BIN_sub BIN_mul BIN_and BIN_or BIN_xor BIN_andNot BIN_eql BIN_neq BIN_lss BIN_leq BIN_gtr BIN_geq BIN_quo BIN_rem BIN_shl BIN_shr BIN_sadd BIN_seql BIN_sneq BIN_slss BIN_sleq BIN_sgtr BIN_sgeq UN_neg UN_xor UN_not MM_nil MM_cons partsA argsA ptrA lessL eqL min2I slotN_int slotP_int slotI_int
attribute [local simp] rc_len rc_t4 rc_t1 rc_t2 rc_t3 rc_d1 rc_d2 rc_d3 rc_d4 rc_ag rc_one rc_eq pc_len pc_t1 pc_t2 pc_d1 pc_d2 pc_ag pc_one oc_len oc_tt oc_dd oc_one oc_ag oc_t1 oc_t2 oc_t3 oc_t4 oc_t5 oc_t6 oc_t7 oc_d1 oc_d2 oc_d3 oc_d4 oc_d5 oc_d6 oc_d7 min2_t min2_f

theorem c3 (o : O) (r : R) : PT Tryd.prog 3 [.ag (oc o), .ag (rc r)] (vb true) := by
  refine .tell fun H hTb => ?_
  refine call_c follows cf3_ok (by simp) ?_
  by_cases hs : (1000 : Int) < o.nm.size
  · repeat' (first | simp [*] | (with_reducible (refine newK_of fun _ h_ => ?_); have hn_ := free_ne h_; (try simp only [upd_none', ne_eq] at h_)) | (with_reducible (refine condK_of (fun h_ => ?_) (fun h_ => ?_))) | with_reducible (refine (c6 ..).ac ?_) | with_reducible (refine (c5 ..).ac ?_) | with_reducible (refine (c12 ..).ac ?_) | with_reducible (refine (c11 ..).ac ?_) | with_reducible (refine (c7 ..).ac ?_) | with_reducible (refine (c9 ..).ac ?_) | with_reducible (refine (c10 ..).ac ?_) | (with_reducible refine (c8 ..).ac ?_ ?_; · (repeat' (first | assumption | (refine Ro.upd (by assumption) (by simp [*]) ?_)))))
    all_goals ((try with_reducible refine And.intro ?_ ?_) <;> (try (repeat' (first | with_reducible exact Sub.refl _ | with_reducible refine Sub.of_upd (by simp [*]) ?_))))
  by_cases hc : chk o = 0
  · cases he : rempty (rcap r (imgO o)) with
    | true =>
      have hp : toLog o r = ⟨0, 0, 0, 0⟩ := by simp [toLog, he]
      repeat' (first | simp [*, req_refl, img_mk'] | (with_reducible (refine newK_of fun _ h_ => ?_); have hn_ := free_ne h_; (try simp only [upd_none', ne_eq] at h_)) | (with_reducible (refine condK_of (fun h_ => ?_) (fun h_ => ?_))) | with_reducible (refine (c6 ..).ac ?_) | with_reducible (refine (c5 ..).ac ?_) | with_reducible (refine (c12 ..).ac ?_) | with_reducible (refine (c11 ..).ac ?_) | with_reducible (refine (c7 ..).ac ?_) | with_reducible (refine (c9 ..).ac ?_) | with_reducible (refine (c10 ..).ac ?_) | (with_reducible refine (c8 ..).ac ?_ ?_; · (repeat' (first | assumption | (refine Ro.upd (by assumption) (by simp [*]) ?_)))))
      all_goals ((try with_reducible refine And.intro ?_ ?_) <;> (try (repeat' (first | with_reducible exact Sub.refl _ | with_reducible refine Sub.of_upd (by simp [*]) ?_))))
    | false =>
      have hin := cap_in _ _ he
      have hp : toLog o r = logi o (rcap r (imgO o)) := by simp [toLog, he, hc]
      generalize hq : rcap r (imgO o) = p at *
      obtain ⟨p1, p2, p3, p4⟩ := covers o hc p he hin
      have p5 : rin (logi o p) (lg o) = true := (rin_iff _ _ p1).2 ⟨lg_ne o hc, p2⟩
      have p6 := toPhys_in o hc _ p1 p2
      have p7 := rempty_ok _ p1
      generalize hl : logi o p = l at *
      have w1 : IntKind.i64.wrap (l.x0 + 1) = l.x0 + 1 := IntWalk.i64_in _ (by omega)
      have w2 : IntKind.i64.wrap (l.y0 + 1) = l.y0 + 1 := IntWalk.i64_in _ (by omega)
      have w3 : IntKind.i64.wrap (l.x1 - 1) = l.x1 - 1 := IntWalk.i64_in _ (by omega)
      have w4 : IntKind.i64.wrap (l.y1 - 1) = l.y1 - 1 := IntWalk.i64_in _ (by omega)
      clear p2 p7 hin
      repeat' (first | simp [*, req_refl, img_mk'] | (with_reducible (refine newK_of fun _ h_ => ?_); have hn_ := free_ne h_; (try simp only [upd_none', ne_eq] at h_)) | (with_reducible (refine condK_of (fun h_ => ?_) (fun h_ => ?_))) | with_reducible (refine (c6 ..).ac ?_) | with_reducible (refine (c5 ..).ac ?_) | with_reducible (refine (c12 ..).ac ?_) | with_reducible (refine (c11 ..).ac ?_) | with_reducible (refine (c7 ..).ac ?_) | with_reducible (refine (c9 ..).ac ?_) | with_reducible (refine (c10 ..).ac ?_) | (with_reducible refine (c8 ..).ac ?_ ?_; · (repeat' (first | assumption | (refine Ro.upd (by assumption) (by simp [*]) ?_)))))
      rename_i y4 g4 n4 y3 n3 g3 y2 n2 g2 y1 n1 g1 y0
      refine WP.st fun s0 hs => ?_
      have f0 : s0.n = 113 := by rw [hs]
      have f2 : s0.t 2 = pA y4 := by rw [hs]; simp
      have f5 : s0.t 5 = pA y2 := by rw [hs]; simp
      have f7 : s0.t 7 = .sl y0 0 4 4 true := by rw [hs]; simp
      have f93 : s0.t 93 = vi 4 := by rw [hs]; simp
      have f94 : s0.t 94 = vi 0 := by rw [hs]; simp
      have fH1 : s0.H y4 = some (.cells (oc o)) := by rw [hs]; simp [*]
      have fH2 : s0.H y2 = some (.cells (rc p)) := by rw [hs]; simp [*]
      have fH3 : ∃ cs, s0.H y0 = some (.cells cs) ∧ cs.length = 16 ∧ ∀ i, i < 4 → (cs.drop (i * 4)).take 4 = rc (lessR l i) := by
        refine ⟨_, by rw [hs]; simp only [upd_apply, if_true]; rfl, by simp, fun i hi => ?_⟩
        rcases (show i = 0 ∨ i = 1 ∨ i = 2 ∨ i = 3 by omega) with rfl | rfl | rfl | rfl <;> simp [lessR, rc]
      obtain ⟨cs, fH3, fl, fc⟩ := fH3
      have fS : Sub H s0.H := by rw [hs]; (first | exact Sub.refl _ | (repeat' (first | exact Sub.refl _ | (refine Sub.of_upd (by simp [*]) ?_))))
      have fR : Tb s0.H := by rw [hs]; (repeat' (first | assumption | (refine Ro.upd (by assumption) (by simp [*]) ?_)))
      clear hs
      refine wpc_loop (fun s => ∃ i : Nat, s.n = 113 ∧ s.H = s0.H ∧ s.t 2 = pA y4 ∧ s.t 5 = pA y2 ∧ s.t 7 = .sl y0 0 4 4 true ∧ s.t 93 = vi 4 ∧ s.t 94 = vi i ∧ i ≤ 4) (fun s => 4 - slotN (s.t 94)) ?_ ?_
      · exact FgK.same ⟨0, f0, rfl, f2, f5, f7, f93, f94, by omega⟩
      clear f0 f2 f5 f7 f93 f94 n4 n3 g3 n2 g2 n1 g1 hn_ h_
      rintro s ⟨i, e0, eH, e2, e5, e7, e93, e94, hi⟩
      by_cases hlt : i < 4
      · have q := p4 i hlt
        have fc' := fc i hlt
        have w := IntWalk.i64_in ((i : Int) + 1) (by omega)
        clear fc p4
        generalize lessR l i = le at q fc'
        have z1 : (i : Int) < 4 := by omega
        have z2 : i * 4 ≤ 12 := by omega
        cases q1 : rempty (toPhys o le) with
        | true =>
          repeat' (first | simp [*] | (with_reducible (refine newK_of fun _ h_ => ?_); have hn_ := free_ne h_; (try simp only [upd_none', ne_eq] at h_)) | with_reducible (refine (c6 ..).ac ?_) | with_reducible (refine (c5 ..).ac ?_) | with_reducible (refine (c12 ..).ac ?_) | with_reducible (refine (c11 ..).ac ?_) | with_reducible (refine (c7 ..).ac ?_) | with_reducible (refine (c9 ..).ac ?_) | with_reducible (refine (c10 ..).ac ?_) | (with_reducible refine (c8 ..).ac ?_ ?_; · (repeat' (first | assumption | (refine Ro.upd (by assumption) (by simp [*]) ?_)))))
          exact FgK.of s0.H (by (first | exact Sub.refl _ | (repeat' (first | exact Sub.refl _ | (refine Sub.of_upd (by simp [*]) ?_))))) ⟨⟨i + 1, by simp [*], rfl, by simp [*], by simp [*], by simp [*], by simp [*], by simp, by omega⟩, by simp [*]; omega⟩
        | false =>
          have q2 : rin p (toPhys o le) = false := by simpa [q1] using q
          repeat' (first | simp [*] | (with_reducible (refine newK_of fun _ h_ => ?_); have hn_ := free_ne h_; (try simp only [upd_none', ne_eq] at h_)) | with_reducible (refine (c6 ..).ac ?_) | with_reducible (refine (c5 ..).ac ?_) | with_reducible (refine (c12 ..).ac ?_) | with_reducible (refine (c11 ..).ac ?_) | with_reducible (refine (c7 ..).ac ?_) | with_reducible (refine (c9 ..).ac ?_) | with_reducible (refine (c10 ..).ac ?_) | (with_reducible refine (c8 ..).ac ?_ ?_; · (repeat' (first | assumption | (refine Ro.upd (by assumption) (by simp [*]) ?_)))))
          exact FgK.of s0.H (by (first | exact Sub.refl _ | (repeat' (first | exact Sub.refl _ | (refine Sub.of_upd (by simp [*]) ?_))))) ⟨⟨i + 1, by simp [*], rfl, by simp [*], by simp [*], by simp [*], by simp [*], by simp, by omega⟩, by simp [*]; omega⟩
      · have : i = 4 := by omega
        subst this
        repeat' (first | simp [*] | (with_reducible (refine newK_of fun _ h_ => ?_); have hn_ := free_ne h_; (try simp only [upd_none', ne_eq] at h_)) | with_reducible (refine (c6 ..).ac ?_) | with_reducible (refine (c5 ..).ac ?_) | with_reducible (refine (c12 ..).ac ?_) | with_reducible (refine (c11 ..).ac ?_) | with_reducible (refine (c7 ..).ac ?_) | with_reducible (refine (c9 ..).ac ?_) | with_reducible (refine (c10 ..).ac ?_) | (with_reducible refine (c8 ..).ac ?_ ?_; · (repeat' (first | assumption | (refine Ro.upd (by assumption) (by simp [*]) ?_)))))
  · repeat' (first | simp [*] | (with_reducible (refine newK_of fun _ h_ => ?_); have hn_ := free_ne h_; (try simp only [upd_none', ne_eq] at h_)) | (with_reducible (refine condK_of (fun h_ => ?_) (fun h_ => ?_))) | with_reducible (refine (c6 ..).ac ?_) | with_reducible (refine (c5 ..).ac ?_) | with_reducible (refine (c12 ..).ac ?_) | with_reducible (refine (c11 ..).ac ?_) | with_reducible (refine (c7 ..).ac ?_) | with_reducible (refine (c9 ..).ac ?_) | with_reducible (refine (c10 ..).ac ?_) | (with_reducible refine (c8 ..).ac ?_ ?_; · (repeat' (first | assumption | (refine Ro.upd (by assumption) (by simp [*]) ?_)))))
    all_goals ((try with_reducible refine And.intro ?_ ?_) <;> (try (repeat' (first | with_reducible exact Sub.refl _ | with_reducible refine Sub.of_upd (by simp [*]) ?_))))

theorem law_OutputCovers (xs : List AV) (hf : FitsT [(true, oL), (true, rL)] xs) : ACall Tryd.prog 3 xs (tabH 0 prodC) (fun v _ => v = vb true) := by
  match xs, hf with
  | [a, b], ⟨h1, h2, _⟩ =>
    obtain ⟨a, rfl, _⟩ := fitO h1
    obtain ⟨b, rfl⟩ := fitR h2
    exact c3 a b _ _ (tabH_ro _ _) rfl

set_option maxRecDepth 100000 in
theorem outputCovers_lifted (os : Os) (started : os.Started) (H : Type) (enc : TypeId × Value → H) :
    ReturnsInHanded {} Tryd.checked os 3 .any (fun w args => (Rows.outputCoversSpec.pre enc Tryd.prog Tryd.f3 [] false w args ∧ laidMetH Tryd.prog Rows.outputCoversRow.laid w) ∧ sizedMet enc Tryd.prog Tryd.f3 (OpenSpec.ofChange Rows.outputCoversSpec) false w args)
      (Rows.outputCoversSpec.post enc Tryd.prog Tryd.f3 false true false false) := by
  refine returnsInHanded_of_change_and (C := Tryd.checked) (X := fun w _ => laidMetH Tryd.prog Rows.outputCoversRow.laid w) (fun _ _ _ hh h => h.of_heap hh) own started (by kernel_rfl) Tryd.func3
    (ChangeSpec.witness_at (enc := enc) (C := Tryd.checked) (os := os) (X := fun w _ => laidMetH Tryd.prog Rows.outputCoversRow.laid w) false (laidWorld os) #[.agg #[.string ⟨#[]⟩, .int .i64 0, .int .i64 0, .int .i64 0, .int .i64 0, .int .i64 0, .int .i64 0, .int .i64 0], .agg #[.int .i64 0, .int .i64 0, .int .i64 0, .int .i64 0]] 8 rfl (by kernel_rfl) (by kernel_rfl) (by kernel_rfl) (by kernel_rfl) (by kernel_rfl) (laidMetH_of_parts (laidWorld_met os _) (by kernel_rfl))) ?_
  intro W base args ds gs before hval hW _ _ hL _
  have hL' : laidMet Tryd.prog [("compositor/transform.products", tabD)] W := hL
  refine law_contract_laid (L := [(true, oL), (true, rL)]) (g := 0) (m := 64) (e := tabE) (t := tabT) (by kernel_rfl) (by kernel_rfl) (by kernel_rfl) (by kernel_rfl) (by kernel_rfl) (by kernel_rfl) laidOut (by kernel_rfl) rfl (fun ds hd => ?_) ⟨_, rfl, by kernel_rfl⟩ ?_ (fun xs hf => law_OutputCovers xs hf) W hL' base args ds gs before hval hW
  · match ds, hd with
    | [d0, d1], _ => exact ⟨rfl, rfl, rfl⟩
  · exact of_decide_eq_true (by kernel_rfl)

theorem outputCovers_row : Rows.OutputCoversSaid :=
  OpenClaim.holds_of_wide 3 Tryd.f3 rfl rfl rfl rfl rfl rfl rfl ⟨rfl, rfl, rfl, rfl, rfl⟩ rfl rfl rfl rfl rfl (by kernel_rfl) Tryd.func3 (by kernel_rfl)
    (of_decide_eq_true (by kernel_rfl)) (by unfold Func.isWrapper; first | (rw [if_pos (by decide +kernel)]; kernel_rfl) | (rw [if_neg (by decide +kernel)]; exact ⟨rfl, rfl⟩))
    (fun os started H enc _ => outputCovers_lifted os started H enc)

theorem outputCovers_holds : Rows.OutputCoversCardSaid :=
  Claim7.holds_tied_plain_at .later [] [.data] true (true, "35c0d040fadd3807329064b54b7640d3be7988c4dc566dfd5c6becc5d64b3e12") false
    outputCovers_row (fun _ h => by cases h) (by kernel_rfl) (fun _ h => by cases h) outputCovers_row_tie rfl ⟨rfl, rfl⟩ (by kernel_rfl) rfl
    (fun f fn hf hfn => by
      obtain rfl : f = 3 := Option.some.inj ((show Tryd.prog.funcNamed Rows.outputCoversRow.func = some 3 by kernel_rfl).symm.trans hf) |>.symm
      obtain rfl : fn = Tryd.f3 := (Option.some.inj (Tryd.func3.symm.trans hfn)).symm
      refine ⟨by kernel_rfl, fun j t ht => ?_⟩
      have h : (Tryd.f3.params.toList.all fun t => !Tryd.prog.wantsStandIn t) = true := by kernel_rfl
      have := List.all_eq_true.1 h t (by rw [Array.mem_toList_iff]; exact Array.mem_of_getElem? ht)
      have h2 : Tryd.prog.wantsStandIn t = false := by simpa using this
      exact h2)
    (by kernel_rfl)
end Go.Proofs.YtohedpgoioemnaaDoor
