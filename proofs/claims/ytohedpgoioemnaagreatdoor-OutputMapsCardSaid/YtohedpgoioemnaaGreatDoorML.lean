/-
  Several texts in one: XTie; N5. Conditions: as each lemma states them.
-/
import Derived.Test.YtohedpgoioemnaaGreatDoorMO
import Derived.Test.YtohedpgoioemnaaGreatDoorAbT
import Derived.Test.YtohedpgoioemnaaGreatDoorXRow
import Derived.Test.YtohedpgoioemnaaGreatDoorRows
import Derived.Test.YtohedpgoioemnaaGreatDoorCards
import Derived.Test.YtohedpgoioemnaaGreatDoorTie
import Derived.WalkKit
import Derived.ProofKit
import Derived.SevenTiedAt
import Derived.LaidHandle
import Derived.Test.YtohedpgoioemnaaGreatDoorMX
/-! The table of products as the row's premise has it: a world that meets the premise. No conditions. -/
section
namespace Go.Proofs.YtohedpgoioemnaaGreatDoor
open Go Go.Ab Go.RowKit Go.ChangeShapes Go.WideShapes Go.ChangeAt
set_option linter.unusedSimpArgs false
set_option linter.unusedVariables false
set_option linter.unnecessarySimpa false


def tabCells : Array Value := (prodT.map (Value.int .i64)).toArray
noncomputable def laidWorld (os : Os) : World :=
  { World.holding Tryz.prog os ⟨#[], #[], []⟩ with heap := (World.holding Tryz.prog os ⟨#[], #[], []⟩).heap.modify 0 fun
      | .cells _ t frozen => .cells tabCells t frozen
      | o => o }
noncomputable def tabT : TypeId := ((Tryz.prog.globals[0]?).map (·.type)).getD 0
noncomputable def tabE : TypeId := match Tryz.prog.underlying tabT with
  | some (.array _ e) => e
  | _ => 0
theorem laidWorld_row (os : Os) (args : Array Value) : ((laidWorld os).forCall (fun _ _ => 0) ⟨#[], args, []⟩).memory.heap[0]? = some (.cells tabCells tabT (0, 0)) := by kernel_rfl
abbrev tabD {H : Type} : DataW H := .agg (prodT.map fun z => .lit (.int .i64 z))
theorem tabD_eq {H : Type} : (Rows.laid_compositor_transform_products : DataW H) = tabD := rfl
def tabPs : List MemPlace := MemPlace.row ⟨0, 0, none⟩ tabCells.size ++ [] ++ []
theorem tab_block {b off : Nat} (h : MemPlace.cell b off ∈ tabPs) : b = 0 := by
  have h1 : (tabPs.all fun x => match x with | .cell b _ => b == 0 | _ => true) = true := by kernel_rfl
  have := List.all_eq_true.1 h1 _ h
  simpa using this
theorem laidWorld_met (os : Os) (args : Array Value) : laidMet Tryz.prog [("compositor/transform.products", tabD)] ((laidWorld os).forCall (fun _ _ => 0) ⟨#[], args, []⟩).memory := by
  refine ⟨tabPs, ⟨0, tabT, tabCells, 8, [], [], by kernel_rfl, by kernel_rfl, by kernel_rfl, by kernel_rfl, rfl, rfl⟩, of_decide_eq_true (by kernel_rfl), fun b off h => ?_⟩
  obtain rfl := tab_block h
  refine ⟨⟨_, _, laidWorld_row os args⟩, fun u v hc => ?_⟩
  simp only [World.cell?, laidWorld_row os args] at hc
  have hc' : (prodT.map (Value.int .i64))[off]? = some (.iface u v) := by simpa [tabCells] using hc
  rw [List.getElem?_map] at hc'
  cases e : prodT[off]? with
  | none => rw [e] at hc'; cases hc'
  | some z => rw [e] at hc'; cases hc'
end Go.Proofs.YtohedpgoioemnaaGreatDoor
end

/-! OutputMaps: for every output, rectangle and list of rectangles the law returns true; the table of products is tied to the program's text. No conditions: every input that the row admits. -/
section
namespace Go.Proofs.YtohedpgoioemnaaGreatDoor
open Go Go.Ab Go.RowKit Go.ChangeShapes Go.WideShapes Go.ChangeAt
set_option linter.unusedSimpArgs false
set_option linter.unusedVariables false
set_option linter.unnecessarySimpa false

attribute [local simp] condK_true condK_false condK_not wpc_skip wpc_ret wpc_exit wpc_seq wpc_reg wpc_regD testA_bool wpc_cond wpc_block thenA_normal thenA_ret thenA_exit blockA_normal blockA_ret blockA_exit blockA_other endA_normal endA_ret ev_tmp' ev_const ev_func ev_global cv_int cv_bool cv_string cv_pointer cv_slice cv_agg cv_map put_some put_none wH_s setE_apply setE_env less_eq env_cons env_nil upd_upd upd_apply del_apply startA_eq cells_ag cells_sl one_sl cells_vs one_vs cells_ep one_ep cells_fn one_fn cells_int one_int cells_bool one_bool cells_string one_string cells_pointer one_pointer cells_slice one_slice cells_map one_map cells_agg resK_one resK_nil resK_two rvK_t rvK_c rvsK_nil rvsK_cons iseq_nil iseq_cons gdA_true gdA_false gdA_undef istep_free istep_guard istepV_free istepV_guard dseq_nil dseq_pu dseq_rd dseq_ef wpc_regT dtree_nil dtree_pu dtree_rd dtree_ef dtree_br chkAll_nil chkAll_cons andK_true pickK_true pickK_false pickK_tb pickK_fb bin2K_pl eqbK_eq eqbK_ne eqpK_eq eqpK_ne eqmK_eq eqmK_ne eqzK_eq eqzK_ne eqzK_sl eqzK_vs un1K_pl convK_int fillK_some fillA_cons fillA_nil cellsK_some needK_true needK_ok seeK_ep seeK_ptr oneK_agg oneK_one nilcK_ptr nilcK_ep fadrK_ptr fadrK_ep fldK_ag iadAK_ptr iadAK_ep iadSK_sl iadSK_vs extK_0 extK_1 extK_2 extK_3 lenK_pl lenK_sl lenK_vs lensK_pl boxK_some minmax1K_int storeK_ptr callvK_fn callvK_pl newsK_nil newsK_vs newsK_sl appK_nil appK_nil0 appK_sl appK_vs bnd1K_int bndK_none bndK_some slsK_vs slsK_nil slsK_sl0 slsK_sl slstrK_pl boolK_some eqsK_ag iop_eqs iop_sls iop_slstr seesK_some seesK_ro mapsK_some MAP_some findK_some findK_none plK_pl nmapK_none nmapK_some iop_mlook iop_mlen iop_mmk iop_mupd iop_mdel iop_mrng itK_none itK_some ptr0K_ptr iop_mnxt iop_ment it1K_some entK_some iop_mov iop_pick iop_bin iop_eqb iop_eqp iop_eqm iop_eqz iop_un capK_pl capK_sl capK_vs iop_cap apzK_nil iop_apz mksK_int iop_mks clrK_sl clrK_vs clrK_nil iop_clr iop_conv iop_build iop_load iop_nilc iop_fadr iop_fld iop_iadA iop_iadS iop_ext iop_mkf iop_len iop_lens iop_minmax iop_al iop_box iop_bsl iop_store iop_call iop_callv iop_app BIN_add BIN_sub BIN_mul BIN_and BIN_or BIN_xor BIN_andNot BIN_eql BIN_neq BIN_lss BIN_leq BIN_gtr BIN_geq BIN_quo BIN_rem BIN_shl BIN_shr BIN_sadd BIN_seql BIN_sneq BIN_slss BIN_sleq BIN_sgtr BIN_sgeq UN_neg UN_xor UN_not MM_nil MM_cons partsA argsA ptrA lessL eqL min2I slotN_int slotP_int slotI_int
attribute [local simp] rc_len rc_t4 rc_t1 rc_t2 rc_t3 rc_d1 rc_d2 rc_d3 rc_d4 rc_ag rc_one rc_eq pc_len pc_t1 pc_t2 pc_d1 pc_d2 pc_ag pc_one oc_len oc_tt oc_dd oc_one oc_ag oc_t1 oc_t2 oc_t3 oc_t4 oc_t5 oc_t6 oc_t7 oc_d1 oc_d2 oc_d3 oc_d4 oc_d5 oc_d6 oc_d7 min2_t min2_f

theorem c3 (o : O) (r : R) (l : List R) : PT Tryz.prog 3 [.ag (oc o), .ag (rc r), .vs l.length false (flat rc l)] (vb true) := by
  refine .tell fun H hTb => ?_
  refine call_c follows cf3_ok (by simp) ?_
  by_cases hs : (1000 : Int) < o.nm.size
  · repeat' (first | simp [*] | (with_reducible (refine newK_of fun _ h_ => ?_); have hn_ := free_ne h_; (try simp only [upd_none', ne_eq] at h_)) | (with_reducible (refine condK_of (fun h_ => ?_) (fun h_ => ?_))) | with_reducible (refine (c4).ac ?_))
    all_goals ((try with_reducible refine And.intro ?_ ?_) <;> (try (repeat' (first | with_reducible exact Sub.refl _ | with_reducible refine Sub.of_upd (by simp [*]) ?_))))
  by_cases hl : (20 : Int) < l.length
  · repeat' (first | simp [*] | (with_reducible (refine newK_of fun _ h_ => ?_); have hn_ := free_ne h_; (try simp only [upd_none', ne_eq] at h_)) | (with_reducible (refine condK_of (fun h_ => ?_) (fun h_ => ?_))) | with_reducible (refine (c4).ac ?_))
    all_goals ((try with_reducible refine And.intro ?_ ?_) <;> (try (repeat' (first | with_reducible exact Sub.refl _ | with_reducible refine Sub.of_upd (by simp [*]) ?_))))
  simp
  refine newK_of fun p hp => ?_
  simp
  refine newK_of fun q hq => ?_
  have n1 := free_ne hq p (by simp [upd_apply])
  have hqH : H q = none := by simp only [upd_apply] at hq; split at hq <;> simp_all
  have hS : Sub H (upd (upd H p (.cells (oc o))) q (.cells (rc r))) := ((Sub.refl H).upd hp).upd hqH
  have e1 : upd (upd H p (.cells (oc o))) q (.cells (rc r)) p = some (.cells (oc o)) := by simp [upd_apply, n1]
  have e2 : upd (upd H p (.cells (oc o))) q (.cells (rc r)) q = some (.cells (rc r)) := by simp [upd_apply]
  simp [hs, hl, n1]
  generalize upd (upd H p (.cells (oc o))) q (.cells (rc r)) = G at *
  refine c5 (l := l) (Rw.vs _ (flat_len rc_l _)) (by omega) fun o1 H1 h1 => ?_
  have f1 := h1.sub.at e1
  have f2 := h1.sub.at e2
  have r1 : Rr H1 o1 (prL o l) := (h1.rin (flat_len rc_l _)).rd
  have c1 := Rw.cells r1
  simp [f1, c1]
  refine c6 (l := l) (Rw.vs _ (flat_len rc_l _)) (by omega) fun o2 H2 h2 => ?_
  have g1 := h2.sub.at f1
  have g2 := h2.sub.at f2
  have r2 : Rr H2 o2 (prL o l) := (h2.rin (flat_len rc_l _)).rd
  have r1 := Rw.sub r1 h2.sub
  have c2 := Rw.cells r2
  have hle := prL_len o l
  have hSS := (hS.trans h1.sub).trans h2.sub
  simp [g1, g2, c2]
  refine (c7 o r).ac ?_
  simp [g1, g2]
  refine (c8 o r).ac ?_
  simp [g1, g2, req_refl]
  refine (c9 o r).ac (hSS _ _ hTb) ?_
  simp [g1, g2, req_refl]
  refine (c10 o r).ac ?_
  simp [g1, g2, req_refl]
  refine c11 r1 r2 (by omega) ?_
  simp [g1, g2, req_refl]
  refine (c4).ac ?_
  simp
  exact hSS
theorem fitRs {a : AV} (h : FitT false [.sl rL] a) : ∃ l : List R, a = .vs l.length false (flat rc l) := by
  obtain ⟨n, cs, rfl, hn, hl, hf⟩ := (FitL.one_inv h).sl_inv
  obtain ⟨l, rfl, rfl⟩ := FitL.elems (enc := rc) (by decide) (fun cs h => by
    obtain ⟨r, hr⟩ := fitR (a := .ag cs) ⟨cs, rfl, h⟩
    exact ⟨r, by injection hr⟩) n cs hl hf
  exact ⟨l, rfl⟩
theorem law_OutputMaps (xs : List AV) (hf : FitsT [(true, oL), (true, rL), (false, [.sl rL])] xs) : ACall Tryz.prog 3 xs (tabH 0 prodC) (fun v _ => v = vb true) := by
  match xs, hf with
  | [a, b, c], ⟨h1, h2, h3, _⟩ =>
    obtain ⟨a, rfl, _⟩ := fitO h1
    obtain ⟨b, rfl⟩ := fitR h2
    obtain ⟨c, rfl⟩ := fitRs h3
    exact c3 a b c _ _ (tabH_ro _ _) rfl
set_option maxRecDepth 100000

set_option maxRecDepth 100000 in
theorem outputMaps_lifted (os : Os) (started : os.Started) (H : Type) (enc : TypeId × Value → H) :
    ReturnsInHanded {} Tryz.checked os 3 .any (fun w args => (Rows.outputMapsSpec.pre enc Tryz.prog Tryz.f3 [] false w args ∧ laidMetH Tryz.prog Rows.outputMapsRow.laid w) ∧ sizedMet enc Tryz.prog Tryz.f3 (OpenSpec.ofChange Rows.outputMapsSpec) false w args)
      (Rows.outputMapsSpec.post enc Tryz.prog Tryz.f3 false true false false) := by
  refine returnsInHanded_of_change_and (C := Tryz.checked) (X := fun w _ => laidMetH Tryz.prog Rows.outputMapsRow.laid w) (fun _ _ _ hh h => h.of_heap hh) own started (by kernel_rfl) Tryz.func3
    (ChangeSpec.witness_at (enc := enc) (C := Tryz.checked) (os := os) (X := fun w _ => laidMetH Tryz.prog Rows.outputMapsRow.laid w) false (laidWorld os) #[.agg #[.string ⟨#[]⟩, .int .i64 0, .int .i64 0, .int .i64 0, .int .i64 0, .int .i64 0, .int .i64 0, .int .i64 0], .agg #[.int .i64 0, .int .i64 0, .int .i64 0, .int .i64 0], .slice none 0 0] 8 rfl (by kernel_rfl) (by kernel_rfl) (by kernel_rfl) (by kernel_rfl) (by kernel_rfl) (laidMetH_of_parts (laidWorld_met os _) (by kernel_rfl))) ?_
  intro W base args ds gs before hval hW _ _ hL _
  have hL' : laidMet Tryz.prog [("compositor/transform.products", tabD)] W := hL
  refine law_contract_laid (L := [(true, oL), (true, rL), (false, [.sl rL])]) (g := 0) (m := 64) (e := tabE) (t := tabT) (by kernel_rfl) (by kernel_rfl) (by kernel_rfl) (by kernel_rfl) (by kernel_rfl) (by kernel_rfl) laidOut (by kernel_rfl) rfl (fun ds hd => ?_) ⟨_, rfl, by kernel_rfl⟩ ?_ (fun xs hf => law_OutputMaps xs hf) W hL' base args ds gs before hval hW
  · match ds, hd with
    | [d0, d1, d2], _ => exact ⟨rfl, rfl, rfl⟩
  · exact of_decide_eq_true (by kernel_rfl)

theorem outputMaps_row : Rows.OutputMapsSaid :=
  OpenClaim.holds_of_wide 3 Tryz.f3 rfl rfl rfl rfl rfl rfl rfl ⟨rfl, rfl, rfl, rfl, rfl⟩ rfl rfl rfl rfl rfl (by kernel_rfl) Tryz.func3 (by kernel_rfl)
    (of_decide_eq_true (by kernel_rfl)) (by unfold Func.isWrapper; first | (rw [if_pos (by decide +kernel)]; kernel_rfl) | (rw [if_neg (by decide +kernel)]; exact ⟨rfl, rfl⟩))
    (fun os started H enc _ => outputMaps_lifted os started H enc)

theorem outputMaps_holds : Rows.OutputMapsCardSaid :=
  Claim7.holds_tied_plain_at .later [] [.data] true (true, "102cd6908036503040aa3864aa7863083c682603dcbb5a0447fdff33e04e9418") false
    outputMaps_row (fun _ h => by cases h) (by kernel_rfl) (fun _ h => by cases h) outputMaps_row_tie rfl ⟨rfl, rfl⟩ (by kernel_rfl) rfl
    (fun f fn hf hfn => by
      obtain rfl : f = 3 := Option.some.inj ((show Tryz.prog.funcNamed Rows.outputMapsRow.func = some 3 by kernel_rfl).symm.trans hf) |>.symm
      obtain rfl : fn = Tryz.f3 := (Option.some.inj (Tryz.func3.symm.trans hfn)).symm
      refine ⟨by kernel_rfl, fun j t ht => ?_⟩
      have h : (Tryz.f3.params.toList.all fun t => !Tryz.prog.wantsStandIn t) = true := by kernel_rfl
      have := List.all_eq_true.1 h t (by rw [Array.mem_toList_iff]; exact Array.mem_of_getElem? ht)
      have h2 : Tryz.prog.wantsStandIn t = false := by simpa using this
      exact h2)
    (by kernel_rfl)
end Go.Proofs.YtohedpgoioemnaaGreatDoor
end
