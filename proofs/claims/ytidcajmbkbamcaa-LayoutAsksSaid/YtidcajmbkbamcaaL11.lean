/-
  LayoutRefused: for every run and call the law returns true, and its arguments read as they did. No conditions: every input that the row admits.
-/
import Derived.Test.YtidcajmbkbamcaaL10
import Derived.Test.YtidcajmbkbamcaaXRow
import Derived.Test.YtidcajmbkbamcaaRows
import Derived.WalkKit
import Derived.ProofKit
namespace Go.Proofs.Ytidcajmbkbamcaa
open Go Go.Ab Go.RowKit Go.ChangeShapes Go.WideShapes Go.ChangeAt
set_option linter.unusedSimpArgs false
set_option linter.unusedVariables false
set_option linter.unnecessarySimpa false

attribute [local simp] condK_true condK_false condK_not wpc_skip wpc_ret wpc_exit wpc_seq wpc_reg wpc_regD testA_bool wpc_cond wpc_block thenA_normal thenA_ret thenA_exit blockA_normal blockA_ret blockA_exit blockA_other endA_normal endA_ret ev_tmp' ev_const ev_func ev_global cv_int cv_bool cv_string cv_pointer cv_slice cv_agg put_some put_none wH_s setE_apply setE_env less_eq env_cons env_nil upd_upd upd_apply del_apply startA_eq cells_ag cells_sl one_sl cells_vs one_vs cells_ep one_ep cells_fn one_fn cells_int one_int cells_bool one_bool cells_string one_string cells_pointer one_pointer cells_slice one_slice cells_map one_map cells_agg resK_one resK_nil resK_two rvK_t rvK_c rvsK_nil rvsK_cons iseq_nil iseq_cons gdA_true gdA_false gdA_undef istep_free istep_guard istepV_free istepV_guard dseq_nil dseq_pu dseq_rd dseq_ef chkAll_nil chkAll_cons andK_true pickK_true pickK_false pickK_tb pickK_fb bin2K_pl eqbK_eq eqbK_ne eqpK_eq eqpK_ne un1K_pl convK_int fillK_some fillA_cons fillA_nil cellsK_some needK_true needK_ok seeK_ep seeK_ptr oneK_agg oneK_one nilcK_ptr nilcK_ep fadrK_ptr fadrK_ep fldK_ag iadAK_ptr iadAK_ep iadSK_sl iadSK_vs extK_0 extK_1 extK_2 extK_3 lenK_pl lenK_sl lenK_vs lensK_pl boxK_some minmax1K_int storeK_ptr callvK_fn callvK_pl newsK_nil newsK_vs newsK_sl appK_nil appK_nil0 appK_sl appK_vs bnd1K_int bndK_none bndK_some slsK_vs slsK_nil slsK_sl0 slsK_sl slstrK_pl boolK_some eqsK_ag iop_eqs iop_sls iop_slstr seesK_some seesK_ro mapsK_some MAP_some findK_some findK_none plK_pl nmapK_none nmapK_some iop_mlook iop_mlen iop_mmk iop_mupd iop_mdel iop_mrng itK_none itK_some ptr0K_ptr iop_mnxt iop_ment it1K_some entK_some iop_mov iop_pick iop_bin iop_eqb iop_eqp iop_un iop_conv iop_build iop_load iop_nilc iop_fadr iop_fld iop_iadA iop_iadS iop_ext iop_mkf iop_len iop_lens iop_minmax iop_al iop_box iop_bsl iop_store iop_call iop_callv iop_app BIN_add BIN_sub BIN_mul BIN_and BIN_or BIN_xor BIN_andNot BIN_eql BIN_neq BIN_lss BIN_leq BIN_gtr BIN_geq BIN_quo BIN_rem BIN_shl BIN_shr BIN_sadd BIN_seql BIN_sneq BIN_slss BIN_sleq BIN_sgtr BIN_sgeq UN_neg UN_xor UN_not MM_nil MM_cons partsA argsA ptrA lessL eqL min2I slotN_int slotP_int slotI_int
attribute [local simp] oc_len oc_tt oc_dd oc_one oc_ag oc_t1 oc_t2 oc_t3 oc_t4 oc_t5 oc_t6 oc_t7 oc_d1 oc_d2 oc_d3 oc_d4 oc_d5 oc_d6 oc_d7 opq_len opq_tt opq_dd opq_one opq_ag opq_t1 opq_t2 opq_t3 opq_t4 opq_t5 opq_t6 opq_t7 opq_t8 opq_d1 opq_d2 opq_d3 opq_d4 opq_d5 opq_d6 opq_d7 opq_d8 rc_len rc_t4 rc_t1 rc_t2 rc_t3 rc_d1 rc_d2 rc_d3 rc_d4 rc_ag rc_one rc_eq min2_t min2_f

theorem oc_eq (a b : O) : eqL [2, 1, 1, 1, 1, 1, 1, 1] (oc a) (oc b) = some (eqO a b) := by simp [oc, eqL, eqO]
theorem eqO_refl (a : O) : eqO a a = true := by simp [eqO]
theorem rowIn_upo {H : AH} {p b : Nat} {m m' : List O} {st st' : List Nat} {cl cl' : Nat} {out : AV} {cs : List AV} {n sz : Nat} (hb : LS H p b m st cl) (h : RowIn H out cs n sz) : RowIn (upo H b m' st' cl') out cs n sz := by
  rcases h with ⟨hl, ⟨h0, rfl⟩ | ⟨r, f, rfl, hr⟩⟩
  · exact ⟨hl, .inl ⟨h0, rfl⟩⟩
  · refine ⟨hl, .inr ⟨r, f, rfl, ?_⟩⟩
    have : r ≠ b := by rintro rfl; rw [hb.mp] at hr; cases hr
    simp only [upo, upd_apply, if_neg this]; exact hr
theorem delM_len {m : List O} {s : ByteArray} (hn : (m.map okey).Nodup) (h : has m s = true) : (delM m s).length + 1 = m.length := by
  rcases splitS okey s m with e | ⟨m1, x, m2, rfl, e1, e2⟩
  · rw [has_none e] at h; cases h
  · rw [delM_mid hn e2]; simp; omega
theorem doM_good {m : List O} {x : Op} (hn : (m.map okey).Nodup) (h : doE m x = 0) : (x.k = 1 → (doM m x).length = m.length + 1) ∧ (x.k = 2 → (doM m x).length + 1 = m.length) := by
  constructor
  · intro c
    rw [doE, if_pos c] at h
    rw [doM, if_pos c, plugM, if_pos h]; simp
  · intro c
    have c1 : ¬ x.k = 1 := by omega
    rw [doE, if_neg c1, if_pos c] at h
    rw [doM, if_neg c1, if_pos c]
    refine delM_len hn ?_
    unfold delE at h
    split at h
    · assumption
    · cases h
theorem c6 (l : List Op) (x : Op) : PC Try.prog 6 [.vs l.length false (flat opq l), .ag (opq x)] (vb true) := by
  refine .tell fun H => ?_
  refine call_c follows cf6_ok (by simp) ?_
  simp
  refine newK_of fun z hz => ?_
  have hz1 : Sub H (upd H z (.cells (opq x))) := (Sub.refl H).upd hz
  have hzz : upd H z (.cells (opq x)) z = some (.cells (opq x)) := by simp [upd_apply]
  generalize upd H z (.cells (opq x)) = H0 at *
  by_cases d1 : (60 : Int) < l.length
  · simp [d1]
    refine (c9).ac ?_
    simp
    exact hz1
  simp [d1]
  refine c13 l (by omega) fun p b st cl H1 hs1 hb0 hG => ?_
  have hrl := run_len l []
  have hml : (run l).length ≤ 60 := by unfold run; simp at hrl; omega
  have hbH : H b = none := hz1.none_of hb0
  have hSz := hs1.at hzz
  have hS1 := hz1.trans hs1
  generalize run l = m at *
  simp
  refine c15 hG (by omega) fun o1 H2 r1 => ?_
  have hG2 := hG.sub r1.sub
  have hz2 := r1.sub.at hSz
  have hS2 := hS1.trans r1.sub
  have q1 := r1.rin (by rw [oc_flat_len])
  have hbz : z ≠ b := by rintro rfl; rw [hG2.mp] at hz2; cases hz2
  simp [hz2]
  refine c17 x hG2 fun st' cl' g => ?_
  have q2 : RowIn (upo H2 b (doM m x) st' cl') o1 _ _ _ := rowIn_upo hG2 q1
  have hz3 : upo H2 b (doM m x) st' cl' z = some (.cells (opq x)) := by simp only [upo, upd_apply, if_neg hbz]; exact hz2
  have hS3 : Sub H (upo H2 b (doM m x) st' cl') := hS2.upd hbH
  have hml2 := doM_len m x
  generalize upo H2 b (doM m x) st' cl' = H3 at *
  simp
  refine c15 g (by omega) fun o2 H4 r4 => ?_
  have q4 := r4.rin (by rw [oc_flat_len])
  have q3 := q2.sub r4.sub
  have hz4 := r4.sub.at hz3
  have hS4 := hS3.trans r4.sub
  have l3 := fun k => q3.lenK (k := k)
  have l4 := fun k => q4.lenK (k := k)
  by_cases c1 : doE m x = 0
  · rw [souts_len] at l3 l4
    obtain ⟨k1, k2⟩ := doM_good hG.nd c1
    have w1 := IntWalk.i64_in ((m.length : Int) + 1) (by omega)
    have w2 := IntWalk.i64_in ((m.length : Int) - 1) (by omega)
    by_cases c2 : x.k = 1
    · have e1 : ((doM m x).length : Int) = m.length + 1 := by have := k1 c2; omega
      simp [c1, hz4, c2, l3, l4, w1, e1]
      refine (c9).ac ?_
      simp
      exact hS4
    · by_cases c3 : x.k = 2
      · have e1 : ((doM m x).length : Int) = m.length - 1 := by have := k2 c3; omega
        simp [c1, hz4, c2, c3, l3, l4, w2, e1]
        refine (c9).ac ?_
        simp
        exact hS4
      · simp [c1, hz4, c2, c3, l3, l4]
        refine (c9).ac ?_
        simp
        exact hS4
  · have e1 : doM m x = m := doM_bad c1
    rw [e1] at l4 q4
    simp [c1, l3, l4]
    have hNl : (souts m).length ≤ 1000000 := by rw [souts_len]; omega
    generalize souts m = N at *
    refine wpc_loop (fun s => ∃ i : Nat, s.n = 75 ∧ s.H = H4 ∧ s.t 6 = o1 ∧ s.t 8 = o2 ∧ s.t 9 = vi i ∧ i ≤ N.length) (fun s => N.length - slotN (s.t 9)) ?_ ?_
    · exact FgK.same ⟨0, by simp, by simp, by simp, by simp, by simp, by omega⟩
    rintro s ⟨i, hn, hH, e6, e8, e9, hi⟩
    have w := IntWalk.i64_in ((i : Int) + 1) (by omega)
    by_cases hlt : i < N.length
    · have hd := oc_at hlt
      have hbd : i * 8 + 8 ≤ (flat oc N).length := by rw [oc_flat_len]; omega
      generalize N[i] = y at hd
      obtain ⟨qa, f, rfl, hq⟩ := q3.sl (by omega)
      obtain ⟨qb, f2, rfl, hq2⟩ := q4.sl (by omega)
      simp (disch := omega) [hn, hH, e6, e8, e9, hlt, hq, hq2, hd, hbd, oc_eq, eqO_refl, w]
      exact FgK.same ⟨⟨i + 1, by simp [hn], by simp [hH], by simp [e6], by simp [e8], by simp, by omega⟩, by simp [e9]; omega⟩
    · simp (disch := omega) [hn, hH, e6, e8, e9, l3, l4, hlt]
      refine (c9).ac ?_
      simp
      exact hS4
abbrev opqL : List Lf := [.i .i64, .s, .i .i64, .i .i64, .i .i64, .i .i64, .i .i64, .i .i64, .i .i64]
theorem fitOpq {cs : List AV} (h : FitL opqL cs) : ∃ x : Op, cs = opq x := by
  obtain ⟨_, _, rfl, h0, h⟩ := h.cons_inv
  obtain ⟨_, _, rfl, h1, h⟩ := h.cons_inv
  obtain ⟨_, _, rfl, h2, h⟩ := h.cons_inv
  obtain ⟨_, _, rfl, h3, h⟩ := h.cons_inv
  obtain ⟨_, _, rfl, h4, h⟩ := h.cons_inv
  obtain ⟨_, _, rfl, h5, h⟩ := h.cons_inv
  obtain ⟨_, _, rfl, h6, h⟩ := h.cons_inv
  obtain ⟨_, _, rfl, h7, h⟩ := h.cons_inv
  obtain ⟨_, _, rfl, h8, h⟩ := h.cons_inv
  obtain rfl := h.nil_inv
  obtain ⟨_, rfl, _⟩ := h0.i_inv
  obtain ⟨_, rfl, _⟩ := h1.s_inv
  obtain ⟨_, rfl, _⟩ := h2.i_inv
  obtain ⟨_, rfl, _⟩ := h3.i_inv
  obtain ⟨_, rfl, _⟩ := h4.i_inv
  obtain ⟨_, rfl, _⟩ := h5.i_inv
  obtain ⟨_, rfl, _⟩ := h6.i_inv
  obtain ⟨_, rfl, _⟩ := h7.i_inv
  obtain ⟨_, rfl, _⟩ := h8.i_inv
  exact ⟨⟨_, _, _, _, _, _, _, _, _⟩, rfl⟩
theorem fitOps {a : AV} (h : FitT false [.sl opqL] a) : ∃ l : List Op, a = .vs l.length false (flat opq l) := by
  obtain ⟨n, cs, rfl, hn, hl, hf⟩ := (FitL.one_inv h).sl_inv
  obtain ⟨l, rfl, rfl⟩ := FitL.elems (enc := opq) (by decide) (fun cs h => fitOpq h) n cs hl hf
  exact ⟨l, rfl⟩
theorem law_LayoutRefused (xs : List AV) (hf : FitsT [(false, [.sl opqL]), (true, opqL)] xs) : ACall Try.prog 6 xs (fun _ => none) (fun v _ => v = vb true) := by
  match xs, hf with
  | [a, b], ⟨h1, h2, _⟩ =>
    obtain ⟨l, rfl⟩ := fitOps h1
    obtain ⟨cs, rfl, h2⟩ := h2
    obtain ⟨x, rfl⟩ := fitOpq h2
    exact (c6 l x).same rfl
set_option maxRecDepth 100000

theorem layoutRefused_lifted (os : Os) (started : os.Started) (H : Type) (enc : TypeId × Value → H) :
    ReturnsInHanded {} Try.checked os 6 .any (Rows.layoutRefusedSpec.pre6 enc Try.prog Try.f6 Rows.layoutRefusedRow.domain false) (Rows.layoutRefusedSpec.post enc Try.prog Try.f6 false true false false) := by
  refine returnsInHanded_of_change_sized (C := Try.checked) own started (by kernel_rfl) Try.func6
    (ChangeSpec.witness6 (enc := enc) (C := Try.checked) false ⟨#[], #[.slice none 0 0, .agg #[.int .i64 0, .string ⟨#[]⟩, .int .i64 0, .int .i64 0, .int .i64 0, .int .i64 0, .int .i64 0, .int .i64 0, .int .i64 0]], []⟩ 8 (by kernel_rfl) (by kernel_rfl) (by kernel_rfl) (by kernel_rfl)) ?_
  intro W base args ds gs before hval hW _ _ _
  refine law_contract (L := [(false, [.sl opqL]), (true, opqL)]) laidOut (by kernel_rfl) rfl (fun ds hd => ?_) ⟨_, rfl, by kernel_rfl⟩ ?_ (fun xs hf => law_LayoutRefused xs hf) W base args ds gs before hval hW
  · match ds, hd with
    | [d0, d1], _ => exact ⟨rfl, rfl, rfl⟩
  · exact of_decide_eq_true (by kernel_rfl)

theorem layoutRefused_holds : Rows.LayoutRefusedSaid :=
  OpenClaim.holds_of_wide 6 Try.f6 rfl rfl rfl rfl rfl rfl rfl ⟨rfl, rfl, rfl, rfl, rfl⟩ rfl rfl rfl rfl rfl (by kernel_rfl) Try.func6 (by kernel_rfl)
    (of_decide_eq_true (by kernel_rfl)) (by unfold Func.isWrapper; first | (rw [if_pos (by decide +kernel)]; kernel_rfl) | (rw [if_neg (by decide +kernel)]; exact ⟨rfl, rfl⟩))
    (fun os started H enc _ => layoutRefused_lifted os started H enc)
end Go.Proofs.Ytidcajmbkbamcaa
