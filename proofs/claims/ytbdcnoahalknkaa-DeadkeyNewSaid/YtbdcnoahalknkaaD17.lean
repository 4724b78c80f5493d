/-
  DeadkeyPending and DeadkeyRest, walked: the laws return true. Conditions: as the theorems state them.
-/
import Derived.Test.YtbdcnoahalknkaaD16
namespace Go.Proofs.Ytbdcnoahalknkaa
open Go Go.Ab Go.RowKit
set_option linter.unusedSimpArgs false
set_option linter.unusedVariables false
set_option linter.unnecessarySimpa false

attribute [local simp] condK_true condK_false condK_not wpc_skip wpc_ret wpc_exit wpc_seq wpc_reg wpc_regD testA_bool wpc_cond wpc_block thenA_normal thenA_ret thenA_exit blockA_normal blockA_ret blockA_exit blockA_other endA_normal endA_ret ev_tmp' ev_const ev_func ev_global cv_int cv_bool cv_string cv_pointer cv_slice cv_agg cv_map put_some put_none wH_s setE_apply setE_env less_eq env_cons env_nil upd_upd upd_apply del_apply startA_eq cells_ag cells_sl one_sl cells_vs one_vs cells_ep one_ep cells_fn one_fn cells_int one_int cells_bool one_bool cells_string one_string cells_pointer one_pointer cells_slice one_slice cells_map one_map cells_agg resK_one resK_nil resK_two rvK_t rvK_c rvsK_nil rvsK_cons iseq_nil iseq_cons gdA_true gdA_false gdA_undef istep_free istep_guard istepV_free istepV_guard dseq_nil dseq_pu dseq_rd dseq_ef wpc_regT dtree_nil dtree_pu dtree_rd dtree_ef dtree_br chkAll_nil chkAll_cons andK_true pickK_true pickK_false pickK_tb pickK_fb bin2K_pl eqbK_eq eqbK_ne eqpK_eq eqpK_ne eqmK_eq eqmK_ne eqzK_eq eqzK_ne eqzK_sl eqzK_vs un1K_pl convK_int fillK_some fillA_cons fillA_nil cellsK_some needK_true needK_ok seeK_ep seeK_ptr oneK_agg oneK_one nilcK_ptr nilcK_ep fadrK_ptr fadrK_ep fldK_ag iadAK_ptr iadAK_ep iadSK_sl iadSK_vs extK_0 extK_1 extK_2 extK_3 lenK_pl lenK_sl lenK_vs lensK_pl boxK_some minmax1K_int storeK_ptr callvK_fn callvK_pl newsK_nil newsK_vs newsK_sl appK_nil appK_nil0 appK_sl appK_vs bnd1K_int bndK_none bndK_some slsK_vs slsK_nil slsK_sl0 slsK_sl slstrK_pl boolK_some eqsK_ag iop_eqs iop_sls iop_slstr seesK_some seesK_ro mapsK_some MAP_some findK_some findK_none plK_pl nmapK_none nmapK_some iop_mlook iop_mlen iop_mmk iop_mupd iop_mdel iop_mrng itK_none itK_some ptr0K_ptr iop_mnxt iop_ment it1K_some entK_some iop_mov iop_pick iop_bin iop_eqb iop_eqp iop_eqm iop_eqz iop_un iop_conv iop_build iop_load iop_nilc iop_fadr iop_fld iop_iadA iop_iadS iop_ext iop_mkf iop_len iop_lens iop_minmax iop_al iop_box iop_bsl iop_store iop_call iop_callv iop_app BIN_add BIN_sub BIN_mul BIN_and BIN_or BIN_xor BIN_andNot BIN_eql BIN_neq BIN_lss BIN_leq BIN_gtr BIN_geq BIN_quo BIN_rem BIN_shl BIN_shr BIN_sadd BIN_seql BIN_sneq BIN_slss BIN_sleq BIN_sgtr BIN_sgeq UN_neg UN_xor UN_not MM_nil MM_cons partsA argsA ptrA lessL eqL min2I slotN_int slotP_int slotI_int

/-- What holds of each answer of Feed. -/
theorem feed_facts {S : List Sq} (h : Acc S) (w : List Int) (x : Int) : (((feed S w x).n = 1 ∨ (feed S w x).n = 2) ↔ x ∈ pend S w) ∧ ((feed S w x).n = 2 ↔ (feed S w x).r ≠ emp) ∧ 0 ≤ (feed S w x).n ∧ (feed S w x).n ≤ 3 ∧ ((feed S w x).n = 1 ↔ 0 < (feed S w x).w.length) ∧
    ((feed S w x).n = 1 → (feed S w x).w.length < longest S) := by
  rw [mem_pend]
  cases h1 : hit S (was S w ++ [x]) with
  | some s =>
    have h2 := hit_some h1
    rw [feed_hit h1]
    exact ⟨⟨fun _ => hit_dom h1, fun _ => .inr rfl⟩, ⟨fun _ => chk_ne (h.chk s h2.1), fun _ => rfl⟩, by simp, by simp, by simp, by simp⟩
  | none =>
    have he := nohit_res h1
    cases h2 : opn S (was S w ++ [x]) with
    | true =>
      rw [feed_go h1 h2]
      obtain ⟨_, s, hs, h4, _⟩ := opn_iff.1 h2
      have := le_longest hs
      exact ⟨⟨fun _ => (h.opn.1 h2).2.1, fun _ => .inl rfl⟩, by simp, by simp, by simp, by simp, fun _ => by simp only; omega⟩
    | false =>
      have hd : ¬ Dom S (was S w ++ [x]) := fun hd => by
        have := h.opn.2 ⟨by simp, hd, he⟩
        rw [h2] at this; cases this
      cases h3 : opn S w with
      | true => rw [feed_off h1 h2 h3]; simp [hd]
      | false => rw [feed_no h1 h2 h3]; simp [hd]
theorem feed_rest {S : List Sq} {w : List Int} (x : Int) (h : opn S w = false) : feed S w x = feed S [] x ∧ (feed S w x).n ≠ 3 ∧ pend S w = pend S [] := by
  have h1 := was_no h
  have h2 : was S [] = [] := feed_nil_w
  have h3 : opn S [] = false := by
    rw [Bool.eq_false_iff, ne_eq, opn_iff]
    exact fun h => h.1 rfl
  refine ⟨by unfold feed; rw [h1, h2, h, h3], ?_, by unfold pend; rw [h1, h2]⟩
  unfold feed
  rw [h1, h]
  cases hit S ([] ++ [x]) with
  | some s => simp
  | none => simp only; split <;> simp
theorem c7 {H : AH} {a b : AV} {L : List (AV × Sq)} {w : List Int} (x : Int) (ha : Sr H a L) (hbv : ∀ H, Ri H b w) (hl : ∀ x ∈ L, x.2.ks.length ≤ maxLen) (hL : L.length ≤ maxLen) (hw : w.length ≤ maxLen) :
    ACall Try.prog 7 [a, b, vi x] H (fun v _ => v = vb true) := by
  have hmx : maxLen = 9223372036854775807 := rfl
  have la := fun k => ha.row.lenK (k := k)
  have lb := fun k => (hbv H).lenK (k := k)
  have ob := (hbv H).one
  have cb := (hbv H).cells
  refine call_c follows cf7_ok (by simp) ?_
  by_cases c1 : (60 : Int) < L.length
  · simp [la, c1]
    refine c11.ac ?_
    simp
  by_cases c2 : (100 : Int) < w.length
  · simp [la, lb, c1, c2]
    refine c11.ac ?_
    simp
  simp [la, lb, c1, c2]
  refine c13 ha (by omega) fun o1 H1 hro => ?_
  have hr1 := ha.of_row hro
  simp
  refine c12x hr1 hl fun H2 t hS2 hT2 hpt => ?_
  have hpn := fun k => hpt.ne (k := k)
  have hpe := fun k => hpt.eq (k := k)
  by_cases c3 : newT (sqs L) = 0
  case neg =>
    have hm : mkd (sqs L) = false := by simp [mkd, c3]
    rw [hm] at hpe
    simp [c3, hpe]
    refine c11.ac ?_
    simp
  have hm : mkd (sqs L) = true := by simp [mkd, c3]
  rw [hm] at hpe
  have hacc : acc (sqs L) = sqs L := by simp [acc, c3]
  rw [hacc] at hT2
  have hA := newT_acc c3
  have hSl : (sqs L).length ≤ 60 := by rw [sqs_len]; omega
  generalize hS : sqs L = S at *
  simp [c3, hpe, ob, cb]
  refine c20x hT2 (hbv _) (by omega) (by omega) fun p H3 hp => ?_
  have hri := hp.ri
  have lp := fun k => hri.lenK (k := k)
  have hpr := pend_rising S w
  have hpl := pend_len S w
  have hp1 : ∀ c ∈ pend S w, 1 ≤ c := fun c hc => hA.dom_pos (mem_pend.1 hc)
  have hff := feed_facts hA w x
  have hT3 := hT2.sub hp.sub
  generalize hPl : pend S w = pl at *
  simp
  refine wpc_loop (fun s => ∃ i : Nat, s.n = 133 ∧ s.H = H3 ∧ s.t 1 = b ∧ s.t 2 = vi x ∧ s.t 7 = t ∧ s.t 9 = p ∧ s.t 10 = vb (decide (x ∈ pl.take i)) ∧ s.t 11 = vi i ∧ i ≤ pl.length) (fun s => pl.length - slotN (s.t 11)) ?_ ?_
  · exact FgK.same ⟨0, by simp, by simp, by simp, by simp, by simp, by simp, by simp, by simp, by omega⟩
  rintro s ⟨i, gn, gH, g1, g2, g7, g9, g10, g11, hi⟩
  by_cases hlt : i < pl.length
  · have wr := IntWalk.i64_in ((i : Int) + 1) (by omega)
    obtain ⟨q, hq1, hq2⟩ := hri.see hlt
    have hge := hp1 _ (List.getElem_mem hlt)
    have d1 : ¬ pl[i] < 1 := by omega
    have et : (decide (x ∈ pl.take i) || decide (pl[i] = x)) = decide (x ∈ pl.take (i + 1)) := by
      rw [List.take_succ_eq_append_getElem hlt, Bool.eq_iff_iff]
      simp only [Bool.or_eq_true, decide_eq_true_eq, List.mem_append, List.mem_singleton]
      exact or_congr Iff.rfl eq_comm
    have nxt : ∀ (s1 : ASt), s1.n = 133 → s1.H = H3 → s1.t 1 = b → s1.t 2 = vi x → s1.t 7 = t → s1.t 9 = p → s1.t 10 = vb (decide (x ∈ pl.take (i + 1))) → s1.t 11 = vi ((i : Int) + 1) →
        (∃ i : Nat, s1.n = 133 ∧ s1.H = H3 ∧ s1.t 1 = b ∧ s1.t 2 = vi x ∧ s1.t 7 = t ∧ s1.t 9 = p ∧ s1.t 10 = vb (decide (x ∈ pl.take i)) ∧ s1.t 11 = vi i ∧ i ≤ pl.length) ∧ pl.length - slotN (s1.t 11) < pl.length - slotN (s.t 11) :=
      fun s1 h1 h2 h3 h4 h5 h6 h7 h8 => ⟨⟨i + 1, h1, h2, h3, h4, h5, h6, h7, by rw [h8]; simp, by omega⟩, by rw [h8, g11]; simp [slotN]; omega⟩
    generalize hD : decide (x ∈ pl.take i) = D at *
    rcases Nat.eq_zero_or_pos i with i0 | i0
    · have i0' : ¬ (0 : Int) < i := by omega
      have i0n : ¬ 0 < i := by omega
      cases D with
      | true =>
        simp (disch := omega) [gn, gH, g1, g2, g7, g9, g10, g11, lp, hlt, hq1, hq2 _ (Sub.refl _), d1, i0n, wr]
        refine FgK.same (nxt _ ?_ ?_ ?_ ?_ ?_ ?_ ?_ ?_) <;> simp [← et]
      | false =>
        simp (disch := omega) [gn, gH, g1, g2, g7, g9, g10, g11, lp, hlt, hq1, hq2 _ (Sub.refl _), d1, i0n, wr]
        refine FgK.same (nxt _ ?_ ?_ ?_ ?_ ?_ ?_ ?_ ?_) <;> simp [← et]
    · have w2 : IntKind.i64.wrap ((i : Int) - 1) = ((i - 1 : Nat) : Int) := by rw [IntWalk.i64_in _ (by omega)]; omega
      obtain ⟨u, hu1, hu2⟩ := hri.see (i := i - 1) (by omega)
      have d2 : ¬ pl[i] ≤ pl[i - 1] := by
        have := List.pairwise_iff_getElem.1 hpr (i - 1) i (by omega) hlt (by omega)
        omega
      cases D with
      | true =>
        simp (disch := omega) [gn, gH, g1, g2, g7, g9, g10, g11, lp, hlt, hq1, hq2 _ (Sub.refl _), d1, i0, wr, w2, hu1, hu2 _ (Sub.refl _), d2]
        refine FgK.same (nxt _ ?_ ?_ ?_ ?_ ?_ ?_ ?_ ?_) <;> simp [← et]
      | false =>
        simp (disch := omega) [gn, gH, g1, g2, g7, g9, g10, g11, lp, hlt, hq1, hq2 _ (Sub.refl _), d1, i0, wr, w2, hu1, hu2 _ (Sub.refl _), d2]
        refine FgK.same (nxt _ ?_ ?_ ?_ ?_ ?_ ?_ ?_ ?_) <;> simp [← et]
  · rw [List.take_of_length_le (by omega)] at g10
    simp (disch := omega) [gn, gH, g1, g2, g7, g9, g10, g11, lp, hlt, ob, cb]
    refine c17x x hT3 (hbv _) (by omega) fun f H4 hf => ?_
    have rf := hf.ri
    have of1 := hf.one
    have cf1 := rf.cells
    have lf := fun k => rf.lenK (k := k)
    have hT4 := hT3.sub hf.sub
    generalize feed S w x = F at *
    obtain ⟨f1, f2, f3, f4, f5, f6⟩ := hff
    simp [of1, cf1]
    refine newK_of fun y hy => ?_
    have hS5 : Sub H4 (upd H4 y (.cells [f])) := (Sub.refl H4).upd hy
    simp [of1, cf1, lf]
    obtain ⟨fw, fr, fn⟩ := F
    simp only at f1 f2 f3 f4 f5 f6 lf ⊢
    have g4 : ¬ fn < 0 := by omega
    have g5 : ¬ 3 < fn := by omega
    have q1 : (decide (fn = 1) || decide (fn = 2)) = decide (x ∈ pl) := by
      rw [Bool.eq_iff_iff]; simpa using f1
    have q2 : (!fr.toList.isEmpty) = decide (fn = 2) := by
      rw [emp_b, Bool.eq_iff_iff]; simp [f2]
    have q3 : decide (0 < fw.length) = decide (fn = 1) := by
      rw [Bool.eq_iff_iff]; simp [f5]
    by_cases e1 : fn = 1
    · subst e1
      have h1 : x ∈ pl := f1.1 (.inl rfl)
      have h2 : fr = emp := Classical.byContradiction fun e => by have := f2.2 e; omega
      have h3 := f5.1 rfl
      have h4 := f6 rfl
      subst h2
      simp [h1, emp_tl, h3, lf]
      refine c15x (hT4.sub hS5) ?_
      simp [h4, lf]
      refine c11.ac ?_
      simp
    · have h3 : ¬ 0 < fw.length := fun h => e1 (f5.2 h)
      by_cases e2 : fn = 2
      · subst e2
        have h1 : x ∈ pl := f1.1 (.inr rfl)
        have h2 : fr ≠ emp := f2.1 rfl
        simp [h1, emp_no h2, h3, lf]
        refine c11.ac ?_
        simp
      · have h1 : x ∉ pl := fun h => by have := f1.2 h; omega
        have h2 : fr = emp := Classical.byContradiction fun e => e2 (f2.2 e)
        subst h2
        simp [h1, emp_tl, h3, lf, e1, e2, g4, g5]
        refine c11.ac ?_
        simp
theorem c8 {H : AH} {a b : AV} {L : List (AV × Sq)} {w : List Int} (x : Int) (ha : Sr H a L) (hbv : ∀ H, Ri H b w) (hl : ∀ x ∈ L, x.2.ks.length ≤ maxLen) (hL : L.length ≤ maxLen) (hw : w.length ≤ maxLen) :
    ACall Try.prog 8 [a, b, vi x] H (fun v _ => v = vb true) := by
  have hmx : maxLen = 9223372036854775807 := rfl
  have la := fun k => ha.row.lenK (k := k)
  have lb := fun k => (hbv H).lenK (k := k)
  have ob := (hbv H).one
  have cb := (hbv H).cells
  refine call_c follows cf8_ok (by simp) ?_
  by_cases c1 : (60 : Int) < L.length
  · simp [la, c1]
    refine c11.ac ?_
    simp
  by_cases c2 : (100 : Int) < w.length
  · simp [la, lb, c1, c2]
    refine c11.ac ?_
    simp
  simp [la, lb, c1, c2]
  refine c13 ha (by omega) fun o1 H1 hro => ?_
  have hS1 := hro.sub
  have hr1 := ha.of_row hro
  simp
  refine c12x hr1 hl fun H2 t hS2 hT2 hpt => ?_
  have ha2 := ha.sub (hS1.trans hS2)
  simp
  refine c14x ha2 hl hL fun H3 all L' hS3 hr3 he3 => ?_
  have hpn := fun k => hpt.ne (k := k)
  have hpe := fun k => hpt.eq (k := k)
  have oal := hr3.row.one
  have cal := Rw.cells hr3.row
  have hT3 := hT2.sub hS3
  simp [oal, cal]
  refine newK_of fun y1 hy1 => ?_
  have hS4 : Sub H3 (upd H3 y1 (.cells [vb (mkd (sqs L)), all])) := (Sub.refl H3).upd hy1
  have g1 : (upd H3 y1 (.cells [vb (mkd (sqs L)), all])) y1 = some (.cells [vb (mkd (sqs L)), all]) := by simp [upd_apply]
  have hT4 := hT3.sub hS4
  have hr4 := hr3.sub hS4
  simp [oal, cal]
  generalize upd H3 y1 (.cells [vb (mkd (sqs L)), all]) = H4 at *
  by_cases c3 : newT (sqs L) = 0
  case neg =>
    have hm : mkd (sqs L) = false := by simp [mkd, c3]
    rw [hm] at hpn
    simp [c3, hpn]
    refine c11.ac ?_
    simp
  have hm : mkd (sqs L) = true := by simp [mkd, c3]
  rw [hm] at hpe hpn g1
  have hacc : acc (sqs L) = sqs L := by simp [acc, c3]
  rw [hacc] at hT4 he3
  have hA := newT_acc c3
  have hSl : (sqs L).length ≤ 60 := by rw [sqs_len]; omega
  have hL' : L'.length ≤ 60 := by
    have := congrArg List.length he3
    rw [sqs_len] at this
    omega
  generalize hS : sqs L = S at *
  simp [c3, hpe, g1, ob, cb]
  refine c22 hr4 (hbv _) (by omega) (by omega) fun kw H5 hkw => ?_
  rw [he3] at hkw
  have hS5 := hkw.sub
  have lk := fun k => hkw.ri.lenK (k := k)
  have hT5 := hT4.sub hS5
  have hgt : (0 < (was S w).length) ↔ opn S w = true := by rw [← was_ne, List.length_pos_iff]
  cases ho : opn S w with
  | true =>
    have := hgt.2 ho
    simp [lk, this, hpn, c3]
    refine c11.ac ?_
    simp
  | false =>
    have hno : ¬ 0 < (was S w).length := fun e => by have := hgt.1 e; rw [ho] at this; cases this
    obtain ⟨r1, r2, r3⟩ := feed_rest x ho
    simp [lk, hno, ob, cb]
    refine c17x x hT5 (hbv _) (by omega) fun f1 H6 hf1 => ?_
    rw [r1] at hf1 r2 ⊢
    have of1 := hf1.one
    have rf1 := hf1.ri
    have cf1 := rf1.cells
    have hfl := feed_len hA [] x
    simp [of1, cf1]
    refine newK_of fun z1 hz1 => ?_
    have hS7 : Sub H6 (upd H6 z1 (.cells [f1])) := (Sub.refl H6).upd hz1
    have gz1 : (upd H6 z1 (.cells [f1])) z1 = some (.cells [f1]) := by simp [upd_apply]
    have hT7 := (hT5.sub hf1.sub).sub hS7
    have rf17 := rf1.sub hS7
    simp [of1, cf1]
    generalize upd H6 z1 (.cells [f1]) = H7 at *
    refine c17x x hT7 (Ri.nil _) (by simp) fun f2 H8 hf2 => ?_
    have of2 := hf2.one
    have rf2 := hf2.ri
    have cf2 := rf2.cells
    have gz8 := hf2.sub.at gz1
    simp [of2, cf2]
    refine newK_of fun z2 hz2 => ?_
    have m1 := free_ne hz2 z1 (by simp [gz8])
    have hS9 : Sub H8 (upd H8 z2 (.cells [f2])) := (Sub.refl H8).upd hz2
    have hT9 := (hT7.sub hf2.sub).sub hS9
    have rf19 := (rf17.sub hf2.sub).sub hS9
    have rf29 := rf2.sub hS9
    simp [of2, cf2, gz8, m1]
    refine c19 rf19 rf29 (by omega) ?_
    simp [r2, ob, cb]
    refine c20x hT9 (hbv _) (by omega) (by omega) fun p1 Ha hp1 => ?_
    have hTa := hT9.sub hp1.sub
    simp
    refine c20x hTa (Ri.nil _) (by simp) (by omega) fun p2 Hb hp2 => ?_
    rw [r3] at hp1
    have hpl := pend_len S []
    simp
    refine c19 (hp1.ri.sub hp2.sub) hp2.ri (by omega) ?_
    simp
    refine c11.ac ?_
    simp
end Go.Proofs.Ytbdcnoahalknkaa
