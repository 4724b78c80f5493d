/-
  Several texts in one: P38; P43. Conditions: as each lemma states them.
-/
import Derived.Test.YtmpncpamndhmcaaGreatMQ
import Derived.Test.YtmpncpamndhmcaaGreatXRow
import Derived.Test.YtmpncpamndhmcaaGreatRows
import Derived.WalkKit
import Derived.ProofKit
/-! PointerButtons, walked. Conditions: as each lemma states them. -/
section
namespace Go.Proofs.YtmpncpamndhmcaaGreat
open Go Go.Ab Go.RowKit
set_option linter.unusedSimpArgs false
set_option linter.unusedVariables false
set_option linter.unnecessarySimpa false

attribute [local simp] condK_true condK_false condK_not wpc_skip wpc_ret wpc_exit wpc_seq wpc_reg wpc_regD testA_bool wpc_cond wpc_block thenA_normal thenA_ret thenA_exit blockA_normal blockA_ret blockA_exit blockA_other endA_normal endA_ret ev_tmp' ev_const ev_func ev_global cv_int cv_bool cv_string cv_pointer cv_slice cv_agg cv_map put_some put_none wH_s setE_apply setE_env less_eq env_cons env_nil upd_upd upd_apply del_apply startA_eq cells_ag cells_sl one_sl cells_vs one_vs cells_ep one_ep cells_fn one_fn cells_int one_int cells_bool one_bool cells_string one_string cells_pointer one_pointer cells_slice one_slice cells_map one_map cells_agg resK_one resK_nil resK_two rvK_t rvK_c rvsK_nil rvsK_cons iseq_nil iseq_cons gdA_true gdA_false gdA_undef istep_free istep_guard istepV_free istepV_guard dseq_nil dseq_pu dseq_rd dseq_ef wpc_regT dtree_nil dtree_pu dtree_rd dtree_ef dtree_br chkAll_nil chkAll_cons andK_true pickK_true pickK_false pickK_tb pickK_fb bin2K_pl eqbK_eq eqbK_ne eqpK_eq eqpK_ne eqmK_eq eqmK_ne eqzK_eq eqzK_ne eqzK_sl eqzK_vs un1K_pl convK_int fillK_some fillA_cons fillA_nil cellsK_some needK_true needK_ok seeK_ep seeK_ptr oneK_agg oneK_one nilcK_ptr nilcK_ep fadrK_ptr fadrK_ep fldK_ag iadAK_ptr iadAK_ep iadSK_sl iadSK_vs extK_0 extK_1 extK_2 extK_3 lenK_pl lenK_sl lenK_vs lensK_pl boxK_some minmax1K_int storeK_ptr callvK_fn callvK_pl newsK_nil newsK_vs newsK_sl appK_nil appK_nil0 appK_sl appK_vs bnd1K_int bndK_none bndK_some slsK_vs slsK_nil slsK_sl0 slsK_sl slstrK_pl boolK_some eqsK_ag iop_eqs iop_sls iop_slstr seesK_some seesK_ro mapsK_some MAP_some findK_some findK_none plK_pl nmapK_none nmapK_some iop_mlook iop_mlen iop_mmk iop_mupd iop_mdel iop_mrng itK_none itK_some ptr0K_ptr iop_mnxt iop_ment it1K_some entK_some iop_mov iop_pick iop_bin iop_eqb iop_eqp iop_eqm iop_eqz iop_un capK_pl capK_sl capK_vs iop_cap apzK_nil iop_apz mksK_int iop_mks clrK_sl clrK_vs clrK_nil iop_clr iop_conv iop_build iop_load iop_nilc iop_fadr iop_fld iop_iadA iop_iadS iop_ext iop_mkf iop_len iop_lens iop_minmax iop_al iop_box iop_bsl iop_store iop_call iop_callv iop_app BIN_add BIN_sub BIN_mul BIN_and BIN_or BIN_xor BIN_andNot BIN_eql BIN_neq BIN_lss BIN_leq BIN_gtr BIN_geq BIN_quo BIN_rem BIN_shl BIN_shr BIN_sadd BIN_seql BIN_sneq BIN_slss BIN_sleq BIN_sgtr BIN_sgeq UN_neg UN_xor UN_not MM_nil MM_cons partsA argsA ptrA lessL eqL min2I slotN_int slotP_int slotI_int
attribute [local simp] rc_len rc_t4 rc_t1 rc_t2 rc_t3 rc_d1 rc_d2 rc_d3 rc_d4 rc_ag rc_one rc_eq

theorem sortI_mem {l : List Int} {x : Int} : x ∈ sortI l ↔ x ∈ l := (List.mergeSort_perm l _).mem_iff
theorem contains_snoc (l : List Int) (x c : Int) : (l ++ [x]).contains c = (l.contains c || x == c) := by
  rw [Bool.eq_iff_iff]
  simp only [List.contains_eq_mem, decide_eq_true_eq, Bool.or_eq_true, beq_iff_eq, List.mem_append, List.mem_singleton]
  exact or_congr Iff.rfl eq_comm
theorem sameNum {H : AH} {K : AV → AH → Prop} {a b : AV} {l : List Int} (ha : Ri H a l) (hb : Ri H b l) (hl : l.length ≤ 1000000) (hk : K (vb true) H) : @AC Tryz.prog 20 [a, b] H ⟨K⟩ := by
  have q1 := fun k => Rw.lenK ha (k := k)
  have q2 := fun k => Rw.lenK hb (k := k)
  refine AC_of (.forget ?_)
  refine call_c follows cf20_ok (by simp) ?_
  simp [q1, q2]
  refine wpc_loop (fun s => ∃ (i : Nat), s.n = 26 ∧ s.H = H ∧ s.t 0 = a ∧ s.t 1 = b ∧ s.t 5 = vi i ∧ i ≤ l.length) (fun s => l.length - slotN (s.t 5)) ?_ ?_
  · exact FgK.same ⟨0, by simp, by simp, by simp, by simp, by simp, by omega⟩
  rintro s ⟨i, hn, hH, e0, e1, e5, hi⟩
  by_cases hlt : i < l.length
  · have wr := IntWalk.i64_in ((i : Int) + 1) (by omega)
    obtain ⟨p, hp1, hp2⟩ := ha.see hlt
    obtain ⟨q, hq1, hq2⟩ := hb.see hlt
    generalize l[i] = x at *
    simp (disch := omega) [hn, hH, e0, e1, e5, q1, hlt, hp1, hp2 _ (Sub.refl _), hq1, hq2 _ (Sub.refl _), wr]
    exact FgK.same ⟨⟨i + 1, by simp, by simp, by simp, by simp, by simp, by omega⟩, by simp [e5]; omega⟩
  · simp (disch := omega) [hn, hH, e0, e1, e5, q1, hlt]
    exact ⟨H, Sub.refl _, hk⟩
theorem opat2 {H : AH} {b : AV} {ops : List Op} (h : Rw H b (flat opc ops) ops.length 11) {i : Nat} (hi : i < ops.length) : ∃ p, (∀ k : AV → Prop, @iadSK 11 b (vi i) ⟨k⟩ = k p) ∧ (∀ H', Sub H H' → ∀ k : List AV → Prop, @SEE H' p 11 ⟨k⟩ = k (opc ops[i])) ∧
    (∃ q, (∀ k : AV → Prop, @fadrK 0 p ⟨k⟩ = k q) ∧ ∀ H', Sub H H' → ∀ k : List AV → Prop, @SEE H' q 1 ⟨k⟩ = k [vi ops[i].kd]) ∧ (∃ q, (∀ k : AV → Prop, @fadrK 3 p ⟨k⟩ = k q) ∧ ∀ H', Sub H H' → ∀ k : List AV → Prop, @SEE H' q 1 ⟨k⟩ = k [vi ops[i].sf]) ∧
    (∃ q, (∀ k : AV → Prop, @fadrK 5 p ⟨k⟩ = k q) ∧ (∀ H', Sub H H' → ∀ k : List AV → Prop, @SEE H' q 6 ⟨k⟩ = k (evc ops[i].e)) ∧
      (∃ q0, (∀ k : AV → Prop, @fadrK 0 q ⟨k⟩ = k q0) ∧ ∀ H', Sub H H' → ∀ k : List AV → Prop, @SEE H' q0 1 ⟨k⟩ = k [vi ops[i].e.kd]) ∧ (∃ q0, (∀ k : AV → Prop, @fadrK 2 q ⟨k⟩ = k q0) ∧ ∀ H', Sub H H' → ∀ k : List AV → Prop, @SEE H' q0 1 ⟨k⟩ = k [vi ops[i].e.x]) ∧ ∃ q0, (∀ k : AV → Prop, @fadrK 3 q ⟨k⟩ = k q0) ∧ ∀ H', Sub H H' → ∀ k : List AV → Prop, @SEE H' q0 1 ⟨k⟩ = k [vi ops[i].e.y]) := by
  obtain ⟨p, h1, h2⟩ := h.idx hi
  have e := flat_drop opc_l ops i hi
  rw [e] at h2
  have hl : (opc ops[i]).length = 11 := rfl
  have g : ∀ off v, off < 11 → (opc ops[i])[off]? = some v → ∃ q, (∀ kk : AV → Prop, @fadrK off p ⟨kk⟩ = kk q) ∧ ∀ H', Sub H H' → ∀ kk : List AV → Prop, @SEE H' q 1 ⟨kk⟩ = kk [v] := fun off v ho hv => by
    obtain ⟨q, h3, h4⟩ := h2.fadr (off := off) (by rw [List.length_append]; omega)
    refine ⟨q, h3, fun H' hs kk => ?_⟩
    rw [(h4.sub hs).see (by rw [List.length_drop, List.length_append]; omega), List.drop_append_of_le_length (by omega), List.drop_eq_getElem_cons (by omega)]
    have : (opc ops[i])[off] = v := (List.getElem?_eq_some_iff.1 hv).2
    subst this
    rfl
  refine ⟨p, h1, fun H' hs k => ?_, g 0 _ (by decide) rfl, g 3 _ (by decide) rfl, ?_⟩
  · rw [(h2.sub hs).see (by rw [List.length_append]; omega), List.take_append_of_le_length (by omega), List.take_of_length_le (by omega)]
  · obtain ⟨q, h3, h4⟩ := h2.fadr (off := 5) (by rw [List.length_append]; omega)
    have g2 : ∀ off (v : AV), off < 6 → (opc ops[i])[5 + off]? = some v → ∃ q0, (∀ kk : AV → Prop, @fadrK off q ⟨kk⟩ = kk q0) ∧ ∀ H', Sub H H' → ∀ kk : List AV → Prop, @SEE H' q0 1 ⟨kk⟩ = kk [v] := fun off v ho hv => by
      obtain ⟨q0, h5, h6⟩ := h4.fadr (off := off) (by rw [List.length_drop, List.length_append]; omega)
      refine ⟨q0, h5, fun H' hs kk => ?_⟩
      rw [(h6.sub hs).see (by simp only [List.length_drop, List.length_append]; omega), List.drop_drop, List.drop_append_of_le_length (by omega), List.drop_eq_getElem_cons (by omega)]
      have : (opc ops[i])[5 + off] = v := (List.getElem?_eq_some_iff.1 hv).2
      subst this
      rfl
    refine ⟨q, h3, fun H' hs k => ?_, g2 0 _ (by decide) rfl, g2 2 _ (by decide) rfl, g2 3 _ (by decide) rfl⟩
    rw [(h4.sub hs).see (by simp only [List.length_drop, List.length_append]; omega)]
    rfl
set_option maxHeartbeats 2000000 in
set_option maxRecDepth 20000 in
theorem c5 {H : AH} {K : AV → AH → Prop} {a b : AV} {Ls : List (List It)} {ops : List Op} (ha : Sc0 H a Ls) (hb : Rw H b (flat opc ops) ops.length 11) (hk : K (vb true) H) :
    @AC Tryz.prog 5 [.ag [a, b]] H ⟨K⟩ := by
  have oa : a.one = true := by obtain ⟨cs, h1, _⟩ := ha; exact Rw.one h1
  have ob := Rw.one hb
  have ca : a.cells = some [a] := by obtain ⟨cs, h1, _⟩ := ha; exact Rw.cells h1
  have cb := Rw.cells hb
  have lb := fun k => Rw.lenK hb (k := k)
  refine AC_of (.forget ?_)
  refine call_c follows cf5_ok (by simp) ?_
  simp [ca, cb]
  refine newK_of fun z hz => ?_
  have hzz : upd H z (.cells [a, b]) z = some (.cells [a, b]) := by simp [upd_apply]
  have hS : Sub H (upd H z (.cells [a, b])) := (Sub.refl H).upd hz
  simp
  generalize upd H z (.cells [a, b]) = H1 at *
  refine c7 fun B0 hB0 => ?_
  have hz1 := PV_sub hB0 _ _ hzz
  simp [hz1, oa, ob, ca, cb]
  have hS1 := hS.trans (PV_sub hB0)
  refine c8 (ha.sub hS1) (hb.sub hS1) fun bb hbb => ?_
  cases bb with
  | false =>
    simp
    refine c9 ?_
    simp
    exact ⟨H, hS1, hk⟩
  | true =>
    obtain ⟨h4, h40, hli⟩ := hbb rfl
    simp
    refine wpc_loop (fun s => ∃ (i : Nat) (c : Option (Nat × Bool × List AV)) (G : AH) (m : PS), s.n = 185 ∧ s.H = PV G { B0 with ch := c } m ∧ BOk G { B0 with ch := c } m ∧ Sub H1 G ∧ s.t 1 = pA z ∧ s.t 3 = pA B0.p ∧ s.t 5 = vi i ∧ i ≤ ops.length ∧ m.pr.length ≤ 16) (fun s => ops.length - slotN (s.t 5)) ?_ ?_
    · exact FgK.same ⟨0, B0.ch, H1, m0, by simp, by simp, hB0, Sub.refl _, by simp, by simp, by simp, by omega, by simp [m0]⟩
    rintro s ⟨i, c, G, m, hn, hH, hB, hG, e1, e3, e5, hil, h16⟩
    have hzG : G z = some (.cells [a, b]) := hG _ _ hzz
    have kz := PV_sub hB _ _ hzG
    by_cases hlt : i < ops.length
    · have wr := IntWalk.i64_in ((i : Int) + 1) (by omega)
      obtain ⟨p, hp1, hp2, ⟨p0, hp3, hp4⟩, _, ⟨p5, hp5, hp6, _, _, _⟩⟩ := opat2 hb hlt
      generalize ops[i] = o at *
      have hol : (opc o).length = 11 := rfl
      simp (disch := omega) [hn, hH, e1, e3, e5, kz, lb, hlt, oa, ob, ca, cb]
      refine c11 hB (by omega) fun r6 G1 hB1 hr6 => ?_
      have r6o := Rw.one hr6.2
      have r6c := Rw.cells hr6.2
      have hG1 := hG.trans hr6.1
      have kz1 := PV_sub hB1 _ _ (hr6.1 _ _ hzG)
      have hS1G : Sub H (PV G1 { B0 with ch := c } m) := (hS.trans hG1).trans (PV_sub hB1)
      have hel : (evc o.e).length = 6 := rfl
      have heo : ∀ v ∈ evc o.e, v.one = true := by simp [evc]
      simp (disch := omega) [r6c, r6o, kz1, ob, hp1, hp5, hp6 _ hS1G]
      refine newK_of fun w hw => ?_
      obtain ⟨q1, hB2, q3, hs2⟩ := PV_new hB1 hw (.cells (evc o.e))
      have hww : upd G1 w (.cells (evc o.e)) w = some (.cells (evc o.e)) := by simp [upd_apply]
      have hG2 := hG1.trans hs2
      have hz2 := (hr6.1.trans hs2) _ _ hzG
      have hr62 : Ri (upd G1 w (.cells (evc o.e))) r6 (sortI m.pr) := hr6.2.sub hs2
      have hwz := free_ne hw z (by rw [kz1]; simp)
      have q1' : upd (PV G1 { B0 with ch := c } m) w (.cells [vi o.e.kd, vi o.e.tm, vi o.e.x, vi o.e.y, vi o.e.co, vi o.e.va]) = PV (upd G1 w (.cells (evc o.e))) { B0 with ch := c } m := q1
      simp [kz1, hwz, ob, hp1, evc]
      rw [q1']
      generalize upd G1 w (.cells (evc o.e)) = G2 at *
      have kz2 := PV_sub hB2 _ _ hz2
      have hS2G : Sub H (PV G2 { B0 with ch := c } m) := (hS.trans hG2).trans (PV_sub hB2)
      simp [hp2 _ hS2G, kz2, ob, hp1]
      refine c10 (ha.ok hli) hS2G cb (by omega) fun v hv => ?_
      have hLi := items_li hli o
      generalize itemsM Ls o = L at *
      have ov := Rw.one hv.1
      have cv := Rw.cells hv.1
      simp [ov, cv, kz2, ob, hp1, hp2 _ hS2G]
      refine c14 (o := o) hB2 (hv.sub (hS.trans hG2)) (by have := hLi.len; omega) fun c3 G3 out h3 hr3 => ?_
      have hnp := call_pr m L o
      have hnl := npr_len h16 o
      have herr := @call_err m L o
      have hout := @err_out m L o
      have oc := Rw.cells hr3.rd
      have oo := Rw.one hr3.rd
      rw [← hnp] at hnl
      have hsame := @npr_same m o
      have hbtn := @npr_btn m o
      rw [← hnp] at hsame hbtn
      generalize hE : (callM m L o).2.2 = E at *
      generalize (callM m L o).1 = M3 at *
      generalize (callM m L o).2.1 = O3 at *
      simp [oc, oo]
      refine c11 h3 (by omega) fun r10 G4 h4 hr4 => ?_
      have r10o := Rw.one hr4.2
      have r10c := Rw.cells hr4.2
      have hG4 := hG2.trans (hr3.1.trans hr4.1)
      have kz4 := PV_sub h4 _ _ ((hr3.1.trans hr4.1) _ _ hz2)
      have hS4 : Sub H (PV G4 { B0 with ch := c3 } M3) := (hS.trans hG4).trans (PV_sub h4)
      have k6 : Ri (PV G4 { B0 with ch := c3 } M3) r6 (sortI m.pr) := (hr62.sub (hr3.1.trans hr4.1)).sub (PV_sub h4)
      have k10 : Ri (PV G4 { B0 with ch := c3 } M3) r10 (sortI M3.pr) := hr4.2.sub (PV_sub h4)
      have kO := (hr3.rd.sub hr4.1).sub (PV_sub h4)
      have kw : PV G4 { B0 with ch := c3 } M3 w = some (.cells [vi o.e.kd, vi o.e.tm, vi o.e.x, vi o.e.y, vi o.e.co, vi o.e.va]) := PV_sub h4 _ _ ((hr3.1.trans hr4.1) _ _ hww)
      have l6 := fun k => Rw.lenK k6 (k := k)
      have l10 := fun k => Rw.lenK k10 (k := k)
      have lO := fun k => Rw.lenK kO (k := k)
      simp [r10c, r10o, kz4, ob, hp1, hp3, hp4 _ hS4]
      have nxt : ∀ s' : ASt, s'.n = 185 → s'.H = PV G4 { B0 with ch := c3 } M3 → s'.t 1 = pA z → s'.t 3 = pA B0.p → s'.t 5 = vi ((i : Int) + 1) →
          (∃ (i : Nat) (c : Option (Nat × Bool × List AV)) (G : AH) (m : PS), s'.n = 185 ∧ s'.H = PV G { B0 with ch := c } m ∧ BOk G { B0 with ch := c } m ∧ Sub H1 G ∧ s'.t 1 = pA z ∧ s'.t 3 = pA B0.p ∧ s'.t 5 = vi i ∧ i ≤ ops.length ∧ m.pr.length ≤ 16) :=
        fun s' g1 g2 g3 g4 g5 => ⟨i + 1, c3, G4, M3, g1, g2, h4, hG4, g3, g4, by rw [g5]; rfl, by omega, hnl⟩
      have hlB : (sortI m.pr).length ≤ 1000000 := by rw [sortI_len]; omega
      have hp4' := hp4 _ hS4
      generalize PV G4 { B0 with ch := c3 } M3 = HH at *
      have hcase : o.kd ≠ 0 ∨ (o.kd = 0 ∧ o.e.kd ≠ 2) ∨ (o.kd = 0 ∧ o.e.kd = 2 ∧ o.e.va ≠ 0 ∧ o.e.va ≠ 1) ∨ (o.kd = 0 ∧ o.e.kd = 2 ∧ (o.e.va = 0 ∨ o.e.va = 1)) := by omega
      rcases hcase with k0 | ⟨k0, k2⟩ | ⟨k0, k2, v0, v1⟩ | ⟨k0, k2, hv⟩
      · rw [hsame (.inl k0)] at k10
        simp [k0, r6o, r6c, r10o, r10c]
        refine sameNum k6 k10 hlB ?_
        simp [kz4, ob, hp1, hp3, hp4', k0, wr]
        refine FgK.same ⟨nxt _ ?_ ?_ ?_ ?_ ?_, ?_⟩ <;> simp [e5]
        omega
      · rw [hsame (.inr (.inl k2))] at k10
        simp [k0, k2, r6o, r6c, r10o, r10c, kw]
        refine sameNum k6 k10 hlB ?_
        by_cases hE0 : E = 0
        case' pos =>
          simp [kz4, ob, hp1, hp3, hp4', k0, wr, kw, k2, hE0]
        case' neg =>
          have hO : O3 = [] := hout k0 (by rw [← herr k0]; exact hE0)
          subst hO
          simp [kz4, ob, hp1, hp3, hp4', k0, wr, kw, k2, hE0, lO, oo]
        all_goals
          refine FgK.same ⟨nxt _ ?_ ?_ ?_ ?_ ?_, ?_⟩ <;> simp [e5]
          omega
      · have hch : chkM m o.e = 2 := by unfold chkM; rw [if_pos (.inr ⟨k2, v0, v1⟩)]
        have hE0 : ¬ E = 0 := by rw [herr k0, hch]; decide
        rw [hsame (.inr (.inr (by rw [hch]; decide)))] at k10
        have hO : O3 = [] := hout k0 (by rw [hch]; decide)
        subst hO
        simp [k0, k2, r6o, r6c, r10o, r10c, kw, hE0]
        refine sameNum k6 k10 hlB ?_
        simp [kz4, ob, hp1, hp3, hp4', k0, wr, kw, k2, hE0, lO, oo, v0, v1]
        refine FgK.same ⟨nxt _ ?_ ?_ ?_ ?_ ?_, ?_⟩ <;> simp [e5]
        omega
      · have hcb := chk_btn (m := m) k2 hv
        have hbtn := hbtn k0 k2 hv
        have hE' := herr k0
        have hmem : (sortI m.pr).contains o.e.co = m.pr.contains o.e.co := by
          cases h : m.pr.contains o.e.co with
          | true =>
            have : o.e.co ∈ m.pr := by simpa using h
            simpa using sortI_mem.2 this
          | false =>
            have : ¬ o.e.co ∈ m.pr := by simpa using h
            have h2 : ¬ o.e.co ∈ sortI m.pr := fun g => this (sortI_mem.1 g)
            simpa using h2
        have hsl := sortI_len m.pr
        have hsl3 := sortI_len M3.pr
        have l6' : ∀ k : AV → Prop, @lenK r6 ⟨k⟩ = k (vi (m.pr.length : Int)) := fun k => by rw [l6, hsl]
        have l10' : ∀ k : AV → Prop, @lenK r10 ⟨k⟩ = k (vi (M3.pr.length : Int)) := fun k => by rw [l10, hsl3]
        have hcase2 : (o.e.va = 0 ∧ E = 0) ∨ (o.e.va = 1 ∧ E = 0) ∨ (o.e.va = 0 ∧ E ≠ 0) ∨ (o.e.va = 1 ∧ E ≠ 0) := by omega
        have hO3 : E ≠ 0 → O3 = [] := fun h => hout k0 (by rw [← hE']; exact h)
        have hM3 : E ≠ 0 → Ri HH r10 (sortI m.pr) := fun h => by rw [hsame (.inr (.inr (by rw [← hE']; exact h)))] at k10; exact k10
        rcases hcase2 with ⟨hv1, hE0⟩ | ⟨hv1, hE0⟩ | ⟨hv1, hE0⟩ | ⟨hv1, hE0⟩
        simp [k0, k2, hE0, kw, kz4, ob, hp1, hp3, hp4', hv1]
        rotate_left
        simp [k0, k2, hE0, kw, kz4, ob, hp1, hp3, hp4', hv1]
        rotate_left
        have hO := hO3 hE0
        simp [k0, k2, r6o, r6c, r10o, r10c, kw, hE0]
        refine sameNum k6 (hM3 hE0) hlB ?_
        simp [kz4, ob, hp1, hp3, hp4', k0, kw, k2, hE0, lO, oo, hO, hv1]
        rotate_left
        have hO := hO3 hE0
        simp [k0, k2, r6o, r6c, r10o, r10c, kw, hE0]
        refine sameNum k6 (hM3 hE0) hlB ?_
        simp [kz4, ob, hp1, hp3, hp4', k0, kw, k2, hE0, lO, oo, hO, hv1]
        rotate_left
        all_goals
          refine wpc_loop (fun s2 => ∃ (k : Nat), s2.n = 185 ∧ s2.H = HH ∧ s2.t 1 = pA z ∧ s2.t 3 = pA B0.p ∧ s2.t 5 = vi i ∧ s2.t 6 = r6 ∧ s2.t 7 = pA w ∧ s2.t 9 = vi E ∧ s2.t 10 = r10 ∧ s2.t 11 = vb (((sortI m.pr).take k).contains o.e.co) ∧ s2.t 12 = vi k ∧ k ≤ (sortI m.pr).length) (fun s2 => (sortI m.pr).length - slotN (s2.t 12)) ?_ ?_
          · exact FgK.same ⟨0, by simp, by simp, by simp, by simp, by simp, by simp, by simp, by simp [hE0], by simp, by simp, by simp, by omega⟩
          rintro s2 ⟨k, hn2, hH2, f1, f3, f5, f6, f7, f9, f10, f11, f12, hkl⟩
          by_cases hk2 : k < (sortI m.pr).length
          · have wk := IntWalk.i64_in ((k : Int) + 1) (by omega)
            have hk2' : (k : Int) < (sortI m.pr).length := by omega
            obtain ⟨q, q1, q2⟩ := k6.see hk2
            have et := take_snoc' hk2
            have hct : ((sortI m.pr).take (k + 1)).contains o.e.co = (((sortI m.pr).take k).contains o.e.co || ((sortI m.pr)[k] == o.e.co)) := by rw [et, contains_snoc]
            generalize (sortI m.pr)[k] = x at *
            cases hc : ((sortI m.pr).take k).contains o.e.co with
            | true =>
              rw [hc] at f11 hct
              simp (disch := omega) [hn2, hH2, f1, f3, f5, f6, f7, f9, f10, f11, f12, l6, hk2', wk]
              exact FgK.same ⟨⟨k + 1, by simp, by simp, by simp, by simp, by simp, by simp, by simp, by simp, by simp, by rw [hct]; simp, by simp, by omega⟩, by simp [f12]; omega⟩
            | false =>
              rw [hc] at f11 hct
              simp (disch := omega) [hn2, hH2, f1, f3, f5, f6, f7, f9, f10, f11, f12, l6, hk2', wk, q1, q2 _ (Sub.refl _), kw]
              exact FgK.same ⟨⟨k + 1, by simp, by simp, by simp, by simp, by simp, by simp, by simp, by simp, by simp, by rw [hct]; simp; rfl, by simp, by omega⟩, by simp [f12]; omega⟩
          · rw [List.take_of_length_le (by omega), hmem] at f11
            have hk2' : ¬ (k : Int) < (sortI m.pr).length := by omega
            simp (disch := omega) [hn2, hH2, f1, f3, f5, f6, f7, f9, f10, f11, f12, l6, hk2', kw]
            have w2 : IntKind.i64.wrap 2 = 2 := by decide
            have w0 : IntKind.i64.wrap 0 = 0 := by decide
            have wl := IntWalk.i64_in (m.pr.length : Int) (by omega)
            have wl1 := IntWalk.i64_in ((m.pr.length : Int) - 1) (by omega)
            have wl2 := IntWalk.i64_in ((m.pr.length : Int) + 2) (by omega)
            have wl3 := IntWalk.i64_in ((m.pr.length : Int) + 2 - 1) (by omega)
            have hfin : ∀ s' : ASt, s'.n = 185 → s'.H = HH → s'.t 1 = pA z → s'.t 3 = pA B0.p → s'.t 5 = vi ((i : Int) + 1) → (∃ (i : Nat) (c : Option (Nat × Bool × List AV)) (G : AH) (m : PS), s'.n = 185 ∧ s'.H = PV G { B0 with ch := c } m ∧ BOk G { B0 with ch := c } m ∧ Sub H1 G ∧ s'.t 1 = pA z ∧ s'.t 3 = pA B0.p ∧ s'.t 5 = vi i ∧ i ≤ ops.length ∧ m.pr.length ≤ 16) ∧ ops.length - slotN (s'.t 5) < ops.length - slotN (s.t 5) :=
              fun s' g1 g2 g3 g4 g5 => ⟨nxt s' g1 g2 g3 g4 g5, by rw [g5, e5]; simp [slotN]; omega⟩
            have hx10 : E = 0 → ∀ k : AV → Prop, @lenK r10 ⟨k⟩ = k (vi (if o.e.va = 1 then (m.pr.length : Int) + 2 - 1 else (m.pr.length : Int) - 1)) := fun h k => by
              rw [l10', hbtn (by rw [← hE']; exact h)]
              congr 2
              rcases hv with h | h <;> simp [h]
            rw [← hE', hv1] at hcb
            rw [hv1] at hx10
            have hcm : o.e.co ∈ m.pr ↔ m.pr.contains o.e.co = true := by simp
            cases hcin : m.pr.contains o.e.co <;> by_cases h16' : 16 ≤ m.pr.length <;> rw [hcin] at hcb f11 hcm <;> simp [h16'] at hcb
            all_goals
              first
                | (exfalso; omega)
                | (have h16i : (16 : Int) ≤ m.pr.length := by omega
                   simp (disch := omega) [hn2, hH2, f1, f3, f5, f6, f7, f9, f10, f11, f12, l6', hcb, hcm, hv1, h16i, kw, w2, w0, wl, wl1, wl2, wl3, hx10, wr]
                   exact FgK.same (hfin _ (by simp) (by simp) (by simp) (by simp) (by simp)))
                | (have h16i : ¬ (16 : Int) ≤ m.pr.length := by omega
                   simp (disch := omega) [hn2, hH2, f1, f3, f5, f6, f7, f9, f10, f11, f12, l6', hcb, hcm, hv1, h16i, kw, w2, w0, wl, wl1, wl2, wl3, hx10, wr]
                   exact FgK.same (hfin _ (by simp) (by simp) (by simp) (by simp) (by simp)))
    · have hSG : Sub H (PV G { B0 with ch := c } m) := (hS.trans hG).trans (PV_sub hB)
      simp (disch := omega) [hn, hH, e1, e3, e5, kz, lb, hlt, oa, ob]
      refine c9 ?_
      simp
      exact ⟨H, hSG, hk⟩
theorem law_PointerButtons (xs : List AV) (hf : FitsT [(true, [.sl [.sl itL], .sl opL])] xs) : ACall Tryz.prog 5 xs (fun _ => none) (fun v _ => v = vb true) := by
  obtain ⟨a, rfl, h⟩ := hf.one
  obtain ⟨v, w, Ls, ops, rfl, h1, h2⟩ := fitSet h
  exact c5 (h1 _) (h2 _) rfl
end Go.Proofs.YtmpncpamndhmcaaGreat
end

/-! PointerButtons: for every scenes and calls the law returns true, and its argument reads as it did. No conditions: every input that the row admits. -/
section
namespace Go.Proofs.YtmpncpamndhmcaaGreat
open Go Go.Ab Go.RowKit Go.ChangeShapes Go.WideShapes Go.ChangeAt
set_option linter.unusedSimpArgs false
set_option linter.unusedVariables false
set_option linter.unnecessarySimpa false

attribute [local simp] condK_true condK_false condK_not wpc_skip wpc_ret wpc_exit wpc_seq wpc_reg wpc_regD testA_bool wpc_cond wpc_block thenA_normal thenA_ret thenA_exit blockA_normal blockA_ret blockA_exit blockA_other endA_normal endA_ret ev_tmp' ev_const ev_func ev_global cv_int cv_bool cv_string cv_pointer cv_slice cv_agg cv_map put_some put_none wH_s setE_apply setE_env less_eq env_cons env_nil upd_upd upd_apply del_apply startA_eq cells_ag cells_sl one_sl cells_vs one_vs cells_ep one_ep cells_fn one_fn cells_int one_int cells_bool one_bool cells_string one_string cells_pointer one_pointer cells_slice one_slice cells_map one_map cells_agg resK_one resK_nil resK_two rvK_t rvK_c rvsK_nil rvsK_cons iseq_nil iseq_cons gdA_true gdA_false gdA_undef istep_free istep_guard istepV_free istepV_guard dseq_nil dseq_pu dseq_rd dseq_ef wpc_regT dtree_nil dtree_pu dtree_rd dtree_ef dtree_br chkAll_nil chkAll_cons andK_true pickK_true pickK_false pickK_tb pickK_fb bin2K_pl eqbK_eq eqbK_ne eqpK_eq eqpK_ne eqmK_eq eqmK_ne eqzK_eq eqzK_ne eqzK_sl eqzK_vs un1K_pl convK_int fillK_some fillA_cons fillA_nil cellsK_some needK_true needK_ok seeK_ep seeK_ptr oneK_agg oneK_one nilcK_ptr nilcK_ep fadrK_ptr fadrK_ep fldK_ag iadAK_ptr iadAK_ep iadSK_sl iadSK_vs extK_0 extK_1 extK_2 extK_3 lenK_pl lenK_sl lenK_vs lensK_pl boxK_some minmax1K_int storeK_ptr callvK_fn callvK_pl newsK_nil newsK_vs newsK_sl appK_nil appK_nil0 appK_sl appK_vs bnd1K_int bndK_none bndK_some slsK_vs slsK_nil slsK_sl0 slsK_sl slstrK_pl boolK_some eqsK_ag iop_eqs iop_sls iop_slstr seesK_some seesK_ro mapsK_some MAP_some findK_some findK_none plK_pl nmapK_none nmapK_some iop_mlook iop_mlen iop_mmk iop_mupd iop_mdel iop_mrng itK_none itK_some ptr0K_ptr iop_mnxt iop_ment it1K_some entK_some iop_mov iop_pick iop_bin iop_eqb iop_eqp iop_eqm iop_eqz iop_un capK_pl capK_sl capK_vs iop_cap apzK_nil iop_apz mksK_int iop_mks clrK_sl clrK_vs clrK_nil iop_clr iop_conv iop_build iop_load iop_nilc iop_fadr iop_fld iop_iadA iop_iadS iop_ext iop_mkf iop_len iop_lens iop_minmax iop_al iop_box iop_bsl iop_store iop_call iop_callv iop_app BIN_add BIN_sub BIN_mul BIN_and BIN_or BIN_xor BIN_andNot BIN_eql BIN_neq BIN_lss BIN_leq BIN_gtr BIN_geq BIN_quo BIN_rem BIN_shl BIN_shr BIN_sadd BIN_seql BIN_sneq BIN_slss BIN_sleq BIN_sgtr BIN_sgeq UN_neg UN_xor UN_not MM_nil MM_cons partsA argsA ptrA lessL eqL min2I slotN_int slotP_int slotI_int

set_option maxRecDepth 100000

theorem pointerButtons_lifted (os : Os) (started : os.Started) (H : Type) (enc : TypeId × Value → H) :
    ReturnsInHanded {} Tryz.checked os 5 .any (Rows.pointerButtonsSpec.pre6 enc Tryz.prog Tryz.f5 Rows.pointerButtonsRow.domain false) (Rows.pointerButtonsSpec.post enc Tryz.prog Tryz.f5 false true false false) := by
  refine returnsInHanded_of_change_sized (C := Tryz.checked) own started (by kernel_rfl) Tryz.func5
    (ChangeSpec.witness6 (enc := enc) (C := Tryz.checked) false ⟨#[], #[.agg #[.slice none 0 0, .slice none 0 0]], []⟩ 8 (by kernel_rfl) (by kernel_rfl) (by kernel_rfl) (by kernel_rfl)) ?_
  intro W base args ds gs before hval hW _ _ _
  refine law_contract (L := [(true, [.sl [.sl itL], .sl opL])]) laidOut (by kernel_rfl) rfl (fun ds hd => ?_) ⟨_, rfl, by kernel_rfl⟩ ?_ (fun xs hf => law_PointerButtons xs hf) W base args ds gs before hval hW
  · match ds, hd with
    | [d0], _ => exact ⟨rfl, rfl, rfl⟩
  · exact of_decide_eq_true (by kernel_rfl)

theorem pointerButtons_holds : Rows.PointerButtonsSaid :=
  OpenClaim.holds_of_wide 5 Tryz.f5 rfl rfl rfl rfl rfl rfl rfl ⟨rfl, rfl, rfl, rfl, rfl⟩ rfl rfl rfl rfl rfl (by kernel_rfl) Tryz.func5 (by kernel_rfl)
    (of_decide_eq_true (by kernel_rfl)) (by unfold Func.isWrapper; first | (rw [if_pos (by decide +kernel)]; kernel_rfl) | (rw [if_neg (by decide +kernel)]; exact ⟨rfl, rfl⟩))
    (fun os started H enc _ => pointerButtons_lifted os started H enc)
end Go.Proofs.YtmpncpamndhmcaaGreat
end
