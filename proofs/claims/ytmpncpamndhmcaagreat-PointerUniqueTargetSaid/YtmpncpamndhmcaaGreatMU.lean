/-
  Several texts in one: P44; P45. Conditions: as each lemma states them.
-/
import Derived.Test.YtmpncpamndhmcaaGreatMQ
import Derived.Test.YtmpncpamndhmcaaGreatXRow
import Derived.Test.YtmpncpamndhmcaaGreatRows
import Derived.WalkKit
import Derived.ProofKit
/-! PointerUniqueTarget, walked. Conditions: as each lemma states them. -/
section
namespace Go.Proofs.YtmpncpamndhmcaaGreat
open Go Go.Ab Go.RowKit
set_option linter.unusedSimpArgs false
set_option linter.unusedVariables false
set_option linter.unnecessarySimpa false

attribute [local simp] condK_true condK_false condK_not wpc_skip wpc_ret wpc_exit wpc_seq wpc_reg wpc_regD testA_bool wpc_cond wpc_block thenA_normal thenA_ret thenA_exit blockA_normal blockA_ret blockA_exit blockA_other endA_normal endA_ret ev_tmp' ev_const ev_func ev_global cv_int cv_bool cv_string cv_pointer cv_slice cv_agg cv_map put_some put_none wH_s setE_apply setE_env less_eq env_cons env_nil upd_upd upd_apply del_apply startA_eq cells_ag cells_sl one_sl cells_vs one_vs cells_ep one_ep cells_fn one_fn cells_int one_int cells_bool one_bool cells_string one_string cells_pointer one_pointer cells_slice one_slice cells_map one_map cells_agg resK_one resK_nil resK_two rvK_t rvK_c rvsK_nil rvsK_cons iseq_nil iseq_cons gdA_true gdA_false gdA_undef istep_free istep_guard istepV_free istepV_guard dseq_nil dseq_pu dseq_rd dseq_ef wpc_regT dtree_nil dtree_pu dtree_rd dtree_ef dtree_br chkAll_nil chkAll_cons andK_true pickK_true pickK_false pickK_tb pickK_fb bin2K_pl eqbK_eq eqbK_ne eqpK_eq eqpK_ne eqmK_eq eqmK_ne eqzK_eq eqzK_ne eqzK_sl eqzK_vs un1K_pl convK_int fillK_some fillA_cons fillA_nil cellsK_some needK_true needK_ok seeK_ep seeK_ptr oneK_agg oneK_one nilcK_ptr nilcK_ep fadrK_ptr fadrK_ep fldK_ag iadAK_ptr iadAK_ep iadSK_sl iadSK_vs extK_0 extK_1 extK_2 extK_3 lenK_pl lenK_sl lenK_vs lensK_pl boxK_some minmax1K_int storeK_ptr callvK_fn callvK_pl newsK_nil newsK_vs newsK_sl appK_nil appK_nil0 appK_sl appK_vs bnd1K_int bndK_none bndK_some slsK_vs slsK_nil slsK_sl0 slsK_sl slstrK_pl boolK_some eqsK_ag iop_eqs iop_sls iop_slstr seesK_some seesK_ro mapsK_some MAP_some findK_some findK_none plK_pl nmapK_none nmapK_some iop_mlook iop_mlen iop_mmk iop_mupd iop_mdel iop_mrng itK_none itK_some ptr0K_ptr iop_mnxt iop_ment it1K_some entK_some iop_mov iop_pick iop_bin iop_eqb iop_eqp iop_eqm iop_eqz iop_un capK_pl capK_sl capK_vs iop_cap apzK_nil iop_apz mksK_int iop_mks clrK_sl clrK_vs clrK_nil iop_clr iop_conv iop_build iop_load iop_nilc iop_fadr iop_fld iop_iadA iop_iadS iop_ext iop_mkf iop_len iop_lens iop_minmax iop_al iop_box iop_bsl iop_store iop_call iop_callv iop_app BIN_add BIN_sub BIN_mul BIN_and BIN_or BIN_xor BIN_andNot BIN_eql BIN_neq BIN_lss BIN_leq BIN_gtr BIN_geq BIN_quo BIN_rem BIN_shl BIN_shr BIN_sadd BIN_seql BIN_sneq BIN_slss BIN_sleq BIN_sgtr BIN_sgeq UN_neg UN_xor UN_not MM_nil MM_cons partsA argsA ptrA lessL eqL min2I slotN_int slotP_int slotI_int
attribute [local simp] rc_len rc_t4 rc_t1 rc_t2 rc_t3 rc_d1 rc_d2 rc_d3 rc_d4 rc_ag rc_one rc_eq

theorem ut_law {m : PS} {L : List It} {o : Op} (hL : PosL L) (hi : InvL m) (k0 : o.kd = 0) (hE : (callM m L o).2.2 = 0) :
    (∀ d ∈ (callM m L o).2.1, rtF d = true → (o.e.kd = 1 → d.sf = (callM m L o).1.fs ∧ d.cl = (callM m L o).1.fc) ∧ (o.e.kd ≠ 1 → d.sf = m.fs) ∧ ((callM m L o).1.pr ≠ [] → allowsM (callM m L o).1.g d.cl = true)) ∧
    cntR (callM m L o).2.1 ≤ 1 ∧
    (o.e.kd = 1 → m.pr = [] → (topM (callM m L o).1.g).1 = 0 → (atF L o.e.x o.e.y < 0 → (callM m L o).1.fs = 0 ∧ cntR (callM m L o).2.1 = 0) ∧
      ∀ n (hn : n < L.length), atF L o.e.x o.e.y = n → (callM m L o).1.fs = L[n].sf ∧ (callM m L o).1.fc = L[n].cl ∧ cntR (callM m L o).2.1 = 1) := by
  rw [call_err k0] at hE
  rw [call_feed k0, feed_raw hE]
  have hr := @raw_rt m L o.e
  simp only
  rw [cntR_grp]
  refine ⟨fun d hd hrt => ?_, hr.one, fun hm hp ht => ?_⟩
  · obtain ⟨x, hx, rfl | rfl⟩ := grp_mem _ _ hd
    · have h := hr.to d hx hrt
      refine ⟨fun hm => ?_, fun hm => ?_, h.2⟩
      · have h1 := h.1; rw [decide_eq_true hm, if_pos rfl] at h1; exact h1
      · have h1 := h.1; rw [decide_eq_false hm, if_neg (by simp)] at h1; exact h1
    · have := (rt_kd (frD x)).1 hrt
      simp [frD] at this
  · obtain ⟨t1, t2, t3, t4, t5, t6⟩ := tick_fs m o.e
    have e : rawM m L o.e = motM (tickM m o.e) L o.e := by unfold rawM; rw [if_pos hm]
    rw [e] at ht ⊢
    have hg := (mot_pr (tickM m o.e) L o.e).2.2
    rw [hg] at ht
    have hfl : (tickM m o.e).fl = false := by
      rw [t3, show m.fl = decide (m.pr ≠ []) from hi, hp]; rfl
    exact mot_free hL hfl ht
theorem at_rng (L : List It) (x y : Int) : ∀ n, n ≤ L.length → atG L x y n < 0 ∨ ∃ k, k < n ∧ atG L x y n = k
  | 0, _ => .inl (by unfold atG; decide)
  | n + 1, h => by
    have hlt : n < L.length := by omega
    cases hc : accF L[n] x y with
    | true => exact .inr ⟨n, by omega, atG_hit hlt hc⟩
    | false =>
      rw [atG_miss hlt hc]
      rcases at_rng L x y n (by omega) with h | ⟨k, h1, h2⟩
      · exact .inl h
      · exact .inr ⟨k, by omega, h2⟩
theorem cnt_take {O : List Dl} {k : Nat} (h : k < O.length) : cntR (O.take (k + 1)) = cntR (O.take k) + (if rtF O[k] = true then 1 else 0) := by
  rw [take_snoc' h, cntR_app]
  congr 1
  cases hr : rtF O[k] <;> simp [cntR, List.filter_cons, hr]
theorem opat3 {H : AH} {b : AV} {ops : List Op} (h : Rw H b (flat opc ops) ops.length 11) {i : Nat} (hi : i < ops.length) : ∃ p, (∀ k : AV → Prop, @iadSK 11 b (vi i) ⟨k⟩ = k p) ∧ (∀ H', Sub H H' → ∀ k : List AV → Prop, @SEE H' p 11 ⟨k⟩ = k (opc ops[i])) ∧
    (∃ q, (∀ k : AV → Prop, @fadrK 0 p ⟨k⟩ = k q) ∧ ∀ H', Sub H H' → ∀ k : List AV → Prop, @SEE H' q 1 ⟨k⟩ = k [vi ops[i].kd]) ∧ (∃ q, (∀ k : AV → Prop, @fadrK 3 p ⟨k⟩ = k q) ∧ ∀ H', Sub H H' → ∀ k : List AV → Prop, @SEE H' q 1 ⟨k⟩ = k [vi ops[i].sf]) ∧
    (∃ q, (∀ k : AV → Prop, @fadrK 5 p ⟨k⟩ = k q) ∧ (∀ H', Sub H H' → ∀ k : List AV → Prop, @SEE H' q 6 ⟨k⟩ = k (evc ops[i].e)) ∧
      (∃ q0, (∀ k : AV → Prop, @fadrK 0 q ⟨k⟩ = k q0) ∧ ∀ H', Sub H H' → ∀ k : List AV → Prop, @SEE H' q0 1 ⟨k⟩ = k [vi ops[i].e.kd]) ∧ (∃ q0, (∀ k : AV → Prop, @fadrK 2 q ⟨k⟩ = k q0) ∧ ∀ H', Sub H H' → ∀ k : List AV → Prop, @SEE H' q0 1 ⟨k⟩ = k [vi ops[i].e.x]) ∧ ∃ q0, (∀ k : AV → Prop, @fadrK 3 q ⟨k⟩ = k q0) ∧ ∀ H', Sub H H' → ∀ k : List AV → Prop, @SEE H' q0 1 ⟨k⟩ = k [vi ops[i].e.y]) := by
  obtain ⟨p, h1, h2⟩ := h.idx hi
  have e := flat_drop opc_l ops i hi
  rw [e] at h2
  have hl : (opc ops[i]).length = 11 := rfl
  have g : ∀ off v, off < 11 → (opc ops[i])[off]? = some v → ∃ q, (∀ kk : AV → Prop, @fadrK off p ⟨kk⟩ = kk q) ∧ ∀ H', Sub H H' → ∀ kk : List AV → Prop, @SEE H' q 1 ⟨kk⟩ = kk [v] := fun off v ho hv => by
    obtain ⟨q, h3, h4⟩ := h2.fadr (off := off) (by rw [List.length_append]; omega)
    refine ⟨q, h3, fun H' hs kk => ?_⟩
    rw [(h4.sub hs).see (by rw [List.length_drop, List.length_append]; omega), List.drop_append_of_le_length (by omega), List.drop_eq_getElem_cons (by omega)]
    have : (opc ops[i])[off] = v := (List.getElem?_eq_some_iff.1 hv).2
    subst this
    rfl
  refine ⟨p, h1, fun H' hs k => ?_, g 0 _ (by decide) rfl, g 3 _ (by decide) rfl, ?_⟩
  · rw [(h2.sub hs).see (by rw [List.length_append]; omega), List.take_append_of_le_length (by omega), List.take_of_length_le (by omega)]
  · obtain ⟨q, h3, h4⟩ := h2.fadr (off := 5) (by rw [List.length_append]; omega)
    have g2 : ∀ off (v : AV), off < 6 → (opc ops[i])[5 + off]? = some v → ∃ q0, (∀ kk : AV → Prop, @fadrK off q ⟨kk⟩ = kk q0) ∧ ∀ H', Sub H H' → ∀ kk : List AV → Prop, @SEE H' q0 1 ⟨kk⟩ = kk [v] := fun off v ho hv => by
      obtain ⟨q0, h5, h6⟩ := h4.fadr (off := off) (by rw [List.length_drop, List.length_append]; omega)
      refine ⟨q0, h5, fun H' hs kk => ?_⟩
      rw [(h6.sub hs).see (by simp only [List.length_drop, List.length_append]; omega), List.drop_drop, List.drop_append_of_le_length (by omega), List.drop_eq_getElem_cons (by omega)]
      have : (opc ops[i])[5 + off] = v := (List.getElem?_eq_some_iff.1 hv).2
      subst this
      rfl
    refine ⟨q, h3, fun H' hs k => ?_, g2 0 _ (by decide) rfl, g2 2 _ (by decide) rfl, g2 3 _ (by decide) rfl⟩
    rw [(h4.sub hs).see (by simp only [List.length_drop, List.length_append]; omega)]
    rfl
set_option maxHeartbeats 4000000 in
set_option maxRecDepth 20000 in
theorem c3 {H : AH} {K : AV → AH → Prop} {a b : AV} {Ls : List (List It)} {ops : List Op} (ha : Sc0 H a Ls) (hb : Rw H b (flat opc ops) ops.length 11) (hk : K (vb true) H) :
    @AC Tryz.prog 3 [.ag [a, b]] H ⟨K⟩ := by
  have oa : a.one = true := by obtain ⟨cs, h1, _⟩ := ha; exact Rw.one h1
  have ob := Rw.one hb
  have ca : a.cells = some [a] := by obtain ⟨cs, h1, _⟩ := ha; exact Rw.cells h1
  have cb := Rw.cells hb
  have lb := fun k => Rw.lenK hb (k := k)
  refine AC_of (.forget ?_)
  refine call_c follows cf3_ok (by simp) ?_
  simp [ca, cb]
  refine newK_of fun z hz => ?_
  have hzz : upd H z (.cells [a, b]) z = some (.cells [a, b]) := by simp [upd_apply]
  have hS : Sub H (upd H z (.cells [a, b])) := (Sub.refl H).upd hz
  simp
  generalize upd H z (.cells [a, b]) = H1 at *
  refine c7 fun B0 hB0 => ?_
  have hz1 := PV_sub hB0 _ _ hzz
  simp [hz1, oa, ob, ca, cb]
  have hS1 := hS.trans (PV_sub hB0)
  refine c8 (ha.sub hS1) (hb.sub hS1) fun bb hbb => ?_
  cases bb with
  | false =>
    simp
    refine c9 ?_
    simp
    exact ⟨H, hS1, hk⟩
  | true =>
    obtain ⟨h4, h40, hli⟩ := hbb rfl
    simp
    refine wpc_loop (fun s => ∃ (i : Nat) (c : Option (Nat × Bool × List AV)) (G : AH) (m : PS), s.n = 236 ∧ s.H = PV G { B0 with ch := c } m ∧ BOk G { B0 with ch := c } m ∧ Sub H1 G ∧ s.t 1 = pA z ∧ s.t 3 = pA B0.p ∧ s.t 5 = vi i ∧ i ≤ ops.length ∧ InvL m ∧ m.pr.length ≤ 16) (fun s => ops.length - slotN (s.t 5)) ?_ ?_
    · exact FgK.same ⟨0, B0.ch, H1, m0, by simp, by simp, hB0, Sub.refl _, by simp, by simp, by simp, by omega, invL0, by simp [m0]⟩
    rintro s ⟨i, c, G, m, hn, hH, hB, hG, e1, e3, e5, hil, hinvl, h16⟩
    have hzG : G z = some (.cells [a, b]) := hG _ _ hzz
    have kz := PV_sub hB _ _ hzG
    have hSG : Sub H (PV G { B0 with ch := c } m) := (hS.trans hG).trans (PV_sub hB)
    by_cases hlt : i < ops.length
    · have wr := IntWalk.i64_in ((i : Int) + 1) (by omega)
      obtain ⟨p, hp1, hp2, ⟨p0, hp3, hp4⟩, _, ⟨p5, hp5, _, ⟨p6, hp6, hp7⟩, ⟨p8, hp8, hp9⟩, ⟨p10, hp10, hp11⟩⟩⟩ := opat3 hb hlt
      generalize ops[i] = o at *
      have hol : (opc o).length = 11 := rfl
      simp (disch := omega) [hn, hH, e1, e3, e5, kz, lb, hlt, oa, ob, ca, cb, hp1, hp2 _ hSG]
      refine c10 (ha.ok hli) hSG cb (by omega) fun v hv => ?_
      have hLi := items_li hli o
      generalize itemsM Ls o = L at *
      have ov := Rw.one hv.1
      have cv := Rw.cells hv.1
      have hLl := hLi.len
      simp [ov, cv]
      refine c11 hB (by omega) fun r7 G1 hB1 hr7 => ?_
      have l7 := fun k => Rw.lenK hr7.2 (k := k)
      have l7 : ∀ k : AV → Prop, @lenK r7 ⟨k⟩ = k (vi (m.pr.length : Int)) := fun k => by rw [l7, sortI_len]
      have hG1 := hG.trans hr7.1
      have kz1 := PV_sub hB1 _ _ (hr7.1 _ _ hzG)
      have hS1G : Sub H (PV G1 { B0 with ch := c } m) := (hS.trans hG1).trans (PV_sub hB1)
      have hz1G := hr7.1 _ _ hzG
      simp [l7]
      refine c12 ?_
      simp
      refine c13 hB1 ?_
      simp [kz1, ob, hp1, hp2 _ hS1G, oa, ca, cb, ov, cv]
      refine c14 (o := o) hB1 (hv.sub (hS.trans hG1)) (by omega) fun c2 G2 out h2 hr2 => ?_
      have hinvl2 := call_invL (L := L) (o := o) hinvl
      have hut := fun k0 hE => ut_law (o := o) hLi.pos hinvl k0 hE
      have hnl := npr_len h16 o
      rw [← call_pr m L o] at hnl
      have hfl := call_len m L o
      have oc := Rw.cells hr2.rd
      have oo := Rw.one hr2.rd
      have hzG2 := hr2.1 _ _ hz1G
      have hG2 := hG1.trans hr2.1
      have hrd0 := hr2.rd
      generalize (callM m L o).2.2 = E at *
      generalize (callM m L o).1 = M2 at *
      generalize (callM m L o).2.1 = O2 at *
      have kz2 := PV_sub h2 _ _ hzG2
      have hS2 : Sub H (PV G2 { B0 with ch := c2 } M2) := (hS.trans hG2).trans (PV_sub h2)
      have hp4' := hp4 _ hS2
      simp [oc, oo, kz2, ob, hp1, hp3, hp4']
      by_cases k0 : o.kd = 0
      case neg =>
        simp [k0, wr]
        exact FgK.same ⟨⟨i + 1, c2, G2, M2, by simp, by simp, h2, hG2, by simp, by simp, by simp, by omega, hinvl2, hnl⟩, by simp [e5]; omega⟩
      case pos =>
      by_cases hE : E = 0
      case neg =>
        simp [k0, hE, wr]
        exact FgK.same ⟨⟨i + 1, c2, G2, M2, by simp, by simp, h2, hG2, by simp, by simp, by simp, by omega, hinvl2, hnl⟩, by simp [e5]; omega⟩
      case pos =>
      obtain ⟨hto, hone, hmot⟩ := hut k0 hE
      have hfl := hfl k0
      simp [k0, hE]
      refine c12 ?_
      simp
      refine c13 h2 ?_
      simp
      refine wpc_loop (fun s2 => ∃ (k : Nat) (G3 : AH), s2.n = 236 ∧ s2.H = PV G3 { B0 with ch := c2 } M2 ∧ BOk G3 { B0 with ch := c2 } M2 ∧ Sub G2 G3 ∧ s2.t 1 = pA z ∧ s2.t 3 = pA B0.p ∧ s2.t 5 = vi i ∧ s2.t 6 = v ∧ s2.t 7 = vb (decide (0 < m.pr.length)) ∧ s2.t 8 = vi m.fs ∧ s2.t 10 = out ∧ s2.t 12 = vi M2.fs ∧ s2.t 13 = vi M2.fc ∧ s2.t 14 = vi (cntR (O2.take k) : Int) ∧ s2.t 15 = vi k ∧ k ≤ O2.length) (fun s2 => O2.length - slotN (s2.t 15)) ?_ ?_
      · exact FgK.same ⟨0, G2, by simp, by simp, h2, Sub.refl _, by simp, by simp, by simp, by simp, by simp, by simp, by simp, by simp, by simp, by simp [cntR], by simp, by omega⟩
      rintro s2 ⟨k, G3, hn2, hH2, h3, hs3, f1, f3, f5, f6, f7, f8, f10, f12, f13, f14, f15, hko⟩
      have hrd := (hrd0.sub hs3).sub (PV_sub h3)
      have lo := fun k => Rw.lenK hrd (k := k)
      have kz3 := PV_sub h3 _ _ (hs3 _ _ hzG2)
      have hS3 : Sub H (PV G3 { B0 with ch := c2 } M2) := ((hS.trans hG2).trans hs3).trans (PV_sub h3)
      have hp4'' := hp4 _ hS3
      have hp7' := hp7 _ hS3
      have hp9' := hp9 _ hS3
      have hp11' := hp11 _ hS3
      by_cases hk2 : k < O2.length
      · have wk := IntWalk.i64_in ((k : Int) + 1) (by omega)
        have hk2' : (k : Int) < O2.length := by omega
        obtain ⟨q, q1, q2, ⟨q3, q4, q5⟩, ⟨q6, q7, q8⟩, _⟩ := dread hrd hk2 (n := (k : Int)) rfl
        have hct := cnt_take hk2
        have hto' := hto _ (List.getElem_mem hk2)
        have hcl : cntR (O2.take k) ≤ 6 := Nat.le_trans (List.length_filter_le ..) (by simp; omega)
        have wc := IntWalk.i64_in ((cntR (O2.take k) : Int) + 1) (by omega)
        generalize O2[k] = d at *
        have hdl : (dlc d).length = 9 := rfl
        simp (disch := omega) [hn2, hH2, f1, f3, f5, f6, f7, f8, f10, f14, f15, lo, hk2', q1, q2]
        refine c15 d ?_
        cases hrt : rtF d with
        | false =>
          rw [hrt, if_neg (by simp), Nat.add_zero] at hct
          simp [f15, wk]
          exact FgK.same ⟨⟨k + 1, G3, by simp, by simp, h3, hs3, by simp [f1], by simp [f3], by simp [f5], by simp [f6], by simp [f7], by simp [f8], by simp [f10], by simp [f12], by simp [f13], by simp [f14, hct], by simp, by omega⟩, by simp [f15]; omega⟩
        | true =>
          rw [hrt, if_pos rfl] at hct
          obtain ⟨g1, g2, g3⟩ := hto' hrt
          by_cases hmo : o.e.kd = 1
          case' pos =>
            have g1 := g1 hmo
            have f12' : s2.t 12 = vi d.sf := by rw [f12, g1.1]
            have f13' : s2.t 13 = vi d.cl := by rw [f13, g1.2]
            have hq12 : s2.t 12 = vi M2.fs := f12
            have hq13 : s2.t 13 = vi M2.fc := f13
            simp (disch := omega) [f1, f3, f5, f8, f10, f12', f13', f14, f15, wc, kz3, ob, hp1, hp5, hp6, hp7', hmo, q1, q4, q5, q7, q8]
          case' neg =>
            have g2 := g2 hmo
            simp (disch := omega) [f1, f3, f5, f8, f10, f12, f13, f14, f15, wc, kz3, ob, hp1, hp5, hp6, hp7', hmo, q1, q4, q5, q7, q8, g2]
          all_goals
            refine c16 ?_
            simp [q1, q4, q5]
            cases hal : allowsM M2.g d.cl with
            | true =>
              refine c17 h3.stack h3.ch100 d.cl ?_
              simp [hal, f15, wk]
              exact FgK.same ⟨⟨k + 1, G3, by simp, by simp, h3, hs3, by simp [f1], by simp [f3], by simp [f5], by simp [f6], by simp [f7], by simp [f8], by simp [f10], by first | (simp [f12]; done) | (simp [g1.1]; done), by first | (simp [f13]; done) | (simp [g1.2]; done), by simp [hct], by simp, by omega⟩, by simp [f15]; omega⟩
            | false =>
              have hpe : M2.pr = [] := by
                by_cases h : M2.pr = []
                · exact h
                · have := g3 h; rw [hal] at this; cases this
              refine c17 h3.stack h3.ch100 d.cl ?_
              simp [hal, f3]
              refine c11 h3 (by omega) fun r9 G4 h4 hr9 => ?_
              have l9 := fun k => Rw.lenK hr9.2 (k := k)
              have l9 : ∀ k : AV → Prop, @lenK r9 ⟨k⟩ = k (vi (M2.pr.length : Int)) := fun k => by rw [l9, sortI_len]
              simp [l9, hpe, f15, wk]
              exact FgK.same ⟨⟨k + 1, G4, by simp, by simp, h4, hs3.trans hr9.1, by simp [f1], by simp [f3], by simp [f5], by simp [f6], by simp [f7], by simp [f8], by simp [f10], by first | (simp [f12]; done) | (simp [g1.1]; done), by first | (simp [f13]; done) | (simp [g1.2]; done), by simp [hct], by simp, by omega⟩, by simp [f15]; omega⟩
      · have hkl : k = O2.length := by omega
        subst hkl
        rw [List.take_length] at f14
        have hone' : ¬ (1 : Int) < cntR O2 := by omega
        have nxt : ∀ s' : ASt, s'.n = 236 → s'.H = PV G3 { B0 with ch := c2 } M2 → s'.t 1 = pA z → s'.t 3 = pA B0.p → s'.t 5 = vi ((i : Int) + 1) → (∃ (i : Nat) (c : Option (Nat × Bool × List AV)) (G : AH) (m : PS), s'.n = 236 ∧ s'.H = PV G { B0 with ch := c } m ∧ BOk G { B0 with ch := c } m ∧ Sub H1 G ∧ s'.t 1 = pA z ∧ s'.t 3 = pA B0.p ∧ s'.t 5 = vi i ∧ i ≤ ops.length ∧ InvL m ∧ m.pr.length ≤ 16) ∧ ops.length - slotN (s'.t 5) < ops.length - slotN (s.t 5) :=
          fun s' g1 g2 g3 g4 g5 => ⟨⟨i + 1, c2, G3, M2, g1, g2, h3, hG2.trans hs3, g3, g4, by rw [g5]; rfl, by omega, hinvl2, hnl⟩, by rw [g5, e5]; simp [slotN]; omega⟩
        simp (disch := omega) [hn2, hH2, f1, f3, f5, f6, f7, f8, f10, f12, f13, f14, f15, lo]
        refine c16 ?_
        simp
        refine c18 h3.stack h3.ch100 ?_
        by_cases hgo : o.e.kd = 1 ∧ m.pr = [] ∧ (topM M2.g).1 = 0
        · obtain ⟨hm1, hpe, ht0⟩ := hgo
          obtain ⟨hneg, hpos⟩ := hmot hm1 hpe ht0
          have hpl : m.pr.length = 0 := by rw [hpe]; rfl
          simp (disch := omega) [f1, f3, f5, f6, f7, f12, f13, f14, hone', kz3, ob, hp1, hp5, hp6, hp7', hp8, hp9', hp10, hp11', hm1, hpe, ht0, cv]
          refine c19 ((hv.sub (hS.trans (hG2.trans hs3))).sub (PV_sub h3)) hLi ?_
          rcases at_rng L o.e.x o.e.y L.length (Nat.le_refl _) with hat | ⟨n, hn', hat⟩
          · have hat' : atF L o.e.x o.e.y < 0 := hat
            obtain ⟨y1, y2⟩ := hneg hat'
            have hat2 : ¬ 0 ≤ atF L o.e.x o.e.y := by omega
            simp [hat', hat2, f12, f14, y1, y2, wr, f5]
            refine FgK.same (nxt _ ?_ ?_ ?_ ?_ ?_) <;> simp [f1, f3]
          · have hat' : atF L o.e.x o.e.y = n := hat
            obtain ⟨y1, y2, y3⟩ := hpos n hn' hat'
            obtain ⟨r, r1, _, rf⟩ := fat itc_l ((hv.1.sub (hS.trans (hG2.trans hs3))).sub (PV_sub h3)) hn'
            obtain ⟨r2, r3, r4⟩ := rf 0 (vi L[n].sf) rfl
            obtain ⟨r5, r6, r7⟩ := rf 1 (vi L[n].cl) rfl
            have hnn : ¬ ((n : Nat) : Int) < 0 := by omega
            generalize L[n] = it at *
            rw [hat']
            simp [hnn, f6, f12, f13, f14, r1, r3, r4 _ (Sub.refl _), r6, r7 _ (Sub.refl _), y1, y2, y3, wr, f5]
            refine FgK.same (nxt _ ?_ ?_ ?_ ?_ ?_) <;> simp [f1, f3]
        · have hcase : ¬ o.e.kd = 1 ∨ (o.e.kd = 1 ∧ m.pr ≠ []) ∨ (o.e.kd = 1 ∧ m.pr = [] ∧ (topM M2.g).1 ≠ 0) := by
            by_cases h1 : o.e.kd = 1
            · by_cases h2 : m.pr = []
              · exact .inr (.inr ⟨h1, h2, fun h => hgo ⟨h1, h2, h⟩⟩)
              · exact .inr (.inl ⟨h1, h2⟩)
            · exact .inl h1
          rcases hcase with c1 | ⟨c1, c2'⟩ | ⟨c1, c2', c3⟩
          · simp (disch := omega) [f1, f3, f5, f6, f7, f12, f13, f14, hone', kz3, ob, hp1, hp5, hp6, hp7', c1, wr]
            refine FgK.same (nxt _ ?_ ?_ ?_ ?_ ?_) <;> simp [f1, f3]
          · have hpl : 0 < m.pr.length := by
              have : m.pr.length ≠ 0 := fun h => c2' (List.length_eq_zero_iff.1 h)
              omega
            simp (disch := omega) [f1, f3, f5, f6, f7, f12, f13, f14, hone', kz3, ob, hp1, hp5, hp6, hp7', c1, hpl, wr]
            refine FgK.same (nxt _ ?_ ?_ ?_ ?_ ?_) <;> simp [f1, f3]
          · simp (disch := omega) [f1, f3, f5, f6, f7, f12, f13, f14, hone', kz3, ob, hp1, hp5, hp6, hp7', c1, c2', c3, wr]
            refine FgK.same (nxt _ ?_ ?_ ?_ ?_ ?_) <;> simp [f1, f3]
    · simp (disch := omega) [hn, hH, e1, e3, e5, kz, lb, hlt, oa, ob]
      refine c9 ?_
      simp
      exact ⟨H, hSG, hk⟩
theorem law_PointerUniqueTarget (xs : List AV) (hf : FitsT [(true, [.sl [.sl itL], .sl opL])] xs) : ACall Tryz.prog 3 xs (fun _ => none) (fun v _ => v = vb true) := by
  obtain ⟨a, rfl, h⟩ := hf.one
  obtain ⟨v, w, Ls, ops, rfl, h1, h2⟩ := fitSet h
  exact c3 (h1 _) (h2 _) rfl
end Go.Proofs.YtmpncpamndhmcaaGreat
end

/-! PointerUniqueTarget: for every scenes and calls the law returns true, and its argument reads as it did. No conditions: every input that the row admits. -/
section
namespace Go.Proofs.YtmpncpamndhmcaaGreat
open Go Go.Ab Go.RowKit Go.ChangeShapes Go.WideShapes Go.ChangeAt
set_option linter.unusedSimpArgs false
set_option linter.unusedVariables false
set_option linter.unnecessarySimpa false

attribute [local simp] condK_true condK_false condK_not wpc_skip wpc_ret wpc_exit wpc_seq wpc_reg wpc_regD testA_bool wpc_cond wpc_block thenA_normal thenA_ret thenA_exit blockA_normal blockA_ret blockA_exit blockA_other endA_normal endA_ret ev_tmp' ev_const ev_func ev_global cv_int cv_bool cv_string cv_pointer cv_slice cv_agg cv_map put_some put_none wH_s setE_apply setE_env less_eq env_cons env_nil upd_upd upd_apply del_apply startA_eq cells_ag cells_sl one_sl cells_vs one_vs cells_ep one_ep cells_fn one_fn cells_int one_int cells_bool one_bool cells_string one_string cells_pointer one_pointer cells_slice one_slice cells_map one_map cells_agg resK_one resK_nil resK_two rvK_t rvK_c rvsK_nil rvsK_cons iseq_nil iseq_cons gdA_true gdA_false gdA_undef istep_free istep_guard istepV_free istepV_guard dseq_nil dseq_pu dseq_rd dseq_ef wpc_regT dtree_nil dtree_pu dtree_rd dtree_ef dtree_br chkAll_nil chkAll_cons andK_true pickK_true pickK_false pickK_tb pickK_fb bin2K_pl eqbK_eq eqbK_ne eqpK_eq eqpK_ne eqmK_eq eqmK_ne eqzK_eq eqzK_ne eqzK_sl eqzK_vs un1K_pl convK_int fillK_some fillA_cons fillA_nil cellsK_some needK_true needK_ok seeK_ep seeK_ptr oneK_agg oneK_one nilcK_ptr nilcK_ep fadrK_ptr fadrK_ep fldK_ag iadAK_ptr iadAK_ep iadSK_sl iadSK_vs extK_0 extK_1 extK_2 extK_3 lenK_pl lenK_sl lenK_vs lensK_pl boxK_some minmax1K_int storeK_ptr callvK_fn callvK_pl newsK_nil newsK_vs newsK_sl appK_nil appK_nil0 appK_sl appK_vs bnd1K_int bndK_none bndK_some slsK_vs slsK_nil slsK_sl0 slsK_sl slstrK_pl boolK_some eqsK_ag iop_eqs iop_sls iop_slstr seesK_some seesK_ro mapsK_some MAP_some findK_some findK_none plK_pl nmapK_none nmapK_some iop_mlook iop_mlen iop_mmk iop_mupd iop_mdel iop_mrng itK_none itK_some ptr0K_ptr iop_mnxt iop_ment it1K_some entK_some iop_mov iop_pick iop_bin iop_eqb iop_eqp iop_eqm iop_eqz iop_un capK_pl capK_sl capK_vs iop_cap apzK_nil iop_apz mksK_int iop_mks clrK_sl clrK_vs clrK_nil iop_clr iop_conv iop_build iop_load iop_nilc iop_fadr iop_fld iop_iadA iop_iadS iop_ext iop_mkf iop_len iop_lens iop_minmax iop_al iop_box iop_bsl iop_store iop_call iop_callv iop_app BIN_add BIN_sub BIN_mul BIN_and BIN_or BIN_xor BIN_andNot BIN_eql BIN_neq BIN_lss BIN_leq BIN_gtr BIN_geq BIN_quo BIN_rem BIN_shl BIN_shr BIN_sadd BIN_seql BIN_sneq BIN_slss BIN_sleq BIN_sgtr BIN_sgeq UN_neg UN_xor UN_not MM_nil MM_cons partsA argsA ptrA lessL eqL min2I slotN_int slotP_int slotI_int

set_option maxRecDepth 100000

theorem pointerUniqueTarget_lifted (os : Os) (started : os.Started) (H : Type) (enc : TypeId × Value → H) :
    ReturnsInHanded {} Tryz.checked os 3 .any (Rows.pointerUniqueTargetSpec.pre6 enc Tryz.prog Tryz.f3 Rows.pointerUniqueTargetRow.domain false) (Rows.pointerUniqueTargetSpec.post enc Tryz.prog Tryz.f3 false true false false) := by
  refine returnsInHanded_of_change_sized (C := Tryz.checked) own started (by kernel_rfl) Tryz.func3
    (ChangeSpec.witness6 (enc := enc) (C := Tryz.checked) false ⟨#[], #[.agg #[.slice none 0 0, .slice none 0 0]], []⟩ 8 (by kernel_rfl) (by kernel_rfl) (by kernel_rfl) (by kernel_rfl)) ?_
  intro W base args ds gs before hval hW _ _ _
  refine law_contract (L := [(true, [.sl [.sl itL], .sl opL])]) laidOut (by kernel_rfl) rfl (fun ds hd => ?_) ⟨_, rfl, by kernel_rfl⟩ ?_ (fun xs hf => law_PointerUniqueTarget xs hf) W base args ds gs before hval hW
  · match ds, hd with
    | [d0], _ => exact ⟨rfl, rfl, rfl⟩
  · exact of_decide_eq_true (by kernel_rfl)

theorem pointerUniqueTarget_holds : Rows.PointerUniqueTargetSaid :=
  OpenClaim.holds_of_wide 3 Tryz.f3 rfl rfl rfl rfl rfl rfl rfl ⟨rfl, rfl, rfl, rfl, rfl⟩ rfl rfl rfl rfl rfl (by kernel_rfl) Tryz.func3 (by kernel_rfl)
    (of_decide_eq_true (by kernel_rfl)) (by unfold Func.isWrapper; first | (rw [if_pos (by decide +kernel)]; kernel_rfl) | (rw [if_neg (by decide +kernel)]; exact ⟨rfl, rfl⟩))
    (fun os started H enc _ => pointerUniqueTarget_lifted os started H enc)
end Go.Proofs.YtmpncpamndhmcaaGreat
end
