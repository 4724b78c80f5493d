/-
  Several texts in one: P41; P42. Conditions: as each lemma states them.
-/
import Derived.Test.YtmpncpamndhmcaaGreatMQ
import Derived.Test.YtmpncpamndhmcaaGreatXRow
import Derived.Test.YtmpncpamndhmcaaGreatRows
import Derived.WalkKit
import Derived.ProofKit
/-! PointerImplicit, walked. Conditions: as each lemma states them. -/
section
namespace Go.Proofs.YtmpncpamndhmcaaGreat
open Go Go.Ab Go.RowKit
set_option linter.unusedSimpArgs false
set_option linter.unusedVariables false
set_option linter.unnecessarySimpa false

attribute [local simp] condK_true condK_false condK_not wpc_skip wpc_ret wpc_exit wpc_seq wpc_reg wpc_regD testA_bool wpc_cond wpc_block thenA_normal thenA_ret thenA_exit blockA_normal blockA_ret blockA_exit blockA_other endA_normal endA_ret ev_tmp' ev_const ev_func ev_global cv_int cv_bool cv_string cv_pointer cv_slice cv_agg cv_map put_some put_none wH_s setE_apply setE_env less_eq env_cons env_nil upd_upd upd_apply del_apply startA_eq cells_ag cells_sl one_sl cells_vs one_vs cells_ep one_ep cells_fn one_fn cells_int one_int cells_bool one_bool cells_string one_string cells_pointer one_pointer cells_slice one_slice cells_map one_map cells_agg resK_one resK_nil resK_two rvK_t rvK_c rvsK_nil rvsK_cons iseq_nil iseq_cons gdA_true gdA_false gdA_undef istep_free istep_guard istepV_free istepV_guard dseq_nil dseq_pu dseq_rd dseq_ef wpc_regT dtree_nil dtree_pu dtree_rd dtree_ef dtree_br chkAll_nil chkAll_cons andK_true pickK_true pickK_false pickK_tb pickK_fb bin2K_pl eqbK_eq eqbK_ne eqpK_eq eqpK_ne eqmK_eq eqmK_ne eqzK_eq eqzK_ne eqzK_sl eqzK_vs un1K_pl convK_int fillK_some fillA_cons fillA_nil cellsK_some needK_true needK_ok seeK_ep seeK_ptr oneK_agg oneK_one nilcK_ptr nilcK_ep fadrK_ptr fadrK_ep fldK_ag iadAK_ptr iadAK_ep iadSK_sl iadSK_vs extK_0 extK_1 extK_2 extK_3 lenK_pl lenK_sl lenK_vs lensK_pl boxK_some minmax1K_int storeK_ptr callvK_fn callvK_pl newsK_nil newsK_vs newsK_sl appK_nil appK_nil0 appK_sl appK_vs bnd1K_int bndK_none bndK_some slsK_vs slsK_nil slsK_sl0 slsK_sl slstrK_pl boolK_some eqsK_ag iop_eqs iop_sls iop_slstr seesK_some seesK_ro mapsK_some MAP_some findK_some findK_none plK_pl nmapK_none nmapK_some iop_mlook iop_mlen iop_mmk iop_mupd iop_mdel iop_mrng itK_none itK_some ptr0K_ptr iop_mnxt iop_ment it1K_some entK_some iop_mov iop_pick iop_bin iop_eqb iop_eqp iop_eqm iop_eqz iop_un capK_pl capK_sl capK_vs iop_cap apzK_nil iop_apz mksK_int iop_mks clrK_sl clrK_vs clrK_nil iop_clr iop_conv iop_build iop_load iop_nilc iop_fadr iop_fld iop_iadA iop_iadS iop_ext iop_mkf iop_len iop_lens iop_minmax iop_al iop_box iop_bsl iop_store iop_call iop_callv iop_app BIN_add BIN_sub BIN_mul BIN_and BIN_or BIN_xor BIN_andNot BIN_eql BIN_neq BIN_lss BIN_leq BIN_gtr BIN_geq BIN_quo BIN_rem BIN_shl BIN_shr BIN_sadd BIN_seql BIN_sneq BIN_slss BIN_sleq BIN_sgtr BIN_sgeq UN_neg UN_xor UN_not MM_nil MM_cons partsA argsA ptrA lessL eqL min2I slotN_int slotP_int slotI_int
attribute [local simp] rc_len rc_t4 rc_t1 rc_t2 rc_t3 rc_d1 rc_d2 rc_d3 rc_d4 rc_ag rc_one rc_eq

theorem cut_len (m : M) (k : Nat) : (cutM m k).2.length ≤ m.ch.length := by simp [cutM]
theorem call_len2 {G : AH} {B : PB} {m : PS} (h : BOk G B m) (L : List It) (o : Op) : (callM m L o).2.1.length ≤ 100 := by
  have h100 := h.ch100
  by_cases k0 : o.kd = 0
  · exact Nat.le_trans (call_len m L o k0) (by decide)
  unfold callM
  rw [if_neg k0]
  repeat' split
  all_goals simp only [List.length_map, List.length_nil]
  all_goals first
    | exact Nat.zero_le _
    | (unfold dismissM; split; exact Nat.zero_le _; exact Nat.le_trans (cut_len _ _) (by omega))
    | (unfold clickM; split; exact Nat.zero_le _; split; exact Nat.le_trans (cut_len _ _) (by omega); split; exact Nat.zero_le _; exact Nat.le_trans (cut_len _ _) (by omega))
set_option maxHeartbeats 4000000 in
set_option maxRecDepth 20000 in
theorem c4 {H : AH} {K : AV → AH → Prop} {a b : AV} {Ls : List (List It)} {ops : List Op} (ha : Sc0 H a Ls) (hb : Rw H b (flat opc ops) ops.length 11) (hk : K (vb true) H) :
    @AC Tryz.prog 4 [.ag [a, b]] H ⟨K⟩ := by
  have oa : a.one = true := by obtain ⟨cs, h1, _⟩ := ha; exact Rw.one h1
  have ob := Rw.one hb
  have ca : a.cells = some [a] := by obtain ⟨cs, h1, _⟩ := ha; exact Rw.cells h1
  have cb := Rw.cells hb
  have lb := fun k => Rw.lenK hb (k := k)
  refine AC_of (.forget ?_)
  refine call_c follows cf4_ok (by simp) ?_
  simp [ca, cb]
  refine newK_of fun z hz => ?_
  have hzz : upd H z (.cells [a, b]) z = some (.cells [a, b]) := by simp [upd_apply]
  have hS : Sub H (upd H z (.cells [a, b])) := (Sub.refl H).upd hz
  simp
  generalize upd H z (.cells [a, b]) = H1 at *
  refine c7 fun B0 hB0 => ?_
  have hz1 := PV_sub hB0 _ _ hzz
  simp [hz1, oa, ob, ca, cb]
  have hS1 := hS.trans (PV_sub hB0)
  refine c8 (ha.sub hS1) (hb.sub hS1) fun bb hbb => ?_
  cases bb with
  | false =>
    simp
    refine c9 ?_
    simp
    exact ⟨H, hS1, hk⟩
  | true =>
    obtain ⟨h4, h40, hli⟩ := hbb rfl
    simp
    refine wpc_loop (fun s => ∃ (i : Nat) (c : Option (Nat × Bool × List AV)) (G : AH) (m : PS) (t : Int), s.n = 151 ∧ s.H = PV G { B0 with ch := c } m ∧ BOk G { B0 with ch := c } m ∧ Sub H1 G ∧ s.t 1 = pA z ∧ s.t 3 = pA B0.p ∧ s.t 5 = vi t ∧ s.t 6 = vi i ∧ i ≤ ops.length ∧ InvF m ∧ InvL m ∧ m.pr.length ≤ 16 ∧ (m.pr ≠ [] → t = m.fs)) (fun s => ops.length - slotN (s.t 6)) ?_ ?_
    · exact FgK.same ⟨0, B0.ch, H1, m0, 0, by simp, by simp, hB0, Sub.refl _, by simp, by simp, by simp, by simp, by omega, inv0, invL0, by simp [m0], by simp [m0]⟩
    rintro s ⟨i, c, G, m, t, hn, hH, hB, hG, e1, e3, e5, e6, hil, hinv, hinvl, h16, htf⟩
    have hzG : G z = some (.cells [a, b]) := hG _ _ hzz
    have kz := PV_sub hB _ _ hzG
    by_cases hlt : i < ops.length
    · have wr := IntWalk.i64_in ((i : Int) + 1) (by omega)
      obtain ⟨p, hp1, hp2, ⟨p0, hp3, hp4⟩, ⟨p5, hp5, hp6⟩⟩ := opat hb hlt
      generalize ops[i] = o at *
      have hol : (opc o).length = 11 := rfl
      simp (disch := omega) [hn, hH, e1, e3, e5, e6, kz, lb, hlt, oa, ob, ca, cb]
      refine c11 hB (by omega) fun r7 G1 hB1 hr7 => ?_
      have l7 := fun k => Rw.lenK hr7.2 (k := k)
      have l7 : ∀ k : AV → Prop, @lenK r7 ⟨k⟩ = k (vi (m.pr.length : Int)) := fun k => by rw [l7, sortI_len]
      have hG1 := hG.trans hr7.1
      have kz1 := PV_sub hB1 _ _ (hr7.1 _ _ hzG)
      have hS1G : Sub H (PV G1 { B0 with ch := c } m) := (hS.trans hG1).trans (PV_sub hB1)
      have hz1G := hr7.1 _ _ hzG
      by_cases hpr : m.pr = []
      case' pos =>
        simp [l7, hpr]
        refine c12 ?_
        simp
        refine c13 hB1 ?_
        simp [kz1, ob, hp1, hp2 _ hS1G, oa, ca, cb]
      case' neg =>
        have hpl : 0 < m.pr.length := by
          have : m.pr.length ≠ 0 := fun h => hpr (List.length_eq_zero_iff.1 h)
          omega
        have htf' := htf hpr
        subst htf'
        simp [l7, hpl, kz1, ob, hp1, hp2 _ hS1G, oa, ca, cb]
      all_goals
        refine c10 (ha.ok hli) hS1G cb (by omega) fun v hv => ?_
        have hLi := items_li hli o
        generalize itemsM Ls o = L at *
        have ov := Rw.one hv.1
        have cv := Rw.cells hv.1
        simp [ov, cv, kz1, ob, hp1, hp2 _ hS1G]
        refine c14 (o := o) hB1 (hv.sub (hS.trans hG1)) (by have := hLi.len; omega) fun c2 G2 out h2 hr2 => ?_
        have hinv2 := call_inv hinv hLi.pos o
        have hinvl2 := call_invL (L := L) (o := o) hinvl
        have hheld := call_held (o := o) hinv hLi.pos hinvl
        have hnl := npr_len h16 o
        rw [← call_pr m L o] at hnl
        have hfl := call_len2 hB1 L o
        have oc := Rw.cells hr2.rd
        have oo := Rw.one hr2.rd
        have hzG2 := hr2.1 _ _ hz1G
        have hG2 := hG1.trans hr2.1
        have hrd0 := hr2.rd
        generalize (callM m L o).2.2 = E at *
        generalize (callM m L o).1 = M2 at *
        generalize (callM m L o).2.1 = O2 at *
        have kz2 := PV_sub h2 _ _ hzG2
        have hS2 : Sub H (PV G2 { B0 with ch := c2 } M2) := (hS.trans hG2).trans (PV_sub h2)
        have hp4' := hp4 _ hS2
        have hp6' := hp6 _ hS2
        obtain ⟨T, hT⟩ : ∃ T, T = entF o m.fs := ⟨_, rfl⟩
        rw [← hT] at hheld
        simp [oc, oo, kz2, ob, hp1, hp3, hp4']
        have hcase : (o.kd < 0 ∧ o.sf = m.fs) ∨ (o.kd < 0 ∧ o.sf ≠ m.fs) ∨ (¬ o.kd < 0 ∧ 5 < o.kd ∧ o.sf = m.fs) ∨ (¬ o.kd < 0 ∧ 5 < o.kd ∧ o.sf ≠ m.fs) ∨ (¬ o.kd < 0 ∧ ¬ 5 < o.kd) := by omega
        rcases hcase with ⟨d1, d3⟩ | ⟨d1, d3⟩ | ⟨d1, d2, d3⟩ | ⟨d1, d2, d3⟩ | ⟨d1, d2⟩
        case' inl =>
          have he1 : T = 0 := by rw [hT]; unfold entF; rw [if_pos ⟨.inl d1, d3⟩]
          simp [d1, hp1, hp5, hp6', kz2, ob, d3]
        case' inr.inl =>
          have he1 : T = m.fs := by rw [hT]; unfold entF; rw [if_neg (fun h => d3 h.2)]
          simp [d1, hp1, hp5, hp6', kz2, ob, d3]
        case' inr.inr.inl =>
          have he1 : T = 0 := by rw [hT]; unfold entF; rw [if_pos ⟨.inr d2, d3⟩]
          simp [d1, d2, hp1, hp3, hp4', hp5, hp6', kz2, ob, d3]
        case' inr.inr.inr.inl =>
          have he1 : T = m.fs := by rw [hT]; unfold entF; rw [if_neg (fun h => d3 h.2)]
          simp [d1, d2, hp1, hp3, hp4', hp5, hp6', kz2, ob, d3]
        case' inr.inr.inr.inr =>
          have he1 : T = m.fs := by rw [hT]; unfold entF; rw [if_neg (fun h => h.1.elim d1 d2)]
          simp [d1, d2, hp1, hp3, hp4', kz2, ob]
        all_goals
          refine c12 ?_
          simp
          refine c13 h2 ?_
          simp
          refine c11 h2 (by omega) fun r9 G3 h3 hr9 => ?_
          have l9 := fun k => Rw.lenK hr9.2 (k := k)
          have l9 : ∀ k : AV → Prop, @lenK r9 ⟨k⟩ = k (vi (M2.pr.length : Int)) := fun k => by rw [l9, sortI_len]
          have kz3 := PV_sub h3 _ _ (hr9.1 _ _ hzG2)
          by_cases hp2' : M2.pr = []
          case' pos =>
            simp [l9, hp2']
          case' neg =>
            have hpl2 : 0 < M2.pr.length := by
              have : M2.pr.length ≠ 0 := fun h => hp2' (List.length_eq_zero_iff.1 h)
              omega
            have hfs := (hheld hp2').1
            rw [he1] at hfs
            simp [l9, hpl2, hfs]
          all_goals
            refine wpc_loop (fun s2 => ∃ (k : Nat) (G3 : AH), s2.n = 151 ∧ s2.H = PV G3 { B0 with ch := c2 } M2 ∧ BOk G3 { B0 with ch := c2 } M2 ∧ Sub G2 G3 ∧ s2.t 1 = pA z ∧ s2.t 3 = pA B0.p ∧ s2.t 5 = vi T ∧ s2.t 6 = vi i ∧ s2.t 8 = out ∧ s2.t 9 = vi E ∧ s2.t 13 = vi k ∧ k ≤ O2.length) (fun s2 => O2.length - slotN (s2.t 13)) ?_ ?_
            · exact FgK.same ⟨0, G3, by simp, by simp, h3, hr9.1, by simp, by simp, by simp [he1], by simp, by simp, by simp, by simp, by omega⟩
            rintro s2 ⟨k, G4, hn2, hH2, h4, hs4, f1, f3, f5, f6, f8, f9, f13, hko⟩
            have hrd := (hrd0.sub hs4).sub (PV_sub h4)
            have lo := fun k => Rw.lenK hrd (k := k)
            have kz4 := PV_sub h4 _ _ (hs4 _ _ hzG2)
            have hS4 : Sub H (PV G4 { B0 with ch := c2 } M2) := (((hS.trans hG2).trans hs4)).trans (PV_sub h4)
            have hp4'' := hp4 _ hS4
            by_cases hk2 : k < O2.length
            · have wk := IntWalk.i64_in ((k : Int) + 1) (by omega)
              have hk2' : (k : Int) < O2.length := by omega
              by_cases hgo : o.kd = 0 ∧ E = 0
              · obtain ⟨hk0, hE0⟩ := hgo
                simp (disch := omega) [hn2, hH2, f1, f3, f5, f6, f8, f9, f13, lo, hk2', kz4, ob, hp1, hp3, hp4'', hk0, hE0]
                refine c11 h4 (by omega) fun r5 G5 h5 hr5 => ?_
                have l5 := fun k => Rw.lenK hr5.2 (k := k)
                have l5 : ∀ k : AV → Prop, @lenK r5 ⟨k⟩ = k (vi (M2.pr.length : Int)) := fun k => by rw [l5, sortI_len]
                have hrd5 := (hrd0.sub (hs4.trans hr5.1)).sub (PV_sub h5)
                by_cases hp3' : M2.pr = []
                · simp [l5, hp3', f13, wk]
                  exact FgK.same ⟨⟨k + 1, G5, by simp, by simp, h5, hs4.trans hr5.1, by simp [f1], by simp [f3], by simp [f5], by simp [f6], by simp [f8], by simp [f9, hE0], by simp, by omega⟩, by simp [f13]; omega⟩
                · have hpl3 : 0 < M2.pr.length := by
                    have : M2.pr.length ≠ 0 := fun h => hp3' (List.length_eq_zero_iff.1 h)
                    omega
                  obtain ⟨q, q1, q2, _, ⟨q6, q7, q8⟩, ⟨q9, q10, q11⟩, _⟩ := dread hrd5 hk2 (n := (k : Int)) rfl
                  have hdd := (hheld hp3').2 hk0 hE0 _ (List.getElem_mem hk2)
                  generalize O2[k] = d at *
                  simp [l5, hpl3, f13, f8, f5, q1, q7, q8, q10, q11, hdd.1, hdd.2.1, hdd.2.2, wk]
                  exact FgK.same ⟨⟨k + 1, G5, by simp, by simp, h5, hs4.trans hr5.1, by simp [f1], by simp [f3], by simp [f5], by simp [f6], by simp [f8], by simp [f9, hE0], by simp, by omega⟩, by simp [f13]; omega⟩
              · by_cases hk0 : o.kd = 0
                case' pos =>
                  have hE0 : ¬ E = 0 := fun h => hgo ⟨hk0, h⟩
                  simp (disch := omega) [hn2, hH2, f1, f3, f5, f6, f8, f9, f13, lo, hk2', kz4, ob, hp1, hp3, hp4'', hk0, hE0, wk]
                case' neg =>
                  simp (disch := omega) [hn2, hH2, f1, f3, f5, f6, f8, f9, f13, lo, hk2', kz4, ob, hp1, hp3, hp4'', hk0, wk]
                all_goals
                  exact FgK.same ⟨⟨k + 1, G4, by simp, by simp, h4, hs4, by simp [f1], by simp [f3], by simp [f5], by simp [f6], by simp [f8], by simp [f9], by simp, by omega⟩, by simp [f13]; omega⟩
            · have hk2' : ¬ (k : Int) < O2.length := by omega
              simp (disch := omega) [hn2, hH2, f1, f3, f5, f6, f8, f9, f13, lo, hk2', wr]
              refine FgK.same ⟨⟨i + 1, c2, G4, M2, T, by simp, by simp, h4, hG2.trans hs4, by simp [f1], by simp [f3], by simp [f5], by simp, by omega, hinv2, hinvl2, hnl, fun h => (hheld h).1.symm⟩, by simp [e6]; omega⟩
    · simp (disch := omega) [hn, hH, e1, e3, e6, kz, lb, hlt, oa, ob]
      refine c9 ?_
      simp
      exact ⟨H, (hS.trans hG).trans (PV_sub hB), hk⟩
theorem law_PointerImplicit (xs : List AV) (hf : FitsT [(true, [.sl [.sl itL], .sl opL])] xs) : ACall Tryz.prog 4 xs (fun _ => none) (fun v _ => v = vb true) := by
  obtain ⟨a, rfl, h⟩ := hf.one
  obtain ⟨v, w, Ls, ops, rfl, h1, h2⟩ := fitSet h
  exact c4 (h1 _) (h2 _) rfl
end Go.Proofs.YtmpncpamndhmcaaGreat
end

/-! PointerImplicit: for every scenes and calls the law returns true, and its argument reads as it did. No conditions: every input that the row admits. -/
section
namespace Go.Proofs.YtmpncpamndhmcaaGreat
open Go Go.Ab Go.RowKit Go.ChangeShapes Go.WideShapes Go.ChangeAt
set_option linter.unusedSimpArgs false
set_option linter.unusedVariables false
set_option linter.unnecessarySimpa false

attribute [local simp] condK_true condK_false condK_not wpc_skip wpc_ret wpc_exit wpc_seq wpc_reg wpc_regD testA_bool wpc_cond wpc_block thenA_normal thenA_ret thenA_exit blockA_normal blockA_ret blockA_exit blockA_other endA_normal endA_ret ev_tmp' ev_const ev_func ev_global cv_int cv_bool cv_string cv_pointer cv_slice cv_agg cv_map put_some put_none wH_s setE_apply setE_env less_eq env_cons env_nil upd_upd upd_apply del_apply startA_eq cells_ag cells_sl one_sl cells_vs one_vs cells_ep one_ep cells_fn one_fn cells_int one_int cells_bool one_bool cells_string one_string cells_pointer one_pointer cells_slice one_slice cells_map one_map cells_agg resK_one resK_nil resK_two rvK_t rvK_c rvsK_nil rvsK_cons iseq_nil iseq_cons gdA_true gdA_false gdA_undef istep_free istep_guard istepV_free istepV_guard dseq_nil dseq_pu dseq_rd dseq_ef wpc_regT dtree_nil dtree_pu dtree_rd dtree_ef dtree_br chkAll_nil chkAll_cons andK_true pickK_true pickK_false pickK_tb pickK_fb bin2K_pl eqbK_eq eqbK_ne eqpK_eq eqpK_ne eqmK_eq eqmK_ne eqzK_eq eqzK_ne eqzK_sl eqzK_vs un1K_pl convK_int fillK_some fillA_cons fillA_nil cellsK_some needK_true needK_ok seeK_ep seeK_ptr oneK_agg oneK_one nilcK_ptr nilcK_ep fadrK_ptr fadrK_ep fldK_ag iadAK_ptr iadAK_ep iadSK_sl iadSK_vs extK_0 extK_1 extK_2 extK_3 lenK_pl lenK_sl lenK_vs lensK_pl boxK_some minmax1K_int storeK_ptr callvK_fn callvK_pl newsK_nil newsK_vs newsK_sl appK_nil appK_nil0 appK_sl appK_vs bnd1K_int bndK_none bndK_some slsK_vs slsK_nil slsK_sl0 slsK_sl slstrK_pl boolK_some eqsK_ag iop_eqs iop_sls iop_slstr seesK_some seesK_ro mapsK_some MAP_some findK_some findK_none plK_pl nmapK_none nmapK_some iop_mlook iop_mlen iop_mmk iop_mupd iop_mdel iop_mrng itK_none itK_some ptr0K_ptr iop_mnxt iop_ment it1K_some entK_some iop_mov iop_pick iop_bin iop_eqb iop_eqp iop_eqm iop_eqz iop_un capK_pl capK_sl capK_vs iop_cap apzK_nil iop_apz mksK_int iop_mks clrK_sl clrK_vs clrK_nil iop_clr iop_conv iop_build iop_load iop_nilc iop_fadr iop_fld iop_iadA iop_iadS iop_ext iop_mkf iop_len iop_lens iop_minmax iop_al iop_box iop_bsl iop_store iop_call iop_callv iop_app BIN_add BIN_sub BIN_mul BIN_and BIN_or BIN_xor BIN_andNot BIN_eql BIN_neq BIN_lss BIN_leq BIN_gtr BIN_geq BIN_quo BIN_rem BIN_shl BIN_shr BIN_sadd BIN_seql BIN_sneq BIN_slss BIN_sleq BIN_sgtr BIN_sgeq UN_neg UN_xor UN_not MM_nil MM_cons partsA argsA ptrA lessL eqL min2I slotN_int slotP_int slotI_int

set_option maxRecDepth 100000

theorem pointerImplicit_lifted (os : Os) (started : os.Started) (H : Type) (enc : TypeId × Value → H) :
    ReturnsInHanded {} Tryz.checked os 4 .any (Rows.pointerImplicitSpec.pre6 enc Tryz.prog Tryz.f4 Rows.pointerImplicitRow.domain false) (Rows.pointerImplicitSpec.post enc Tryz.prog Tryz.f4 false true false false) := by
  refine returnsInHanded_of_change_sized (C := Tryz.checked) own started (by kernel_rfl) Tryz.func4
    (ChangeSpec.witness6 (enc := enc) (C := Tryz.checked) false ⟨#[], #[.agg #[.slice none 0 0, .slice none 0 0]], []⟩ 8 (by kernel_rfl) (by kernel_rfl) (by kernel_rfl) (by kernel_rfl)) ?_
  intro W base args ds gs before hval hW _ _ _
  refine law_contract (L := [(true, [.sl [.sl itL], .sl opL])]) laidOut (by kernel_rfl) rfl (fun ds hd => ?_) ⟨_, rfl, by kernel_rfl⟩ ?_ (fun xs hf => law_PointerImplicit xs hf) W base args ds gs before hval hW
  · match ds, hd with
    | [d0], _ => exact ⟨rfl, rfl, rfl⟩
  · exact of_decide_eq_true (by kernel_rfl)

theorem pointerImplicit_holds : Rows.PointerImplicitSaid :=
  OpenClaim.holds_of_wide 4 Tryz.f4 rfl rfl rfl rfl rfl rfl rfl ⟨rfl, rfl, rfl, rfl, rfl⟩ rfl rfl rfl rfl rfl (by kernel_rfl) Tryz.func4 (by kernel_rfl)
    (of_decide_eq_true (by kernel_rfl)) (by unfold Func.isWrapper; first | (rw [if_pos (by decide +kernel)]; kernel_rfl) | (rw [if_neg (by decide +kernel)]; exact ⟨rfl, rfl⟩))
    (fun os started H enc _ => pointerImplicit_lifted os started H enc)
end Go.Proofs.YtmpncpamndhmcaaGreat
end
