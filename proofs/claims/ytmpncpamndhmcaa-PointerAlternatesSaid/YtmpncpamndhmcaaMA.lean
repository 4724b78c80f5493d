/-
  Several texts in one: P31; P32. Conditions: as each lemma states them.
-/
import Derived.Test.YtmpncpamndhmcaaMQ
import Derived.Test.YtmpncpamndhmcaaXRow
import Derived.Test.YtmpncpamndhmcaaRows
import Derived.WalkKit
import Derived.ProofKit
/-! PointerAlternates, walked. Conditions: as each lemma states them. -/
section
namespace Go.Proofs.Ytmpncpamndhmcaa
open Go Go.Ab Go.RowKit
set_option linter.unusedSimpArgs false
set_option linter.unusedVariables false
set_option linter.unnecessarySimpa false

attribute [local simp] condK_true condK_false condK_not wpc_skip wpc_ret wpc_exit wpc_seq wpc_reg wpc_regD testA_bool wpc_cond wpc_block thenA_normal thenA_ret thenA_exit blockA_normal blockA_ret blockA_exit blockA_other endA_normal endA_ret ev_tmp' ev_const ev_func ev_global cv_int cv_bool cv_string cv_pointer cv_slice cv_agg cv_map put_some put_none wH_s setE_apply setE_env less_eq env_cons env_nil upd_upd upd_apply del_apply startA_eq cells_ag cells_sl one_sl cells_vs one_vs cells_ep one_ep cells_fn one_fn cells_int one_int cells_bool one_bool cells_string one_string cells_pointer one_pointer cells_slice one_slice cells_map one_map cells_agg resK_one resK_nil resK_two rvK_t rvK_c rvsK_nil rvsK_cons iseq_nil iseq_cons gdA_true gdA_false gdA_undef istep_free istep_guard istepV_free istepV_guard dseq_nil dseq_pu dseq_rd dseq_ef wpc_regT dtree_nil dtree_pu dtree_rd dtree_ef dtree_br chkAll_nil chkAll_cons andK_true pickK_true pickK_false pickK_tb pickK_fb bin2K_pl eqbK_eq eqbK_ne eqpK_eq eqpK_ne eqmK_eq eqmK_ne eqzK_eq eqzK_ne eqzK_sl eqzK_vs un1K_pl convK_int fillK_some fillA_cons fillA_nil cellsK_some needK_true needK_ok seeK_ep seeK_ptr oneK_agg oneK_one nilcK_ptr nilcK_ep fadrK_ptr fadrK_ep fldK_ag iadAK_ptr iadAK_ep iadSK_sl iadSK_vs extK_0 extK_1 extK_2 extK_3 lenK_pl lenK_sl lenK_vs lensK_pl boxK_some minmax1K_int storeK_ptr callvK_fn callvK_pl newsK_nil newsK_vs newsK_sl appK_nil appK_nil0 appK_sl appK_vs bnd1K_int bndK_none bndK_some slsK_vs slsK_nil slsK_sl0 slsK_sl slstrK_pl boolK_some eqsK_ag iop_eqs iop_sls iop_slstr seesK_some seesK_ro mapsK_some MAP_some findK_some findK_none plK_pl nmapK_none nmapK_some iop_mlook iop_mlen iop_mmk iop_mupd iop_mdel iop_mrng itK_none itK_some ptr0K_ptr iop_mnxt iop_ment it1K_some entK_some iop_mov iop_pick iop_bin iop_eqb iop_eqp iop_eqm iop_eqz iop_un capK_pl capK_sl capK_vs iop_cap apzK_nil iop_apz mksK_int iop_mks clrK_sl clrK_vs clrK_nil iop_clr iop_conv iop_build iop_load iop_nilc iop_fadr iop_fld iop_iadA iop_iadS iop_ext iop_mkf iop_len iop_lens iop_minmax iop_al iop_box iop_bsl iop_store iop_call iop_callv iop_app BIN_add BIN_sub BIN_mul BIN_and BIN_or BIN_xor BIN_andNot BIN_eql BIN_neq BIN_lss BIN_leq BIN_gtr BIN_geq BIN_quo BIN_rem BIN_shl BIN_shr BIN_sadd BIN_seql BIN_sneq BIN_slss BIN_sleq BIN_sgtr BIN_sgeq UN_neg UN_xor UN_not MM_nil MM_cons partsA argsA ptrA lessL eqL min2I slotN_int slotP_int slotI_int
attribute [local simp] rc_len rc_t4 rc_t1 rc_t2 rc_t3 rc_d1 rc_d2 rc_d3 rc_d4 rc_ag rc_one rc_eq

def rtF (d : Dl) : Bool := decide (d.kd = 3) || (decide (d.kd = 4) || decide (d.kd = 5))
theorem c11 {H : AH} {K : AV → AH → Prop} (d : Dl) (hk : K (vb (rtF d)) H) : @AC Try.prog 11 [.ag (dlc d)] H ⟨K⟩ := by
  refine AC_of (.forget ?_)
  refine call_c follows cf11_ok (by simp) ?_
  have hl : (dlc d).length = 9 := rfl
  simp [hl]
  refine newK_of fun z hz => ?_
  have hzz : upd H z (.cells (dlc d)) z = some (.cells [vi d.cl, vi d.sf, vi d.kd, vi d.tm, vi d.x, vi d.y, vi d.co, vi d.va, vu d.sr]) := by simp [upd_apply, dlc]
  have hS : Sub H (upd H z (.cells (dlc d))) := (Sub.refl H).upd hz
  generalize upd H z (.cells (dlc d)) = G at *
  unfold rtF at hk
  by_cases h3 : d.kd = 3
  · simp [h3] at hk
    simp [hzz, h3]
    exact ⟨H, hS, hk⟩
  by_cases h4 : d.kd = 4
  · simp [h4] at hk
    simp [hzz, h4]
    exact ⟨H, hS, hk⟩
  by_cases h5 : d.kd = 5
  · simp [h5] at hk
    simp [hzz, h5]
    exact ⟨H, hS, hk⟩
  simp [h3, h4, h5] at hk
  simp [hzz, h3, h4, h5]
  exact ⟨H, hS, hk⟩
/-- What the law makes of the surface that was entered, ahead of the deliveries. -/
def entF (o : Op) (e : Int) : Int := if (o.kd < 0 ∨ 5 < o.kd) ∧ o.sf = e then 0 else e
theorem call_alt {m : PS} {L : List It} (hi : InvF m) (hL : PosL L) (o : Op) : altF (entF o m.fs) (if o.kd = 0 then (callM m L o).2.1 else []) = some (callM m L o).1.fs := by
  by_cases k0 : o.kd = 0
  · rw [if_pos k0, call_feed k0]
    have : entF o m.fs = m.fs := by unfold entF; rw [if_neg (by omega)]
    rw [this]
    exact (feed_Alt hi hL o.e).2
  · rw [if_neg k0]
    show some (entF o m.fs) = _
    congr 1
    unfold callM entF
    rw [if_neg k0]
    by_cases k1 : o.kd = 1
    · rw [if_pos k1, if_neg (by omega)]
    rw [if_neg k1]
    by_cases k2 : o.kd = 2
    · rw [if_pos k2, if_neg (by omega)]
    rw [if_neg k2]
    by_cases k3 : o.kd = 3
    · rw [if_pos k3, if_neg (by omega)]
    rw [if_neg k3]
    by_cases k4 : o.kd = 4
    · rw [if_pos k4, if_neg (by omega)]
    rw [if_neg k4]
    by_cases k5 : o.kd = 5
    · rw [if_pos k5, if_neg (by omega)]
    rw [if_neg k5]
    rw [(gone_fs m o.sf hi).2]
    by_cases h : m.fs = o.sf
    · rw [if_pos ⟨by omega, h.symm⟩, if_pos h]
    · rw [if_neg (fun g => h g.2.symm), if_neg h]
theorem call_len (m : PS) (L : List It) (o : Op) : o.kd = 0 → (callM m L o).2.1.length ≤ 6 := fun h => by rw [call_feed h]; exact feed_len m L o.e
set_option maxHeartbeats 2000000 in
set_option maxRecDepth 20000 in
theorem c4 {H : AH} {K : AV → AH → Prop} {a b : AV} {Ls : List (List It)} {ops : List Op} (ha : Sc0 H a Ls) (hb : Rw H b (flat opc ops) ops.length 11) (hk : K (vb true) H) :
    @AC Try.prog 4 [.ag [a, b]] H ⟨K⟩ := by
  have oa : a.one = true := by obtain ⟨cs, h1, _⟩ := ha; exact Rw.one h1
  have ob := Rw.one hb
  have ca : a.cells = some [a] := by obtain ⟨cs, h1, _⟩ := ha; exact Rw.cells h1
  have cb := Rw.cells hb
  have lb := fun k => Rw.lenK hb (k := k)
  refine AC_of (.forget ?_)
  refine call_c follows cf4_ok (by simp) ?_
  simp [ca, cb]
  refine newK_of fun z hz => ?_
  have hzz : upd H z (.cells [a, b]) z = some (.cells [a, b]) := by simp [upd_apply]
  have hS : Sub H (upd H z (.cells [a, b])) := (Sub.refl H).upd hz
  simp
  generalize upd H z (.cells [a, b]) = H1 at *
  refine c6 fun B0 hB0 => ?_
  have hz1 := PV_sub hB0 _ _ hzz
  simp [hz1, oa, ob, ca, cb]
  have hS1 := hS.trans (PV_sub hB0)
  refine c7 (ha.sub hS1) (hb.sub hS1) fun bb hbb => ?_
  cases bb with
  | false =>
    simp
    refine c8 ?_
    simp
    exact ⟨H, hS1, hk⟩
  | true =>
    obtain ⟨h4, h40, hli⟩ := hbb rfl
    simp
    refine wpc_loop (fun s => ∃ (i : Nat) (c : Option (Nat × Bool × List AV)) (G : AH) (m : PS), s.n = 140 ∧ s.H = PV G { B0 with ch := c } m ∧ BOk G { B0 with ch := c } m ∧ Sub H1 G ∧ s.t 1 = pA z ∧ s.t 3 = pA B0.p ∧ s.t 5 = vi m.fs ∧ s.t 6 = vi i ∧ i ≤ ops.length ∧ InvF m) (fun s => ops.length - slotN (s.t 6)) ?_ ?_
    · exact FgK.same ⟨0, B0.ch, H1, m0, by simp, by simp, hB0, Sub.refl _, by simp, by simp, by simp [m0], by simp, by omega, inv0⟩
    rintro s ⟨i, c, G, m, hn, hH, hB, hG, e1, e3, e5, e6, hil, hinv⟩
    have hzG : G z = some (.cells [a, b]) := hG _ _ hzz
    have kz := PV_sub hB _ _ hzG
    have hSG : Sub H (PV G { B0 with ch := c } m) := (hS.trans hG).trans (PV_sub hB)
    by_cases hlt : i < ops.length
    · have wr := IntWalk.i64_in ((i : Int) + 1) (by omega)
      obtain ⟨p, hp1, hp2, ⟨p0, hp3, hp4⟩, ⟨p5, hp5, hp6⟩⟩ := opat hb hlt
      generalize ops[i] = o at *
      have hol : (opc o).length = 11 := rfl
      simp (disch := omega) [hn, hH, e1, e3, e5, e6, kz, lb, hlt, oa, ob, ca, cb, hp1, hp2 _ hSG]
      refine c10 (ha.ok hli) hSG cb (by omega) fun v hv => ?_
      have hLi := items_li hli o
      generalize itemsM Ls o = L at *
      have ov := Rw.one hv.1
      have cv := Rw.cells hv.1
      simp [ov, cv, kz, ob, hp1, hp2 _ hSG]
      refine c9 (o := o) hB (hv.sub (hS.trans hG)) (by have := hLi.len; omega) fun c2 G2 out h2 hr2 => ?_
      have hinv2 := call_inv hinv hLi.pos o
      have halt := call_alt hinv hLi.pos o
      have hfl := call_len m L o
      have oc := Rw.cells hr2.rd
      have oo := Rw.one hr2.rd
      have kz2 := PV_sub h2 _ _ (hr2.1 _ _ hzG)
      have hS2 : Sub H (PV G2 { B0 with ch := c2 } (callM m L o).1) := ((hS.trans hG).trans hr2.1).trans (PV_sub h2)
      have hrd := hr2.rd.sub (PV_sub h2)
      have hG2 := hG.trans hr2.1
      generalize (callM m L o).1 = M2 at *
      generalize (callM m L o).2.1 = O2 at *
      have hp4' := hp4 _ hS2
      have hp6' := hp6 _ hS2
      have lo := fun k => Rw.lenK hrd (k := k)
      obtain ⟨e0, he0⟩ : ∃ e0, e0 = entF o m.fs := ⟨_, rfl⟩
      rw [← he0] at halt
      simp [oc, oo, kz2, ob, hp1, hp3, hp4']
      have hcase : (o.kd < 0 ∧ o.sf = m.fs) ∨ (o.kd < 0 ∧ o.sf ≠ m.fs) ∨ (¬ o.kd < 0 ∧ 5 < o.kd ∧ o.sf = m.fs) ∨ (¬ o.kd < 0 ∧ 5 < o.kd ∧ o.sf ≠ m.fs) ∨ (¬ o.kd < 0 ∧ ¬ 5 < o.kd) := by omega
      rcases hcase with ⟨d1, d3⟩ | ⟨d1, d3⟩ | ⟨d1, d2, d3⟩ | ⟨d1, d2, d3⟩ | ⟨d1, d2⟩
      case' inl =>
        have he1 : e0 = 0 := by rw [he0]; unfold entF; rw [if_pos ⟨.inl d1, d3⟩]
        simp [d1, hp1, hp5, hp6', kz2, ob, d3]
      case' inr.inl =>
        have he1 : e0 = m.fs := by rw [he0]; unfold entF; rw [if_neg (fun h => d3 h.2)]
        simp [d1, hp1, hp5, hp6', kz2, ob, d3]
      case' inr.inr.inl =>
        have he1 : e0 = 0 := by rw [he0]; unfold entF; rw [if_pos ⟨.inr d2, d3⟩]
        simp [d1, d2, hp1, hp3, hp4', hp5, hp6', kz2, ob, d3]
      case' inr.inr.inr.inl =>
        have he1 : e0 = m.fs := by rw [he0]; unfold entF; rw [if_neg (fun h => d3 h.2)]
        simp [d1, d2, hp1, hp3, hp4', hp5, hp6', kz2, ob, d3]
      case' inr.inr.inr.inr =>
        have he1 : e0 = m.fs := by rw [he0]; unfold entF; rw [if_neg (fun h => h.1.elim d1 d2)]
        simp [d1, d2, hp1, hp3, hp4', kz2, ob]
      all_goals
        rw [he1] at halt
        refine wpc_loop (fun s2 => ∃ (k : Nat) (e : Int), s2.n = 140 ∧ s2.H = PV G2 { B0 with ch := c2 } M2 ∧ s2.t 1 = pA z ∧ s2.t 3 = pA B0.p ∧ s2.t 5 = vi e ∧ s2.t 6 = vi i ∧ s2.t 7 = out ∧ s2.t 10 = vi k ∧ k ≤ O2.length ∧ altF e ((if o.kd = 0 then O2 else []).drop k) = some M2.fs) (fun s2 => O2.length - slotN (s2.t 10)) ?_ ?_
        · exact FgK.same ⟨0, _, by simp, by simp, by simp, by simp, by simp <;> rfl, by simp, by simp, by simp, by omega, halt⟩
        rintro s2 ⟨k, e, hn2, hH2, f1, f3, f5, f6, f7, f10, hko, halt2⟩
        by_cases hgo : k < O2.length ∧ o.kd = 0
        · obtain ⟨hk2, hk0⟩ := hgo
          have hfl := hfl hk0
          have wk := IntWalk.i64_in ((k : Int) + 1) (by omega)
          obtain ⟨q, q1, q2, _, ⟨q6, q7, q8⟩, ⟨q9, q10, q11⟩, _⟩ := dread hrd hk2 (n := (k : Int)) rfl
          rw [if_pos hk0, List.drop_eq_getElem_cons hk2] at halt2
          generalize O2[k] = d at *
          have hdl : (dlc d).length = 9 := rfl
          have hrest : ∀ e', altF e' (O2.drop (k + 1)) = some M2.fs → altF e' ((if o.kd = 0 then O2 else []).drop (k + 1)) = some M2.fs := fun e' h => by rw [if_pos hk0]; exact h
          unfold altF at halt2
          by_cases g1 : d.kd = 1
          · rw [if_pos g1] at halt2
            by_cases g0 : e = 0
            · rw [if_neg (fun h => h g0)] at halt2
              simp (disch := omega) [hn2, hH2, f1, f3, f5, f6, f7, f10, lo, hk2, kz2, ob, hp1, hp3, hp4', hk0, q1, q10, q11, q7, q8, g1, g0, wk]
              exact FgK.same ⟨⟨k + 1, d.sf, by simp, by simp, by simp, by simp, by simp, by simp, by simp, by simp, by omega, hrest _ halt2⟩, by simp [f10]; omega⟩
            · rw [if_pos g0] at halt2; cases halt2
          rw [if_neg g1] at halt2
          by_cases g2 : d.kd = 2
          · rw [if_pos g2] at halt2
            by_cases g0 : e = d.sf
            · rw [if_neg (fun h => h g0)] at halt2
              simp (disch := omega) [hn2, hH2, f1, f3, f5, f6, f7, f10, lo, hk2, kz2, ob, hp1, hp3, hp4', hk0, q1, q10, q11, q7, q8, g2, g0, wk]
              exact FgK.same ⟨⟨k + 1, 0, by simp, by simp, by simp, by simp, by simp, by simp, by simp, by simp, by omega, hrest _ halt2⟩, by simp [f10]; omega⟩
            · rw [if_pos g0] at halt2; cases halt2
          rw [if_neg g2] at halt2
          simp (disch := omega) [hn2, hH2, f1, f3, f5, f6, f7, f10, lo, hk2, kz2, ob, hp1, hp3, hp4', hk0, q1, q2, q10, q11, q7, q8, g1, g2]
          refine c11 d ?_
          cases hrt : rtF d with
          | true =>
            have g3 : d.kd = 3 ∨ d.kd = 4 ∨ d.kd = 5 := by simpa [rtF] using hrt
            rw [if_pos g3] at halt2
            by_cases g0 : e = d.sf
            · rw [if_neg (fun h => h g0)] at halt2
              simp (disch := omega) [f5, f7, f10, q1, q7, q8, g0, wk]
              exact FgK.same ⟨⟨k + 1, d.sf, by simp, by simp, by simp, by simp, by simp, by simp, by simp, by simp, by omega, hrest _ (by rw [← g0]; exact halt2)⟩, by simp [f10]; omega⟩
            · rw [if_pos g0] at halt2; cases halt2
          | false =>
            have g3 : ¬ (d.kd = 3 ∨ d.kd = 4 ∨ d.kd = 5) := fun h => by
              have : rtF d = true := by simpa [rtF] using h
              rw [this] at hrt; cases hrt
            rw [if_neg g3] at halt2
            simp (disch := omega) [f5, f7, f10, wk]
            exact FgK.same ⟨⟨k + 1, e, by simp, by simp, by simp, by simp, by simp, by simp, by simp, by simp, by omega, hrest _ halt2⟩, by simp [f10]; omega⟩
        · have hee : e = M2.fs := by
            have : ((if o.kd = 0 then O2 else []).drop k) = [] := by
              by_cases hk0 : o.kd = 0
              · rw [if_pos hk0]; exact List.drop_eq_nil_of_le (by omega)
              · rw [if_neg hk0]; simp
            rw [this] at halt2
            exact Option.some.inj halt2
          by_cases hk2 : k < O2.length
          case' pos =>
            have hk0 : ¬ o.kd = 0 := fun h => hgo ⟨hk2, h⟩
            simp (disch := omega) [hn2, hH2, f1, f3, f5, f6, f7, f10, lo, hk2, kz2, ob, hp1, hp3, hp4', hk0]
          case' neg =>
            simp (disch := omega) [hn2, hH2, f1, f3, f5, f6, f7, f10, lo, hk2]
          all_goals
            refine c12 ?_
            simp
            refine c13 h2 ?_
            simp [hee, wr]
            exact FgK.same ⟨⟨i + 1, c2, G2, M2, by simp, by simp, h2, hG2, by simp, by simp, by simp, by simp, by omega, hinv2⟩, by simp [e6]; omega⟩
    · simp (disch := omega) [hn, hH, e1, e3, e6, kz, lb, hlt, oa, ob]
      refine c8 ?_
      simp
      exact ⟨H, hSG, hk⟩
theorem law_PointerAlternates (xs : List AV) (hf : FitsT [(true, [.sl [.sl itL], .sl opL])] xs) : ACall Try.prog 4 xs (fun _ => none) (fun v _ => v = vb true) := by
  obtain ⟨a, rfl, h⟩ := hf.one
  obtain ⟨v, w, Ls, ops, rfl, h1, h2⟩ := fitSet h
  exact c4 (h1 _) (h2 _) rfl
end Go.Proofs.Ytmpncpamndhmcaa
end

/-! PointerAlternates: for every scenes and calls the law returns true, and its argument reads as it did. No conditions: every input that the row admits. -/
section
namespace Go.Proofs.Ytmpncpamndhmcaa
open Go Go.Ab Go.RowKit Go.ChangeShapes Go.WideShapes Go.ChangeAt
set_option linter.unusedSimpArgs false
set_option linter.unusedVariables false
set_option linter.unnecessarySimpa false

attribute [local simp] condK_true condK_false condK_not wpc_skip wpc_ret wpc_exit wpc_seq wpc_reg wpc_regD testA_bool wpc_cond wpc_block thenA_normal thenA_ret thenA_exit blockA_normal blockA_ret blockA_exit blockA_other endA_normal endA_ret ev_tmp' ev_const ev_func ev_global cv_int cv_bool cv_string cv_pointer cv_slice cv_agg cv_map put_some put_none wH_s setE_apply setE_env less_eq env_cons env_nil upd_upd upd_apply del_apply startA_eq cells_ag cells_sl one_sl cells_vs one_vs cells_ep one_ep cells_fn one_fn cells_int one_int cells_bool one_bool cells_string one_string cells_pointer one_pointer cells_slice one_slice cells_map one_map cells_agg resK_one resK_nil resK_two rvK_t rvK_c rvsK_nil rvsK_cons iseq_nil iseq_cons gdA_true gdA_false gdA_undef istep_free istep_guard istepV_free istepV_guard dseq_nil dseq_pu dseq_rd dseq_ef wpc_regT dtree_nil dtree_pu dtree_rd dtree_ef dtree_br chkAll_nil chkAll_cons andK_true pickK_true pickK_false pickK_tb pickK_fb bin2K_pl eqbK_eq eqbK_ne eqpK_eq eqpK_ne eqmK_eq eqmK_ne eqzK_eq eqzK_ne eqzK_sl eqzK_vs un1K_pl convK_int fillK_some fillA_cons fillA_nil cellsK_some needK_true needK_ok seeK_ep seeK_ptr oneK_agg oneK_one nilcK_ptr nilcK_ep fadrK_ptr fadrK_ep fldK_ag iadAK_ptr iadAK_ep iadSK_sl iadSK_vs extK_0 extK_1 extK_2 extK_3 lenK_pl lenK_sl lenK_vs lensK_pl boxK_some minmax1K_int storeK_ptr callvK_fn callvK_pl newsK_nil newsK_vs newsK_sl appK_nil appK_nil0 appK_sl appK_vs bnd1K_int bndK_none bndK_some slsK_vs slsK_nil slsK_sl0 slsK_sl slstrK_pl boolK_some eqsK_ag iop_eqs iop_sls iop_slstr seesK_some seesK_ro mapsK_some MAP_some findK_some findK_none plK_pl nmapK_none nmapK_some iop_mlook iop_mlen iop_mmk iop_mupd iop_mdel iop_mrng itK_none itK_some ptr0K_ptr iop_mnxt iop_ment it1K_some entK_some iop_mov iop_pick iop_bin iop_eqb iop_eqp iop_eqm iop_eqz iop_un capK_pl capK_sl capK_vs iop_cap apzK_nil iop_apz mksK_int iop_mks clrK_sl clrK_vs clrK_nil iop_clr iop_conv iop_build iop_load iop_nilc iop_fadr iop_fld iop_iadA iop_iadS iop_ext iop_mkf iop_len iop_lens iop_minmax iop_al iop_box iop_bsl iop_store iop_call iop_callv iop_app BIN_add BIN_sub BIN_mul BIN_and BIN_or BIN_xor BIN_andNot BIN_eql BIN_neq BIN_lss BIN_leq BIN_gtr BIN_geq BIN_quo BIN_rem BIN_shl BIN_shr BIN_sadd BIN_seql BIN_sneq BIN_slss BIN_sleq BIN_sgtr BIN_sgeq UN_neg UN_xor UN_not MM_nil MM_cons partsA argsA ptrA lessL eqL min2I slotN_int slotP_int slotI_int

set_option maxRecDepth 100000

theorem pointerAlternates_lifted (os : Os) (started : os.Started) (H : Type) (enc : TypeId × Value → H) :
    ReturnsInHanded {} Try.checked os 4 .any (Rows.pointerAlternatesSpec.pre6 enc Try.prog Try.f4 Rows.pointerAlternatesRow.domain false) (Rows.pointerAlternatesSpec.post enc Try.prog Try.f4 false true false false) := by
  refine returnsInHanded_of_change_sized (C := Try.checked) own started (by kernel_rfl) Try.func4
    (ChangeSpec.witness6 (enc := enc) (C := Try.checked) false ⟨#[], #[.agg #[.slice none 0 0, .slice none 0 0]], []⟩ 8 (by kernel_rfl) (by kernel_rfl) (by kernel_rfl) (by kernel_rfl)) ?_
  intro W base args ds gs before hval hW _ _ _
  refine law_contract (L := [(true, [.sl [.sl itL], .sl opL])]) laidOut (by kernel_rfl) rfl (fun ds hd => ?_) ⟨_, rfl, by kernel_rfl⟩ ?_ (fun xs hf => law_PointerAlternates xs hf) W base args ds gs before hval hW
  · match ds, hd with
    | [d0], _ => exact ⟨rfl, rfl, rfl⟩
  · exact of_decide_eq_true (by kernel_rfl)

theorem pointerAlternates_holds : Rows.PointerAlternatesSaid :=
  OpenClaim.holds_of_wide 4 Try.f4 rfl rfl rfl rfl rfl rfl rfl ⟨rfl, rfl, rfl, rfl, rfl⟩ rfl rfl rfl rfl rfl (by kernel_rfl) Try.func4 (by kernel_rfl)
    (of_decide_eq_true (by kernel_rfl)) (by unfold Func.isWrapper; first | (rw [if_pos (by decide +kernel)]; kernel_rfl) | (rw [if_neg (by decide +kernel)]; exact ⟨rfl, rfl⟩))
    (fun os started H enc _ => pointerAlternates_lifted os started H enc)
end Go.Proofs.Ytmpncpamndhmcaa
end
