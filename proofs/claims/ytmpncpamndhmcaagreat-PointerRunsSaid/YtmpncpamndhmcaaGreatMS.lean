/-
  Several texts in one: P53; P54; P55; P56; P57; P58. Conditions: as each lemma states them.
-/
import Derived.Test.YtmpncpamndhmcaaGreatMR
open Go Go.Ab Go.RowKit
set_option linter.unusedSimpArgs false
set_option linter.unusedVariables false
set_option linter.unnecessarySimpa false
attribute [local simp] condK_true condK_false condK_not wpc_skip wpc_ret wpc_exit wpc_seq wpc_reg wpc_regD testA_bool wpc_cond wpc_block thenA_normal thenA_ret thenA_exit blockA_normal blockA_ret blockA_exit blockA_other endA_normal endA_ret ev_tmp' ev_const ev_func ev_global cv_int cv_bool cv_string cv_pointer cv_slice cv_agg cv_map put_some put_none wH_s setE_apply setE_env less_eq env_cons env_nil upd_upd upd_apply del_apply startA_eq cells_ag cells_sl one_sl cells_vs one_vs cells_ep one_ep cells_fn one_fn cells_int one_int cells_bool one_bool cells_string one_string cells_pointer one_pointer cells_slice one_slice cells_map one_map cells_agg resK_one resK_nil resK_two rvK_t rvK_c rvsK_nil rvsK_cons iseq_nil iseq_cons gdA_true gdA_false gdA_undef istep_free istep_guard istepV_free istepV_guard dseq_nil dseq_pu dseq_rd dseq_ef wpc_regT dtree_nil dtree_pu dtree_rd dtree_ef dtree_br chkAll_nil chkAll_cons andK_true pickK_true pickK_false pickK_tb pickK_fb bin2K_pl eqbK_eq eqbK_ne eqpK_eq eqpK_ne eqmK_eq eqmK_ne eqzK_eq eqzK_ne eqzK_sl eqzK_vs un1K_pl convK_int fillK_some fillA_cons fillA_nil cellsK_some needK_true needK_ok seeK_ep seeK_ptr oneK_agg oneK_one nilcK_ptr nilcK_ep fadrK_ptr fadrK_ep fldK_ag iadAK_ptr iadAK_ep iadSK_sl iadSK_vs extK_0 extK_1 extK_2 extK_3 lenK_pl lenK_sl lenK_vs lensK_pl boxK_some minmax1K_int storeK_ptr callvK_fn callvK_pl newsK_nil newsK_vs newsK_sl appK_nil appK_nil0 appK_sl appK_vs bnd1K_int bndK_none bndK_some slsK_vs slsK_nil slsK_sl0 slsK_sl slstrK_pl boolK_some eqsK_ag iop_eqs iop_sls iop_slstr seesK_some seesK_ro mapsK_some MAP_some findK_some findK_none plK_pl nmapK_none nmapK_some iop_mlook iop_mlen iop_mmk iop_mupd iop_mdel iop_mrng itK_none itK_some ptr0K_ptr iop_mnxt iop_ment it1K_some entK_some iop_mov iop_pick iop_bin iop_eqb iop_eqp iop_eqm iop_eqz iop_un capK_pl capK_sl capK_vs iop_cap apzK_nil iop_apz mksK_int iop_mks clrK_sl clrK_vs clrK_nil iop_clr iop_conv iop_build iop_load iop_nilc iop_fadr iop_fld iop_iadA iop_iadS iop_ext iop_mkf iop_len iop_lens iop_minmax iop_al iop_box iop_bsl iop_store iop_call iop_callv iop_app BIN_add BIN_sub BIN_mul BIN_and BIN_or BIN_xor BIN_andNot BIN_eql BIN_neq BIN_lss BIN_leq BIN_gtr BIN_geq BIN_quo BIN_rem BIN_shl BIN_shr BIN_sadd BIN_seql BIN_sneq BIN_slss BIN_sleq BIN_sgtr BIN_sgeq UN_neg UN_xor UN_not MM_nil MM_cons partsA argsA ptrA lessL eqL min2I slotN_int slotP_int slotI_int
/-! The specification's pointer, walked: events. Conditions: as each lemma states them. -/
section
namespace Go.Proofs.YtmpncpamndhmcaaGreat
open Go Go.Ab Go.RowKit

attribute [local simp] rc_len rc_t4 rc_t1 rc_t2 rc_t3 rc_d1 rc_d2 rc_d3 rc_d4 rc_ag rc_one rc_eq

abbrev ptr (m : PS) (aP aG : AV) : List AV := [vi m.x, vi m.y, aP, vi m.hd, vb m.td, vi m.lt, vb true, vi m.g.b0, vi m.g.b1, vb (!decide (m.g.d0 = 0)), vi m.g.d0, vi m.g.d1, vi m.g.owner, aG, vi m.fs, vi m.fc, vb m.fl]
abbrev z17 : List AV := [vi 0, vi 0, vnil, vi 0, vb false, vi 0, vb false, vi 0, vi 0, vb false, vi 0, vi 0, vi 0, vnil, vi 0, vi 0, vb false]
def RefP (K : AV → AH → Prop) (H : AH) (m : PS) (aP aG v : AV) (r : PS × List Dl) : Prop :=
  ∀ V v' out, Sub H V → NwL H V v m.lg v' r.1.lg → OutN H V out r.2 → Ap v' out → K (.tp [.ag (ptr r.1 aP aG), v', out]) V
def ResP (K : AV → AH → Prop) (H : AH) (m : PS) (aP aG v : AV) (r : PS × List Dl) : Prop :=
  ∀ V aP' v' out, Sub H V → NwI H V aP (sortI m.pr) aP' (sortI r.1.pr) → NwL H V v m.lg v' r.1.lg → OutN H V out r.2 → Ap v' out → K (.tp [.ag (ptr r.1 aP' aG), v', out]) V
theorem upd_form (m : PS) (L : List It) (x y : Int) : ∃ lg fs fc, (updM m L x y).1 = { m with lg := lg, fs := fs, fc := fc } := by
  unfold updM
  split
  · exact ⟨m.lg, m.fs, m.fc, rfl⟩
  · simp only
    split
    · exact ⟨m.lg, m.fs, m.fc, rfl⟩
    · exact ⟨_, _, _, rfl⟩
theorem updForm {A V : AH} {out : AV} {m : PS} {L : List It} {x y : Int} (h : OutN A V out (updM m L x y).2) : ∃ lg fs fc, (updM m L x y).1 = { m with lg := lg, fs := fs, fc := fc } := upd_form m L x y
theorem upd_len2 (m : PS) (L : List It) (x y : Int) : (updM m L x y).2.length ≤ 2 := by
  unfold updM
  split
  · simp
  · simp only
    split
    · simp
    · simp only [List.length_append]
      split <;> split <;> simp
theorem ref_len2 (m : PS) (L : List It) : (refM m L).2.length ≤ 2 := upd_len2 _ _ _ _
theorem Vw.keep {H A V V' : AH} {out : AV} {l : List Dl} (w : Vw H A V) (hS : Sub H A) (ho : OutN A V out l) (keep : ∀ j o, V j = some o → rowB out ≠ some j → V' j = some o) : Vw H A V' := by
  refine ⟨fun j o hj => keep _ _ (w.sub _ _ hj) (fun e => by have := hS _ _ hj; rw [(ho.blk e).1] at this; cases this), fun j hj => ?_⟩
  cases e2 : V j with
  | none => exact w.dm j e2
  | some o =>
    by_cases e3 : rowB out = some j
    · exact (ho.blk e3).1
    · have := keep j o e2 e3
      rw [hj] at this; cases this
theorem send_form (m : PS) (l : List Dl) (d : Dl) : ∃ lg, (sendM m l d).1 = { m with lg := lg } := by
  unfold sendM
  repeat' split
  all_goals exact ⟨_, rfl⟩
theorem sendForm {A V : AH} {out : AV} {m : PS} {d : Dl} (h : OutN A V out (sendM m [] d).2) : ∃ lg, (sendM m [] d).1 = { m with lg := lg } := send_form m [] d
theorem send_len1 (m : PS) (d : Dl) : (sendM m [] d).2.length ≤ 1 := by
  unfold sendM
  repeat' split
  all_goals simp
theorem impl_ch (m : M) (c s : Int) : (implM m c s).1.ch = m.ch := by unfold implM; repeat' split
                                                                      all_goals rfl
theorem rel_ch (m : M) : (releaseM m).1.ch = m.ch := by unfold releaseM; split <;> rfl
theorem grb_keep (m : PS) : (grbM m).pr = m.pr ∧ (grbM m).lg = m.lg ∧ (grbM m).g.ch = m.g.ch ∧ (grbM m).st = m.st ∧ (grbM m).ck = m.ck := by
  unfold grbM
  split
  · exact ⟨rfl, rfl, impl_ch _ _ _, rfl, rfl⟩
  · exact ⟨rfl, rfl, rfl, rfl, rfl⟩
theorem riBl {H : AH} {a : AV} {l : List Int} (h : Ri H a l) {r : Nat} (hr : rowB a = some r) : H r ≠ none := by
  obtain ⟨_, ⟨f, rfl⟩ | ⟨_, rfl⟩ | ⟨b, o, f, C, rfl, h4, _⟩⟩ := h
  · cases hr
  · cases hr
  · cases hr; rw [h4]; simp
theorem NwI.keep {A V V' : AH} {a a' out : AV} {l l' : List Int} (h : NwI A V a l a' l') (hx : ∀ r, rowB out = some r → rowB a' ≠ some r) (keep : ∀ j o, V j = some o → rowB out ≠ some j → V' j = some o) : NwI A V' a l a' l' := by
  rcases h with h | h | ⟨r, f, rfl, h2⟩
  · exact .inl h
  · exact .inr (.inl h)
  · exact .inr (.inr ⟨r, f, rfl, h2.1, keep _ _ h2.2 fun e => hx r e rfl⟩)
theorem endH_keep (m : PS) : (endH m).pr = m.pr ∧ (endH m).lg = m.lg ∧ (endH m).g.ch = m.g.ch ∧ (endH m).fs = m.fs ∧ (endH m).fc = m.fc := by
  unfold endH
  split
  · exact ⟨rfl, rfl, rel_ch _, rfl, rfl⟩
  · exact ⟨rfl, rfl, rfl, rfl, rfl⟩
theorem ref_pr3 (m : PS) (L : List It) : (refM m L).1.pr = m.pr := by
  unfold refM
  simp only
  obtain ⟨a, b, c, h⟩ := upd_form m (if (tgtF L m.x m.y).1 ≠ 0 ∧ allowsM m.g (tgtF L m.x m.y).2 = false then [] else L) m.x m.y
  rw [h]
theorem In.ne1 {A V : AH} {r b : Nat} {C : List AV} (h : In A V r C) (hb : A b ≠ none) : r ≠ b := by rintro rfl; exact hb h.1
theorem In.ne2 {A V : AH} {r b : Nat} {C : List AV} (h : In A V r C) (hb : V b = none) : r ≠ b := by rintro rfl; rw [h.2] at hb; cases hb
set_option maxHeartbeats 2000000 in
theorem c76 {H : AH} {K : AV → AH → Prop} {m : PS} {aP aG : AV} {lP : List Int} (hP : Ri H aP lP) (hG : Ri H aG m.g.ch) (hI : InvM m.g) (hk : K (vb (okM m)) H) :
    @AC Tryz.prog 76 [.ag (ptr m aP aG)] H ⟨K⟩ := by
  have o1 := hP.one
  have o2 := hP.cells
  have o3 := hG.one
  have o4 := hG.cells
  refine AC_of (.forget ?_)
  refine call_c follows cf76_ok (by simp) ?_
  simp [ptr]
  refine newK_of fun b1 f1 => ?_
  simp
  generalize hV : upd H b1 _ = A0
  have hS : Sub H A0 := hV ▸ ((Sub.refl H).upd f1)
  have k1 : A0 b1 = some (.cells (ptr m aP aG)) := by rw [← hV]; simp [ptr, ]
  have q1 : A0 b1 ≠ none := by rw [k1]; simp
  clear hV
  have w : Vw H A0 A0 := ⟨hS, sdm (Sub.refl _)⟩
  unfold okM at hk
  by_cases h0 : m.fs = 0
  · simp [h0] at hk
    simp [h0]
    exact ⟨H, hS, hk⟩
  · simp [h0] at hk
    simp [ptr, k1, h0]
    refine c112 (m := m.g) hI (hG.sub hS) m.fc ?_
    simp
    exact ⟨H, hS, hk⟩
set_option maxHeartbeats 2000000 in
theorem c116 {H : AH} {K : AV → AH → Prop} {m : PS} {v aP aG : AV} (hP : Ri H aP (sortI m.pr)) (hG : Ri H aG m.g.ch) (hI : InvM m.g) (hv : LogR H v m.lg) (hla : m.lg.la ≤ 200000) (e : Ev)
    (hk : ∀ V v' out, Sub H V → NwL H V v m.lg v' (sendM m [] ⟨0, 0, 4, 0, 0, 0, e.co, e.va, 0⟩).1.lg → OutN H V out (sendM m [] ⟨0, 0, 4, 0, 0, 0, e.co, e.va, 0⟩).2 → Ap v' out → K (.tp [v', out]) V) :
    @AC Tryz.prog 116 [.ag (ptr m aP aG), v, .ag (evc e)] H ⟨K⟩ := by
  have hv0 := hv
  obtain ⟨aS, LS, rfl, hr, hLl⟩ := hv
  have o1 := hP.one
  have o2 := hP.cells
  have o3 := hG.one
  have o4 := hG.cells
  have o5 := Rw.one hr
  have o6 := Rw.cells hr
  refine AC_of (.forget ?_)
  refine call_c follows cf116_ok (by simp) ?_
  simp [ptr, evc]
  refine newK_of fun b3 f3 => ?_
  simp
  refine newK_of fun b4 f4 => ?_
  simp
  refine newK_of fun b5 f5 => ?_
  simp
  refine newK_of fun b6 f6 => ?_
  simp
  obtain ⟨n4_3, n3_4, f4⟩ := upd_none'.1 f4
  obtain ⟨n5_4, n4_5, f5⟩ := upd_none'.1 f5
  obtain ⟨n5_3, n3_5, f5⟩ := upd_none'.1 f5
  obtain ⟨n6_5, n5_6, f6⟩ := upd_none'.1 f6
  obtain ⟨n6_4, n4_6, f6⟩ := upd_none'.1 f6
  obtain ⟨n6_3, n3_6, f6⟩ := upd_none'.1 f6
  generalize hV : upd (upd (upd (upd H b3 _) b4 _) b5 _) b6 _ = A0
  have hS : Sub H A0 := hV ▸ (((((Sub.refl H).upd f3).upd f4).upd f5).upd f6)
  have k3 : A0 b3 = some (.cells (ptr m aP aG)) := by rw [← hV]; simp [ptr, n3_4, n3_5, n3_6]
  have k4 : A0 b4 = some (.cells ([vi m.lg.la, aS])) := by rw [← hV]; simp [n4_5, n4_6]
  have k5 : A0 b5 = some (.cells (evc e)) := by rw [← hV]; simp [evc, n5_6]
  have k6 : A0 b6 = some (.cells ([vi 0, vnil])) := by rw [← hV]; simp
  have q3 : A0 b3 ≠ none := by rw [k3]; simp
  have q4 : A0 b4 ≠ none := by rw [k4]; simp
  have q5 : A0 b5 ≠ none := by rw [k5]; simp
  have q6 : A0 b6 ≠ none := by rw [k6]; simp
  clear hV
  have w : Vw H A0 A0 := ⟨hS, sdm (Sub.refl _)⟩
  simp [n3_4, n3_5, n3_6]
  refine c76 (m := m) (hP.sub hS) (hG.sub hS) hI ?_
  cases hok : okM m with
  | false =>
    have es : sendM m [] ⟨0, 0, 4, 0, 0, 0, e.co, e.va, 0⟩ = (m, []) := by simp [sendM, hok]
    rw [es] at hk
    simp [k4, k6, o5]
    exact ⟨H, hS.upd f6, hk H _ vnil (Sub.refl _) (.inl ⟨rfl, rfl⟩) (.inl ⟨rfl, rfl⟩) (Ap.nil _)⟩
  | true =>
    have es : sendM m [] ⟨0, 0, 4, 0, 0, 0, e.co, e.va, 0⟩ = ({ m with lg := issL m.lg m.fc m.fs 4 }, [⟨m.fc, m.fs, 4, m.lt, 0, 0, e.co, e.va, issN m.lg m.fc m.fs 4⟩]) := by simp [sendM, hok]
    rw [es] at hk
    simp only at hk
    simp [ptr, k3, k4]
    refine c133 (hv0.sub hS) (by omega) m.fc m.fs 4 fun V1 v1 hs1 hn => ?_
    have hv1 := hn.rd (hv0.sub hS) hs1
    have hn0 := hn
    obtain ⟨aS1, LS1, rfl, hr1, hl1⟩ := hv1
    have p1 := Rw.one hr1
    have p2 := Rw.cells hr1
    have k3 := hs1 _ _ k3
    have k4 := hs1 _ _ k4
    have k5 := hs1 _ _ k5
    have k6 := hs1 _ _ k6
    have w := w.to hs1
    simp
    refine newK_of fun b8 h8 => ?_
    have n3_8 := ne_of_free k3 h8
    have n8_3 := Ne.symm n3_8
    have n4_8 := ne_of_free k4 h8
    have n8_4 := Ne.symm n4_8
    have n5_8 := ne_of_free k5 h8
    have n8_5 := Ne.symm n5_8
    have n6_8 := ne_of_free k6 h8
    have n8_6 := Ne.symm n6_8
    have f8 := w.sub.none_of h8
    simp [ptr, evc, k3, k5, n3_8, n5_8, p1, evc]
    generalize hV : upd V1 b8 _ = V2
    have kp : Kp A0 V1 V2 := by rw [← hV]; exact (fun r_ C_ h_ => ⟨h_.1, by simp [upd_apply, h_.ne2 h8, h_.2]⟩)
    have w : Vw H A0 V2 := by rw [← hV]; (repeat' (first | exact w | refine Vw.put ?_ (by assumption) _))
    have hn := hn.kp kp
    have k3 : V2 b3 = some (.cells (ptr m aP aG)) := by rw [← hV]; simp [n3_8, k3]
    have k4 : V2 b4 = some (.cells ([vi m.lg.la, aS])) := by rw [← hV]; simp [n4_8, k4]
    have k5 : V2 b5 = some (.cells (evc e)) := by rw [← hV]; simp [n5_8, k5]
    have k6 : V2 b6 = some (.cells ([vi 0, vnil])) := by rw [← hV]; simp [n6_8, k6]
    have k8 : V2 b8 = some (.cells ([vi (issL m.lg m.fc m.fs 4).la, aS1])) := by rw [← hV]; simp
    clear hV kp
    obtain ⟨d1, hd1⟩ : ∃ d : Dl, d = ⟨m.fc, m.fs, 4, m.lt, 0, 0, e.co, e.va, issN m.lg m.fc m.fs 4⟩ := ⟨_, rfl⟩
    rw [← hd1] at hk
    have hdc : [vi m.fc, vi m.fs, vi 4, vi m.lt, vi 0, vi 0, vi e.co, vi e.va, vu (issN m.lg m.fc m.fs 4)] = dlc d1 := by rw [hd1]; rfl
    have hv2 := hn.rd (A := A0) (hv0) w.sub
    refine bothK_of ?_ ?_
    · simp
      refine newK_of fun d hd => ?_
      rw [hdc]
      have nd3 := ne_of_free k3 hd; have nd4 := ne_of_free k4 hd; have nd5 := ne_of_free k5 hd; have nd6 := ne_of_free k6 hd; have nd8 := ne_of_free k8 hd
      have nd := nd6
      simp [ptr, evc, k3, k5, k6, k8, n3_6, n5_6, p1, nd, nd3, nd5, nd8]
      refine ⟨_, Sub.refl _, hk _ _ (.sl d 0 1 9 true) ((w.sub.upd (w.sub.none_of hd)).upd f6) ((((hn.new hd _).put q6 _)).from (sdm hS)) (.inr ⟨d, true, by simp, hS.none_of (w.dm _ hd), by simp [upd_apply, Ne.symm nd, flat_one]⟩) ?_⟩
      intro r h1 h2
      cases h1
      exact hv2.bl h2 hd
    · simp [ptr, evc, k3, k5, k6, n3_6, n5_6, p1]
      refine newK_of fun d hd => ?_
      rw [hdc]
      obtain ⟨nd, nd', hd2⟩ := upd_none'.1 hd
      have nd3 := ne_of_free k3 hd2; have nd4 := ne_of_free k4 hd2; have nd5 := ne_of_free k5 hd2; have nd6 := ne_of_free k6 hd2; have nd8 := ne_of_free k8 hd2
      simp [k8, n8_6, nd6, nd8]
      refine ⟨_, Sub.refl _, hk _ _ (.sl d 0 1 9 true) ((w.sub.upd f6).upd (w.sub.none_of hd2)) ((((hn.put q6 _).new hd _)).from (sdm hS)) (.inr ⟨d, true, by simp, hS.none_of (w.dm _ hd2), by simp [upd_apply, flat_one]⟩) ?_⟩
      intro r h1 h2
      cases h1
      exact hv2.bl h2 hd2
set_option maxHeartbeats 2000000 in
theorem c110 {H : AH} {K : AV → AH → Prop} {m : PS} {v aP aG : AV} (hP : Ri H aP (sortI m.pr)) (hG : Ri H aG m.g.ch) (hI : InvM m.g) (hi : InvF m) (hv : LogR H v m.lg) (hla : m.lg.la ≤ 200000) {a : AV} {L : List It} (ha : ItsR H a L) (hL : LiS L) (hk : RefP K H m aP aG v (refM m L)) :
    @AC Tryz.prog 110 [.ag (ptr m aP aG), v, a] H ⟨K⟩ := by
  have hv0 := hv
  obtain ⟨aS, LS, rfl, hr, hLl⟩ := hv
  have o1 := hP.one
  have o2 := hP.cells
  have o3 := hG.one
  have o4 := hG.cells
  have o5 := Rw.one hr
  have o6 := Rw.cells hr
  have oa := Rw.one ha.1
  have ca := Rw.cells ha.1
  refine AC_of (.forget ?_)
  refine call_c follows cf110_ok (by simp) ?_
  simp [ptr]
  refine newK_of fun b3 f3 => ?_
  simp
  refine newK_of fun b4 f4 => ?_
  simp
  refine newK_of fun b6 f6 => ?_
  simp
  refine newK_of fun b7 f7 => ?_
  simp
  obtain ⟨n4_3, n3_4, f4⟩ := upd_none'.1 f4
  obtain ⟨n6_4, n4_6, f6⟩ := upd_none'.1 f6
  obtain ⟨n6_3, n3_6, f6⟩ := upd_none'.1 f6
  obtain ⟨n7_6, n6_7, f7⟩ := upd_none'.1 f7
  obtain ⟨n7_4, n4_7, f7⟩ := upd_none'.1 f7
  obtain ⟨n7_3, n3_7, f7⟩ := upd_none'.1 f7
  generalize hV : upd (upd (upd (upd H b3 _) b4 _) b6 _) b7 _ = A0
  have hS : Sub H A0 := hV ▸ (((((Sub.refl H).upd f3).upd f4).upd f6).upd f7)
  have k3 : A0 b3 = some (.cells (ptr m aP aG)) := by rw [← hV]; simp [ptr, n3_4, n3_6, n3_7]
  have k4 : A0 b4 = some (.cells ([vi m.lg.la, aS])) := by rw [← hV]; simp [n4_6, n4_7]
  have k6 : A0 b6 = some (.cells (z17)) := by rw [← hV]; simp [z17, n6_7]
  have k7 : A0 b7 = some (.cells ([vi 0, vnil])) := by rw [← hV]; simp
  have q3 : A0 b3 ≠ none := by rw [k3]; simp
  have q4 : A0 b4 ≠ none := by rw [k4]; simp
  have q6 : A0 b6 ≠ none := by rw [k6]; simp
  have q7 : A0 b7 ≠ none := by rw [k7]; simp
  clear hV
  have w : Vw H A0 A0 := ⟨hS, sdm (Sub.refl _)⟩
  simp [ptr, k3, n3_4, n3_6, n3_7]
  refine c131 (ha.sub hS) hL ?_
  unfold refM at hk
  simp only at hk
  generalize hT : tgtF L m.x m.y = T at *
  obtain ⟨ts, tc⟩ := T
  simp only at hk
  by_cases h0 : ts = 0
  case' pos =>
    rw [if_neg (by simp [h0])] at hk
    simp [ptr, k3, k4, h0]
    refine c132 (m := m) (hv0.sub hS) hla (ha.sub hS) hL hi ?_
  case' neg =>
    simp [ptr, k3, h0]
    refine c112 (m := m.g) hI (hG.sub hS) tc ?_
    cases hal : allowsM m.g tc
    case' true =>
      rw [if_neg (by simp [hal])] at hk
      simp [ptr, k3, k4]
      refine c132 (m := m) (hv0.sub hS) hla (ha.sub hS) hL hi ?_
    case' false =>
      rw [if_pos ⟨h0, hal⟩] at hk
      simp [ptr, k3, k4]
      refine c132 (m := m) (hv0.sub hS) hla (ItsR.nil _) LiS.nil hi ?_
  all_goals
    intro V v2 out hs hn ho hap
    obtain ⟨lg', fs', fc', hU⟩ := updForm ho
    unfold RefP at hk
    rw [hU] at hk hn
    rw [hU]
    simp only at hk hn
    have hv' := hn.rd (hv0.sub hS) hs
    obtain ⟨aS', LS', rfl, hr', hl'⟩ := hv'
    have p1 := Rw.one hr'
    have p2 := Rw.cells hr'
    have oo := ho.one
    have oc := ho.cells
    have k3 := hs _ _ k3
    have k4 := hs _ _ k4
    have k6 := hs _ _ k6
    have k7 := hs _ _ k7
    have w := w.to hs
    simp
    refine newK_of fun b12 h12 => ?_
    have n3_12 := ne_of_free k3 h12
    have n12_3 := Ne.symm n3_12
    have n4_12 := ne_of_free k4 h12
    have n12_4 := Ne.symm n4_12
    have n6_12 := ne_of_free k6 h12
    have n12_6 := Ne.symm n6_12
    have n7_12 := ne_of_free k7 h12
    have n12_7 := Ne.symm n7_12
    have f12 := w.sub.none_of h12
    simp
    refine newK_of fun b13 h13 => ?_
    obtain ⟨n13_12, n12_13, h13⟩ := upd_none'.1 h13
    have n3_13 := ne_of_free k3 h13
    have n13_3 := Ne.symm n3_13
    have n4_13 := ne_of_free k4 h13
    have n13_4 := Ne.symm n4_13
    have n6_13 := ne_of_free k6 h13
    have n13_6 := Ne.symm n6_13
    have n7_13 := ne_of_free k7 h13
    have n13_7 := Ne.symm n7_13
    have f13 := w.sub.none_of h13
    simp [ptr, z17, k3, k6, k7, n3_12, n3_13, n6_3, n6_7, n6_12, n6_13, n7_3, n7_6, n7_12, n7_13, n12_13, n13_3, n13_6, n13_12, p1, o1, o3]
    refine ⟨_, Sub.refl _, ?_⟩
    refine hk _ _ _ ?_ ((hn.kp (fun r_ C_ h_ => ⟨h_.1, by simp [upd_apply, h_.ne1 q3, h_.ne1 q6, h_.ne1 q7, h_.ne2 h12, h_.ne2 h13, h_.2]⟩)).from (sdm hS)) ((ho.kp (fun r_ C_ h_ => ⟨h_.1, by simp [upd_apply, h_.ne1 q3, h_.ne1 q6, h_.ne1 q7, h_.ne2 h12, h_.ne2 h13, h_.2]⟩)).from (sdm hS)) hap
    repeat' (first | exact w.sub | refine Sub.upd ?_ (by assumption))
set_option maxHeartbeats 2000000 in
theorem c74 {H : AH} {K : AV → AH → Prop} {m : PS} {v aP aG : AV} (hP : Ri H aP (sortI m.pr)) (hG : Ri H aG m.g.ch) (hI : InvM m.g) (hi : InvF m) (hv : LogR H v m.lg) (hla : m.lg.la ≤ 200000) {a : AV} {L : List It} (ha : ItsR H a L) (hL : LiS L) (e : Ev) (hk : RefP K H m aP aG v (motM m L e)) :
    @AC Tryz.prog 74 [.ag (ptr m aP aG), v, a, .ag (evc e)] H ⟨K⟩ := by
  have hv0 := hv
  obtain ⟨aS, LS, rfl, hr, hLl⟩ := hv
  have o1 := hP.one
  have o2 := hP.cells
  have o3 := hG.one
  have o4 := hG.cells
  have o5 := Rw.one hr
  have o6 := Rw.cells hr
  have oa := Rw.one ha.1
  have ca := Rw.cells ha.1
  refine AC_of (.forget ?_)
  refine call_c follows cf74_ok (by simp) ?_
  simp [ptr, evc]
  refine newK_of fun b4 f4 => ?_
  simp
  refine newK_of fun b5 f5 => ?_
  simp
  refine newK_of fun b7 f7 => ?_
  simp
  refine newK_of fun b8 f8 => ?_
  simp
  refine newK_of fun b9 f9 => ?_
  simp
  obtain ⟨n5_4, n4_5, f5⟩ := upd_none'.1 f5
  obtain ⟨n7_5, n5_7, f7⟩ := upd_none'.1 f7
  obtain ⟨n7_4, n4_7, f7⟩ := upd_none'.1 f7
  obtain ⟨n8_7, n7_8, f8⟩ := upd_none'.1 f8
  obtain ⟨n8_5, n5_8, f8⟩ := upd_none'.1 f8
  obtain ⟨n8_4, n4_8, f8⟩ := upd_none'.1 f8
  obtain ⟨n9_8, n8_9, f9⟩ := upd_none'.1 f9
  obtain ⟨n9_7, n7_9, f9⟩ := upd_none'.1 f9
  obtain ⟨n9_5, n5_9, f9⟩ := upd_none'.1 f9
  obtain ⟨n9_4, n4_9, f9⟩ := upd_none'.1 f9
  generalize hV : upd (upd (upd (upd (upd H b4 _) b5 _) b7 _) b8 _) b9 _ = A0
  have hS : Sub H A0 := hV ▸ ((((((Sub.refl H).upd f4).upd f5).upd f7).upd f8).upd f9)
  have k4 : A0 b4 = some (.cells (ptr m aP aG)) := by rw [← hV]; simp [ptr, n4_5, n4_7, n4_8, n4_9]
  have k5 : A0 b5 = some (.cells ([vi m.lg.la, aS])) := by rw [← hV]; simp [n5_7, n5_8, n5_9]
  have k7 : A0 b7 = some (.cells (evc e)) := by rw [← hV]; simp [evc, n7_8, n7_9]
  have k8 : A0 b8 = some (.cells (z17)) := by rw [← hV]; simp [z17, n8_9]
  have k9 : A0 b9 = some (.cells ([vi 0, vnil])) := by rw [← hV]; simp
  have q4 : A0 b4 ≠ none := by rw [k4]; simp
  have q5 : A0 b5 ≠ none := by rw [k5]; simp
  have q7 : A0 b7 ≠ none := by rw [k7]; simp
  have q8 : A0 b8 ≠ none := by rw [k8]; simp
  have q9 : A0 b9 ≠ none := by rw [k9]; simp
  clear hV
  have w : Vw H A0 A0 := ⟨hS, sdm (Sub.refl _)⟩
  simp [ptr, evc, k4, k5, k7, n5_4, n7_4, n7_8, n7_9]
  generalize hV : upd A0 b4 _ = A1
  have kp : Kp A0 A0 A1 := by rw [← hV]; exact (fun r_ C_ h_ => ⟨h_.1, by simp [upd_apply, h_.ne1 q4, h_.2]⟩)
  have w : Vw H A0 A1 := by rw [← hV]; (repeat' (first | exact w | refine Vw.put ?_ (by assumption) _))
  have k4 : A1 b4 = some (.cells (ptr { m with x := e.x, y := e.y } aP aG)) := by rw [← hV]; simp [ptr]
  have k5 : A1 b5 = some (.cells ([vi m.lg.la, aS])) := by rw [← hV]; simp [n5_4, k5]
  have k7 : A1 b7 = some (.cells (evc e)) := by rw [← hV]; simp [n7_4, k7]
  have k8 : A1 b8 = some (.cells (z17)) := by rw [← hV]; simp [n8_4, k8]
  have k9 : A1 b9 = some (.cells ([vi 0, vnil])) := by rw [← hV]; simp [n9_4, k9]
  clear hV kp
  have q4 : A1 b4 ≠ none := by rw [k4]; simp
  have q5 : A1 b5 ≠ none := by rw [k5]; simp
  have q7 : A1 b7 ≠ none := by rw [k7]; simp
  have q8 : A1 b8 ≠ none := by rw [k8]; simp
  have q9 : A1 b9 ≠ none := by rw [k9]; simp
  have hS := w.sub
  have w : Vw H A1 A1 := ⟨hS, sdm (Sub.refl _)⟩
  refine c110 (m := { m with x := e.x, y := e.y }) (hP.sub hS) (hG.sub hS) hI hi (hv0.sub hS) hla (ha.sub hS) hL ?_
  intro V v2 out hs hn ho hap
  have hrg := ref_g3 { m with x := e.x, y := e.y } L
  have hrl := ref_len2 { m with x := e.x, y := e.y } L
  unfold motM at hk
  simp only at hk hn hrg
  generalize refM { m with x := e.x, y := e.y } L = r at *
  have hv' := hn.rd (hv0.sub hS) hs
  obtain ⟨aS', LS', rfl, hr', hl'⟩ := hv'
  have p1 := Rw.one hr'
  have p2 := Rw.cells hr'
  have oo := ho.one
  have oc := ho.cells
  have k4 := hs _ _ k4
  have k5 := hs _ _ k5
  have k7 := hs _ _ k7
  have k8 := hs _ _ k8
  have k9 := hs _ _ k9
  have w := w.to hs
  simp
  refine newK_of fun b11 h11 => ?_
  have n4_11 := ne_of_free k4 h11
  have n11_4 := Ne.symm n4_11
  have n5_11 := ne_of_free k5 h11
  have n11_5 := Ne.symm n5_11
  have n7_11 := ne_of_free k7 h11
  have n11_7 := Ne.symm n7_11
  have n8_11 := ne_of_free k8 h11
  have n11_8 := Ne.symm n8_11
  have n9_11 := ne_of_free k9 h11
  have n11_9 := Ne.symm n9_11
  have f11 := w.sub.none_of h11
  simp
  refine newK_of fun b12 h12 => ?_
  obtain ⟨n12_11, n11_12, h12⟩ := upd_none'.1 h12
  have n4_12 := ne_of_free k4 h12
  have n12_4 := Ne.symm n4_12
  have n5_12 := ne_of_free k5 h12
  have n12_5 := Ne.symm n5_12
  have n7_12 := ne_of_free k7 h12
  have n12_7 := Ne.symm n7_12
  have n8_12 := ne_of_free k8 h12
  have n12_8 := Ne.symm n8_12
  have n9_12 := ne_of_free k9 h12
  have n12_9 := Ne.symm n9_12
  have f12 := w.sub.none_of h12
  have x11 : rowB out ≠ some b11 := fun e => (ho.blk e).2 h11
  have x12 : rowB out ≠ some b12 := fun e => (ho.blk e).2 h12
  simp [ptr, n11_12, n12_11, p1, o1, o3]
  generalize hV : upd (upd (upd (upd V b11 _) b12 _) b11 _) b12 _ = V2
  have kp : Kp A1 V V2 := by rw [← hV]; exact (fun r_ C_ h_ => ⟨h_.1, by simp [upd_apply, h_.ne2 h11, h_.ne2 h12, h_.2]⟩)
  have w : Vw H A1 V2 := by rw [← hV]; (repeat' (first | exact w | refine Vw.put ?_ (by assumption) _))
  have hn := hn.kp kp
  have ho := ho.kp kp
  have k4 : V2 b4 = some (.cells (ptr { m with x := e.x, y := e.y } aP aG)) := by rw [← hV]; simp [n4_11, n4_12, k4]
  have k5 : V2 b5 = some (.cells ([vi m.lg.la, aS])) := by rw [← hV]; simp [n5_11, n5_12, k5]
  have k7 : V2 b7 = some (.cells (evc e)) := by rw [← hV]; simp [n7_11, n7_12, k7]
  have k8 : V2 b8 = some (.cells (z17)) := by rw [← hV]; simp [n8_11, n8_12, k8]
  have k9 : V2 b9 = some (.cells ([vi 0, vnil])) := by rw [← hV]; simp [n9_11, n9_12, k9]
  have k11 : V2 b11 = some (.cells (ptr r.1 aP aG)) := by rw [← hV]; simp [ptr, n11_12]
  have k12 : V2 b12 = some (.cells ([vi r.1.lg.la, aS'])) := by rw [← hV]; simp
  clear hV kp
  refine c111 (ha.sub w.sub) (by have := hL.len; omega) _ ?_
  rcases itm_find r.1.fs L 0 with ⟨h1, h2⟩ | ⟨k, hk0, h1, h2⟩
  · rw [h2] at hk
    simp only at hk
    rw [h1]
    simp [ptr, z17, k8, k9, k11, k12, n8_9, n9_8, n12_8, p1, o1, o3]
    refine ⟨_, Sub.refl _, ?_⟩
    refine hk _ _ _ ?_ ((hn.kp (fun r_ C_ h_ => ⟨h_.1, by simp [upd_apply, h_.ne1 q8, h_.ne1 q9, h_.2]⟩)).from (sdm hS)) ((ho.kp (fun r_ C_ h_ => ⟨h_.1, by simp [upd_apply, h_.ne1 q8, h_.ne1 q9, h_.2]⟩)).from (sdm hS)) hap
    repeat' (first | exact w.sub | refine Sub.upd ?_ (by assumption))
  rw [h2] at hk
  simp only at hk
  rw [h1, Nat.zero_add]
  simp [ptr, k11]
  refine c76 (m := r.1) (hP.sub w.sub) (by rw [hrg]; exact hG.sub w.sub) (by rw [hrg]; exact hI) ?_
  cases hok : okM r.1 with
  | false =>
    have es : ∀ d, sendM r.1 r.2 d = (r.1, r.2) := fun d => by simp [sendM, hok]
    rw [es] at hk
    simp [ptr, z17, k8, k9, k11, k12, n8_9, n9_8, n12_8, p1, o1, o3]
    refine ⟨_, Sub.refl _, ?_⟩
    refine hk _ _ _ ?_ ((hn.kp (fun r_ C_ h_ => ⟨h_.1, by simp [upd_apply, h_.ne1 q8, h_.ne1 q9, h_.2]⟩)).from (sdm hS)) ((ho.kp (fun r_ C_ h_ => ⟨h_.1, by simp [upd_apply, h_.ne1 q8, h_.ne1 q9, h_.2]⟩)).from (sdm hS)) hap
    repeat' (first | exact w.sub | refine Sub.upd ?_ (by assumption))
  | true =>
    obtain ⟨d1, hd1⟩ : ∃ d : Dl, d = ⟨r.1.fc, r.1.fs, 3, r.1.lt, sub64 r.1.x L[k].x, sub64 r.1.y L[k].y, 0, 0, 0⟩ := ⟨_, rfl⟩
    have es : sendM r.1 r.2 ⟨0, 0, 3, 0, sub64 r.1.x L[k].x, sub64 r.1.y L[k].y, 0, 0, 0⟩ = (r.1, r.2 ++ [d1]) := by rw [hd1]; simp [sendM, hok]
    rw [es] at hk
    have hdc : [vi r.1.fc, vi r.1.fs, vi 3, vi r.1.lt, AV.pl (.int .i64 (IntKind.i64.wrap (r.1.x - L[k].x))), AV.pl (.int .i64 (IntKind.i64.wrap (r.1.y - L[k].y))), vi 0, vi 0, vu 0] = dlc d1 := by rw [hd1]; rfl
    obtain ⟨w0, w1, _, wf⟩ := fat itc_l (ha.1.sub w.sub) hk0
    obtain ⟨wx, wx1, wx2⟩ := wf 2 (vi L[k].x) rfl
    obtain ⟨wy, wy1, wy2⟩ := wf 3 (vi L[k].y) rfl
    simp [ptr, k11, w1, wx1, wx2 _ (Sub.refl _), wy1, wy2 _ (Sub.refl _)]
    have hap0 := hap
    refine newK_of fun bd hd => ?_
    rw [hdc]
    have hdl : (dlc d1).length = 9 := rfl
    have hdt : (dlc d1).take 9 = dlc d1 := rfl
    have hsd : Sub V2 (upd V2 bd (.cells (dlc d1))) := (Sub.refl _).upd hd
    have k4 := hsd _ _ k4
    have k5 := hsd _ _ k5
    have k7 := hsd _ _ k7
    have k8 := hsd _ _ k8
    have k9 := hsd _ _ k9
    have k11 := hsd _ _ k11
    have k12 := hsd _ _ k12
    have w := w.to hsd
    have hn := hn.to hsd
    have ho := ho.to hsd
    simp [-appK_nil, -appK_nil0, hdl, hdt]
    refine ho.app1 w.dm (by omega) d1 fun V8 out' keep ou8 hr8 => ?_
    have k4 := keep _ _ k4 (fun e => q4 (ho.blk e).1)
    have k5 := keep _ _ k5 (fun e => q5 (ho.blk e).1)
    have k7 := keep _ _ k7 (fun e => q7 (ho.blk e).1)
    have k8 := keep _ _ k8 (fun e => q8 (ho.blk e).1)
    have k9 := keep _ _ k9 (fun e => q9 (ho.blk e).1)
    have k11 := keep _ _ k11 x11
    have k12 := keep _ _ k12 x12
    have hap := Ap.app hap (hn.rd hv0 w.sub) hr8
    have hn := hn.keep hap0 keep
    have w := w.keep hS ho keep
    have ho := ou8
    have oo := ho.one
    have oc := ho.cells
    simp [ptr, z17, k8, k9, k11, k12, n8_9, n9_8, n12_8, p1, o1, o3]
    refine ⟨_, Sub.refl _, ?_⟩
    refine hk _ _ _ ?_ ((hn.kp (fun r_ C_ h_ => ⟨h_.1, by simp [upd_apply, h_.ne1 q8, h_.ne1 q9, h_.2]⟩)).from (sdm hS)) ((ho.kp (fun r_ C_ h_ => ⟨h_.1, by simp [upd_apply, h_.ne1 q8, h_.ne1 q9, h_.2]⟩)).from (sdm hS)) hap
    repeat' (first | exact w.sub | refine Sub.upd ?_ (by assumption))
set_option maxHeartbeats 2000000 in
theorem c77 {H : AH} {K : AV → AH → Prop} {m : PS} {v aP aG : AV} (hP : Ri H aP (sortI m.pr)) (hG : Ri H aG m.g.ch) (hI : InvM m.g) (hi : InvF m) (hv : LogR H v m.lg) (hla : m.lg.la ≤ 200000) (hl : m.pr.length ≤ 500) (e : Ev) (hk : ResP K H m aP aG v (preM m e)) :
    @AC Tryz.prog 77 [.ag (ptr m aP aG), v, .ag (evc e)] H ⟨K⟩ := by
  have hv0 := hv
  obtain ⟨aS, LS, rfl, hr, hLl⟩ := hv
  have o1 := hP.one
  have o2 := hP.cells
  have o3 := hG.one
  have o4 := hG.cells
  have o5 := Rw.one hr
  have o6 := Rw.cells hr
  have lP : ∀ k : AV → Prop, @lenK aP ⟨k⟩ = k (vi (m.pr.length : Int)) := fun k => by rw [hP.lenK, sortI_len]
  refine AC_of (.forget ?_)
  refine call_c follows cf77_ok (by simp) ?_
  simp [ptr, evc]
  refine newK_of fun b3 f3 => ?_
  simp
  refine newK_of fun b4 f4 => ?_
  simp
  refine newK_of fun b5 f5 => ?_
  simp
  refine newK_of fun b6 f6 => ?_
  simp
  refine newK_of fun b7 f7 => ?_
  simp
  obtain ⟨n4_3, n3_4, f4⟩ := upd_none'.1 f4
  obtain ⟨n5_4, n4_5, f5⟩ := upd_none'.1 f5
  obtain ⟨n5_3, n3_5, f5⟩ := upd_none'.1 f5
  obtain ⟨n6_5, n5_6, f6⟩ := upd_none'.1 f6
  obtain ⟨n6_4, n4_6, f6⟩ := upd_none'.1 f6
  obtain ⟨n6_3, n3_6, f6⟩ := upd_none'.1 f6
  obtain ⟨n7_6, n6_7, f7⟩ := upd_none'.1 f7
  obtain ⟨n7_5, n5_7, f7⟩ := upd_none'.1 f7
  obtain ⟨n7_4, n4_7, f7⟩ := upd_none'.1 f7
  obtain ⟨n7_3, n3_7, f7⟩ := upd_none'.1 f7
  generalize hV : upd (upd (upd (upd (upd H b3 _) b4 _) b5 _) b6 _) b7 _ = A0
  have hS : Sub H A0 := hV ▸ ((((((Sub.refl H).upd f3).upd f4).upd f5).upd f6).upd f7)
  have k3 : A0 b3 = some (.cells (ptr m aP aG)) := by rw [← hV]; simp [ptr, n3_4, n3_5, n3_6, n3_7]
  have k4 : A0 b4 = some (.cells ([vi m.lg.la, aS])) := by rw [← hV]; simp [n4_5, n4_6, n4_7]
  have k5 : A0 b5 = some (.cells (evc e)) := by rw [← hV]; simp [evc, n5_6, n5_7]
  have k6 : A0 b6 = some (.cells (z17)) := by rw [← hV]; simp [z17, n6_7]
  have k7 : A0 b7 = some (.cells ([vi 0, vnil])) := by rw [← hV]; simp
  have q3 : A0 b3 ≠ none := by rw [k3]; simp
  have q4 : A0 b4 ≠ none := by rw [k4]; simp
  have q5 : A0 b5 ≠ none := by rw [k5]; simp
  have q6 : A0 b6 ≠ none := by rw [k6]; simp
  have q7 : A0 b7 ≠ none := by rw [k7]; simp
  clear hV
  have w : Vw H A0 A0 := ⟨hS, sdm (Sub.refl _)⟩
  obtain ⟨m1, hm1⟩ : ∃ m1, m1 = (if m.pr = [] then grbM { m with fl := true } else m) := ⟨_, rfl⟩
  unfold preM at hk
  simp only at hk
  rw [← hm1] at hk
  have hkp : m1.pr = m.pr ∧ m1.lg = m.lg ∧ m1.g.ch = m.g.ch ∧ InvM m1.g := by
    rw [hm1]
    split
    · have := grb_keep { m with fl := true }
      exact ⟨this.1, this.2.1, this.2.2.1, grb_g3 (m := { m with fl := true }) hI⟩
    · exact ⟨rfl, rfl, rfl, hI⟩
  obtain ⟨hpr, hlg, hch, hIm⟩ := hkp
  by_cases hp : m.pr = []
  case' neg =>
    have hp1 : ¬ m.pr.length = 0 := fun h => hp (List.length_eq_zero_iff.1 h)
    have hp2 : ¬ (m.pr.length : Int) = 0 := by omega
    rw [if_neg hp] at hm1
    rw [← hm1] at k3
    simp [evc, k3, k5, n3_4, n3_5, n3_6, n3_7, lP, hp1]
  case' pos =>
    have hp1 : m.pr.length = 0 := by rw [hp]; rfl
    have hp2 : (m.pr.length : Int) = 0 := by omega
    rw [if_pos hp] at hm1
    simp [ptr, k3, n3_4, n3_5, n3_6, n3_7, lP, hp1]
    refine c113 _ _ _ true ?_
    simp [ptr, k3]
    generalize hV : upd A0 b3 _ = B1
    have kp : Kp A0 A0 B1 := by rw [← hV]; exact (fun r_ C_ h_ => ⟨h_.1, by simp [upd_apply, h_.ne1 q3, h_.2]⟩)
    have w : Vw H A0 B1 := by rw [← hV]; (repeat' (first | exact w | refine Vw.put ?_ (by assumption) _))
    have k3 : B1 b3 = some (.cells (ptr { m with fl := true } aP aG)) := by rw [← hV]; simp [ptr]
    have k4 : B1 b4 = some (.cells ([vi m.lg.la, aS])) := by rw [← hV]; simp [n4_3, k4]
    have k5 : B1 b5 = some (.cells (evc e)) := by rw [← hV]; simp [n5_3, k5]
    have k6 : B1 b6 = some (.cells (z17)) := by rw [← hV]; simp [n6_3, k6]
    have k7 : B1 b7 = some (.cells ([vi 0, vnil])) := by rw [← hV]; simp [n7_3, k7]
    clear hV kp
    refine c76 (m := { m with fl := true }) (hP.sub w.sub) (hG.sub w.sub) hI ?_
    cases hok : okM { m with fl := true }
    case' false =>
      have hm : m1 = { m with fl := true } := by rw [hm1]; unfold grbM; rw [if_neg (by simp [hok])]
      rw [← hm] at k3
      simp [evc, k3, k5]
    case' true =>
      simp [ptr, k3]
      refine c114 (m := m.g) hI (hG.sub w.sub) m.fc m.fs ?_
      simp [rcs]
      refine newK_of fun b9 h9 => ?_
      have n3_9 := ne_of_free k3 h9
      have n9_3 := Ne.symm n3_9
      have n4_9 := ne_of_free k4 h9
      have n9_4 := Ne.symm n4_9
      have n5_9 := ne_of_free k5 h9
      have n9_5 := Ne.symm n5_9
      have n6_9 := ne_of_free k6 h9
      have n9_6 := Ne.symm n6_9
      have n7_9 := ne_of_free k7 h9
      have n9_7 := Ne.symm n7_9
      have f9 := w.sub.none_of h9
      by_cases he : (implM m.g m.fc m.fs).2 = 0
      case' neg =>
        have hm : m1 = { m with fl := true } := by rw [hm1]; unfold grbM; rw [if_neg (fun h => he h.2)]
        rw [← hm] at k3
        simp [evc, k3, k5, n3_9, n5_9, o3, he]
        generalize hV : upd B1 b9 _ = B2
        have kp : Kp A0 B1 B2 := by rw [← hV]; exact (fun r_ C_ h_ => ⟨h_.1, by simp [upd_apply, h_.ne2 h9, h_.2]⟩)
        have w : Vw H A0 B2 := by rw [← hV]; (repeat' (first | exact w | refine Vw.put ?_ (by assumption) _))
        have k3 : B2 b3 = some (.cells (ptr m1 aP aG)) := by rw [← hV]; simp [n3_9, k3]
        have k4 : B2 b4 = some (.cells ([vi m.lg.la, aS])) := by rw [← hV]; simp [n4_9, k4]
        have k5 : B2 b5 = some (.cells (evc e)) := by rw [← hV]; simp [n5_9, k5]
        have k6 : B2 b6 = some (.cells (z17)) := by rw [← hV]; simp [n6_9, k6]
        have k7 : B2 b7 = some (.cells ([vi 0, vnil])) := by rw [← hV]; simp [n7_9, k7]
        have k9 : B2 b9 = some (.cells (rcs (implM m.g m.fc m.fs).1 aG)) := by rw [← hV]; simp [rcs]
        clear hV kp
      case' pos =>
        have hm : m1 = { { m with fl := true } with g := (implM m.g m.fc m.fs).1, hd := m.fs } := by rw [hm1]; unfold grbM; rw [if_pos ⟨hok, he⟩]
        simp [ptr, evc, k3, k5, n3_9, n5_3, n5_9, o3, he]
        generalize hV : upd (upd B1 b9 _) b3 _ = B2
        have kp : Kp A0 B1 B2 := by rw [← hV]; exact (fun r_ C_ h_ => ⟨h_.1, by simp [upd_apply, h_.ne1 q3, h_.ne2 h9, h_.2]⟩)
        have w : Vw H A0 B2 := by rw [← hV]; (repeat' (first | exact w | refine Vw.put ?_ (by assumption) _))
        have k3 : B2 b3 = some (.cells (ptr m1 aP aG)) := by rw [← hV]; simp [ptr, hm] <;> rfl
        have k4 : B2 b4 = some (.cells ([vi m.lg.la, aS])) := by rw [← hV]; simp [n4_3, n4_9, k4]
        have k5 : B2 b5 = some (.cells (evc e)) := by rw [← hV]; simp [n5_3, n5_9, k5]
        have k6 : B2 b6 = some (.cells (z17)) := by rw [← hV]; simp [n6_3, n6_9, k6]
        have k7 : B2 b7 = some (.cells ([vi 0, vnil])) := by rw [← hV]; simp [n7_3, n7_9, k7]
        have k9 : B2 b9 = some (.cells (rcs (implM m.g m.fc m.fs).1 aG)) := by rw [← hV]; simp [rcs, n9_3] <;> rfl
        clear hV kp
  all_goals
    have w0 := w
    refine c115 (p := m.pr) (hP.sub w.sub) (by omega) e.co fun V1 aP2 hs hnP => ?_
    have hnP := hnP.from w0.dm
    have z1 := hnP.one o1
    have z2 := hnP.cells o2
    have hnPP := hnP
    have k3 := hs _ _ k3
    have k4 := hs _ _ k4
    have k5 := hs _ _ k5
    have k6 := hs _ _ k6
    have k7 := hs _ _ k7
    have w := w.to hs
    simp [ptr, evc, k3, k4, k5, n4_3, n5_3, z1, z2]
    generalize hV : upd V1 b3 _ = C1
    have kp : Kp A0 V1 C1 := by rw [← hV]; exact (fun r_ C_ h_ => ⟨h_.1, by simp [upd_apply, h_.ne1 q3, h_.2]⟩)
    have w : Vw H A0 C1 := by rw [← hV]; (repeat' (first | exact w | refine Vw.put ?_ (by assumption) _))
    have hnP := hnP.kp kp
    have k3 : C1 b3 = some (.cells (ptr { m1 with pr := m1.pr ++ [e.co], st := m1.st ++ [m1.ck], ck := m1.ck + 1 } aP2 aG)) := by rw [← hV]; simp [ptr]
    have k4 : C1 b4 = some (.cells ([vi m.lg.la, aS])) := by rw [← hV]; simp [n4_3, k4]
    have k5 : C1 b5 = some (.cells (evc e)) := by rw [← hV]; simp [n5_3, k5]
    have k6 : C1 b6 = some (.cells (z17)) := by rw [← hV]; simp [n6_3, k6]
    have k7 : C1 b7 = some (.cells ([vi 0, vnil])) := by rw [← hV]; simp [n7_3, k7]
    clear hV kp
    have hP2 : Ri C1 aP2 (sortI ({ m1 with pr := m1.pr ++ [e.co], st := m1.st ++ [m1.ck], ck := m1.ck + 1 } : PS).pr) := by rw [show ({ m1 with pr := m1.pr ++ [e.co], st := m1.st ++ [m1.ck], ck := m1.ck + 1 } : PS).pr = m.pr ++ [e.co] by simp only [hpr]]; exact hnP.rd hP w.sub
    have w1 := w
    have hv1 : LogR C1 (.ag [vi m.lg.la, aS]) ({ m1 with pr := m1.pr ++ [e.co], st := m1.st ++ [m1.ck], ck := m1.ck + 1 } : PS).lg := by rw [show ({ m1 with pr := m1.pr ++ [e.co], st := m1.st ++ [m1.ck], ck := m1.ck + 1 } : PS).lg = m.lg from hlg]; exact hv0.sub w.sub
    refine c116 (m := { m1 with pr := m1.pr ++ [e.co], st := m1.st ++ [m1.ck], ck := m1.ck + 1 }) hP2 (by rw [show ({ m1 with pr := m1.pr ++ [e.co], st := m1.st ++ [m1.ck], ck := m1.ck + 1 } : PS).g.ch = m.g.ch from hch]; exact hG.sub w.sub) hIm hv1 (by show m1.lg.la ≤ 200000; rw [hlg]; exact hla) e ?_
    intro V2 v2 out hs2 hn ho hap
    have hvv := hn.rd hv1 hs2
    obtain ⟨lg', hU⟩ := sendForm ho
    unfold ResP at hk
    rw [hU] at hk hn hvv
    simp only at hk hn hvv
    obtain ⟨aS', LS', rfl, hr', hl'⟩ := hvv
    have p1 := Rw.one hr'
    have p2 := Rw.cells hr'
    have oo := ho.one
    have oc := ho.cells
    have k3 := hs2 _ _ k3
    have k4 := hs2 _ _ k4
    have k5 := hs2 _ _ k5
    have k6 := hs2 _ _ k6
    have k7 := hs2 _ _ k7
    have w := w.to hs2
    have hnP := hnP.to hs2
    rw [hlg] at hn
    have hn := hn.from w1.dm
    have ho := ho.from w1.dm
    simp
    refine newK_of fun b11 h11 => ?_
    have n3_11 := ne_of_free k3 h11
    have n11_3 := Ne.symm n3_11
    have n4_11 := ne_of_free k4 h11
    have n11_4 := Ne.symm n4_11
    have n5_11 := ne_of_free k5 h11
    have n11_5 := Ne.symm n5_11
    have n6_11 := ne_of_free k6 h11
    have n11_6 := Ne.symm n6_11
    have n7_11 := ne_of_free k7 h11
    have n11_7 := Ne.symm n7_11
    have f11 := w.sub.none_of h11
    simp [ptr, z17, k3, k6, k7, n3_11, n6_7, n6_11, n7_6, n7_11, n11_6, p1, z1, o3]
    have hnP : NwI A0 V2 aP (sortI m.pr) aP2 (sortI (m1.pr ++ [e.co])) := by rw [hpr]; exact hnP
    refine ⟨_, Sub.refl _, ?_⟩
    refine hk _ aP2 _ _ ?_ ((hnP.kp (fun r_ C_ h_ => ⟨h_.1, by simp [upd_apply, h_.ne1 q6, h_.ne1 q7, h_.ne2 h11, h_.2]⟩)).from (sdm hS)) ((hn.kp (fun r_ C_ h_ => ⟨h_.1, by simp [upd_apply, h_.ne1 q6, h_.ne1 q7, h_.ne2 h11, h_.2]⟩)).from (sdm hS)) ((ho.kp (fun r_ C_ h_ => ⟨h_.1, by simp [upd_apply, h_.ne1 q6, h_.ne1 q7, h_.ne2 h11, h_.2]⟩)).from (sdm hS)) hap
    repeat' (first | exact w.sub | refine Sub.upd ?_ (by assumption))
set_option maxHeartbeats 2000000 in
theorem c78 {H : AH} {K : AV → AH → Prop} {m : PS} {v aP aG : AV} (hP : Ri H aP (sortI m.pr)) (hG : Ri H aG m.g.ch) (hI : InvM m.g) (hi : InvF m) (hv : LogR H v m.lg) (hla : m.lg.la ≤ 100000) {a : AV} {L : List It} (ha : ItsR H a L) (hL : LiS L) (hl : m.pr.length ≤ 500) (hnd : m.pr.Nodup) (e : Ev) (hk : ResP K H m aP aG v (relM m L e)) :
    @AC Tryz.prog 78 [.ag (ptr m aP aG), v, a, .ag (evc e)] H ⟨K⟩ := by
  have hv0 := hv
  obtain ⟨aS, LS, rfl, hr, hLl⟩ := hv
  have o1 := hP.one
  have o2 := hP.cells
  have o3 := hG.one
  have o4 := hG.cells
  have o5 := Rw.one hr
  have o6 := Rw.cells hr
  have oa := Rw.one ha.1
  have ca := Rw.cells ha.1
  refine AC_of (.forget ?_)
  refine call_c follows cf78_ok (by simp) ?_
  simp [ptr, evc]
  refine newK_of fun b4 f4 => ?_
  simp
  refine newK_of fun b5 f5 => ?_
  simp
  refine newK_of fun b7 f7 => ?_
  simp
  refine newK_of fun b8 f8 => ?_
  simp
  refine newK_of fun b9 f9 => ?_
  simp
  obtain ⟨n5_4, n4_5, f5⟩ := upd_none'.1 f5
  obtain ⟨n7_5, n5_7, f7⟩ := upd_none'.1 f7
  obtain ⟨n7_4, n4_7, f7⟩ := upd_none'.1 f7
  obtain ⟨n8_7, n7_8, f8⟩ := upd_none'.1 f8
  obtain ⟨n8_5, n5_8, f8⟩ := upd_none'.1 f8
  obtain ⟨n8_4, n4_8, f8⟩ := upd_none'.1 f8
  obtain ⟨n9_8, n8_9, f9⟩ := upd_none'.1 f9
  obtain ⟨n9_7, n7_9, f9⟩ := upd_none'.1 f9
  obtain ⟨n9_5, n5_9, f9⟩ := upd_none'.1 f9
  obtain ⟨n9_4, n4_9, f9⟩ := upd_none'.1 f9
  generalize hV : upd (upd (upd (upd (upd H b4 _) b5 _) b7 _) b8 _) b9 _ = A0
  have hS : Sub H A0 := hV ▸ ((((((Sub.refl H).upd f4).upd f5).upd f7).upd f8).upd f9)
  have k4 : A0 b4 = some (.cells (ptr m aP aG)) := by rw [← hV]; simp [ptr, n4_5, n4_7, n4_8, n4_9]
  have k5 : A0 b5 = some (.cells ([vi m.lg.la, aS])) := by rw [← hV]; simp [n5_7, n5_8, n5_9]
  have k7 : A0 b7 = some (.cells (evc e)) := by rw [← hV]; simp [evc, n7_8, n7_9]
  have k8 : A0 b8 = some (.cells (z17)) := by rw [← hV]; simp [z17, n8_9]
  have k9 : A0 b9 = some (.cells ([vi 0, vnil])) := by rw [← hV]; simp
  have q4 : A0 b4 ≠ none := by rw [k4]; simp
  have q5 : A0 b5 ≠ none := by rw [k5]; simp
  have q7 : A0 b7 ≠ none := by rw [k7]; simp
  have q8 : A0 b8 ≠ none := by rw [k8]; simp
  have q9 : A0 b9 ≠ none := by rw [k9]; simp
  clear hV
  have w : Vw H A0 A0 := ⟨hS, sdm (Sub.refl _)⟩
  simp [evc, k7, n4_5, n4_7, n4_8, n4_9]
  refine c117 (hP.sub w.sub) (by rw [sortI_len]; omega) e.co fun V1 aP2 hs hnP => ?_
  rw [without_sort hnd] at hnP
  have z1 := hnP.one o1
  have z2 := hnP.cells o2
  have k4 := hs _ _ k4
  have k5 := hs _ _ k5
  have k7 := hs _ _ k7
  have k8 := hs _ _ k8
  have k9 := hs _ _ k9
  have w := w.to hs
  simp [ptr, evc, k4, k5, k7, n5_4, n7_4, z1, z2]
  generalize hV : upd V1 b4 _ = C1
  have kp : Kp A0 V1 C1 := by rw [← hV]; exact (fun r_ C_ h_ => ⟨h_.1, by simp [upd_apply, h_.ne1 q4, h_.2]⟩)
  have w : Vw H A0 C1 := by rw [← hV]; (repeat' (first | exact w | refine Vw.put ?_ (by assumption) _))
  have hnP := hnP.kp kp
  have k4 : C1 b4 = some (.cells (ptr (delP m e.co) aP2 aG)) := by rw [← hV]; simp [ptr, delP] <;> rfl
  have k5 : C1 b5 = some (.cells ([vi m.lg.la, aS])) := by rw [← hV]; simp [n5_4, k5]
  have k7 : C1 b7 = some (.cells (evc e)) := by rw [← hV]; simp [n7_4, k7]
  have k8 : C1 b8 = some (.cells (z17)) := by rw [← hV]; simp [n8_4, k8]
  have k9 : C1 b9 = some (.cells ([vi 0, vnil])) := by rw [← hV]; simp [n9_4, k9]
  clear hV kp
  have hP2 : Ri C1 aP2 (sortI (delP m e.co).pr) := hnP.rd hP w.sub
  have w1 := w
  have hv1 : LogR C1 (.ag [vi m.lg.la, aS]) (delP m e.co).lg := hv0.sub w.sub
  refine c116 (m := delP m e.co) hP2 (hG.sub w.sub) hI hv1 (by show m.lg.la ≤ 200000; omega) e ?_
  intro V2 v2 out hs2 hn ho hap
  obtain ⟨lg', hU⟩ := sendForm ho
  have hsl := send_len1 (delP m e.co) ⟨0, 0, 4, 0, 0, 0, e.co, e.va, 0⟩
  have hlb := send_lab (m := delP m e.co) (l := []) (d := ⟨0, 0, 4, 0, 0, 0, e.co, e.va, 0⟩) (by show 0 ≤ m.lg.la ∧ m.lg.la ≤ 100002; exact ⟨hv0.pos, by omega⟩)
  unfold relM at hk
  simp only at hk
  have hvv := hn.rd hv1 hs2
  rw [hU] at hn hvv hlb
  simp only at hn hvv hlb
  have hvv0 := hvv
  obtain ⟨aS', LS', rfl, hr', hl'⟩ := hvv
  have p1 := Rw.one hr'
  have p2 := Rw.cells hr'
  have oo := ho.one
  have oc := ho.cells
  have xP : ∀ r, rowB out = some r → rowB aP2 ≠ some r := fun r h1 h2 => riBl hP2 h2 (ho.blk h1).1
  have k4 := hs2 _ _ k4
  have k5 := hs2 _ _ k5
  have k7 := hs2 _ _ k7
  have k8 := hs2 _ _ k8
  have k9 := hs2 _ _ k9
  have w := w.to hs2
  have hnP := hnP.to hs2
  have hn := hn.from w1.dm
  have ho := ho.from w1.dm
  have lP2 : ∀ k : AV → Prop, @lenK aP2 ⟨k⟩ = k (vi ((m.pr.erase e.co).length : Int)) := fun k => by rw [(hnP.rd hP w.sub).lenK, sortI_len]
  simp
  refine newK_of fun b11 h11 => ?_
  have n4_11 := ne_of_free k4 h11
  have n11_4 := Ne.symm n4_11
  have n5_11 := ne_of_free k5 h11
  have n11_5 := Ne.symm n5_11
  have n7_11 := ne_of_free k7 h11
  have n11_7 := Ne.symm n7_11
  have n8_11 := ne_of_free k8 h11
  have n11_8 := Ne.symm n8_11
  have n9_11 := ne_of_free k9 h11
  have n11_9 := Ne.symm n9_11
  have f11 := w.sub.none_of h11
  have x11 : rowB out ≠ some b11 := fun e => (ho.blk e).2 h11
  by_cases hp : m.pr.erase e.co = []
  case neg =>
    have hp1 : 0 < (m.pr.erase e.co).length := List.length_pos_iff.2 hp
    have hp2 : (0 : Int) < (m.pr.erase e.co).length := by omega
    rw [if_pos (by rw [hU]; exact hp)] at hk
    unfold ResP at hk
    rw [hU] at hk
    simp only at hk
    simp [ptr, z17, k4, k8, k9, n4_11, n8_9, n8_11, n9_8, n9_11, n11_8, o3, z1, p1, lP2, hp1]
    refine ⟨_, Sub.refl _, ?_⟩
    refine hk _ aP2 _ _ ?_ ((hnP.kp (fun r_ C_ h_ => ⟨h_.1, by simp [upd_apply, h_.ne1 q8, h_.ne1 q9, h_.ne2 h11, h_.2]⟩)).from (sdm hS)) ((hn.kp (fun r_ C_ h_ => ⟨h_.1, by simp [upd_apply, h_.ne1 q8, h_.ne1 q9, h_.ne2 h11, h_.2]⟩)).from (sdm hS)) ((ho.kp (fun r_ C_ h_ => ⟨h_.1, by simp [upd_apply, h_.ne1 q8, h_.ne1 q9, h_.ne2 h11, h_.2]⟩)).from (sdm hS)) hap
    repeat' (first | exact w.sub | refine Sub.upd ?_ (by assumption))
  have hp1 : ¬ 0 < (m.pr.erase e.co).length := by rw [hp]; simp
  have hp2 : ¬ (0 : Int) < (m.pr.erase e.co).length := by omega
  rw [if_neg (by rw [hU]; exact fun h => h hp)] at hk
  rw [hU] at hk
  obtain ⟨m2, hm2⟩ : ∃ m2, m2 = endH { delP m e.co with lg := lg' } := ⟨_, rfl⟩
  rw [← hm2] at hk
  obtain ⟨e1, e2, e3, e4, e5⟩ := endH_keep { delP m e.co with lg := lg' }
  have e6 := endH_g3 (m := { delP m e.co with lg := lg' }) hI
  rw [← hm2] at e1 e2 e3 e4 e5 e6
  simp only at e1 e2 e3 e4 e5
  have e4 : m2.fs = m.fs := e4
  have e5 : m2.fc = m.fc := e5
  by_cases hh : m.hd = 0
  case' pos =>
    have hm : m2 = { delP m e.co with lg := lg' } := by rw [hm2]; unfold endH; exact if_neg fun h => h hh
    simp [ptr, k4, n4_11, p1, lP2, hp1, delP, hh]
    generalize hV : upd V2 b11 _ = D1
    have kp : Kp A0 V2 D1 := by rw [← hV]; exact (fun r_ C_ h_ => ⟨h_.1, by simp [upd_apply, h_.ne2 h11, h_.2]⟩)
    have w : Vw H A0 D1 := by rw [← hV]; (repeat' (first | exact w | refine Vw.put ?_ (by assumption) _))
    have hnP := hnP.kp kp
    have hn := hn.kp kp
    have ho := ho.kp kp
    have k4 : D1 b4 = some (.cells (ptr (delP m e.co) aP2 aG)) := by rw [← hV]; simp [n4_11, k4]
    have k5 : D1 b5 = some (.cells ([vi m.lg.la, aS])) := by rw [← hV]; simp [n5_11, k5]
    have k7 : D1 b7 = some (.cells (evc e)) := by rw [← hV]; simp [n7_11, k7]
    have k8 : D1 b8 = some (.cells (z17)) := by rw [← hV]; simp [n8_11, k8]
    have k9 : D1 b9 = some (.cells ([vi 0, vnil])) := by rw [← hV]; simp [n9_11, k9]
    have k11 : D1 b11 = some (.cells ([vi lg'.la, aS'])) := by rw [← hV]; simp
    clear hV kp
    have k4 : D1 b4 = some (.cells (ptr m2 aP2 aG)) := by rw [k4, hm]
  case' neg =>
    have hm : m2 = { delP m e.co with lg := lg', g := (releaseM m.g).1, hd := 0 } := by rw [hm2]; unfold endH; exact if_pos hh
    simp [ptr, k4, n4_11, p1, lP2, hp1, delP, hh]
    generalize hV : upd V2 b11 _ = D0
    have kp : Kp A0 V2 D0 := by rw [← hV]; exact (fun r_ C_ h_ => ⟨h_.1, by simp [upd_apply, h_.ne2 h11, h_.2]⟩)
    have w : Vw H A0 D0 := by rw [← hV]; (repeat' (first | exact w | refine Vw.put ?_ (by assumption) _))
    have hnP := hnP.kp kp
    have hn := hn.kp kp
    have ho := ho.kp kp
    have k4 : D0 b4 = some (.cells (ptr (delP m e.co) aP2 aG)) := by rw [← hV]; simp [n4_11, k4]
    have k5 : D0 b5 = some (.cells ([vi m.lg.la, aS])) := by rw [← hV]; simp [n5_11, k5]
    have k7 : D0 b7 = some (.cells (evc e)) := by rw [← hV]; simp [n7_11, k7]
    have k8 : D0 b8 = some (.cells (z17)) := by rw [← hV]; simp [n8_11, k8]
    have k9 : D0 b9 = some (.cells ([vi 0, vnil])) := by rw [← hV]; simp [n9_11, k9]
    have k11 : D0 b11 = some (.cells ([vi lg'.la, aS'])) := by rw [← hV]; simp
    clear hV kp
    refine c81 (m := m.g) hI (hG.sub w.sub) ?_
    simp [rcs]
    refine newK_of fun b13 h13 => ?_
    have n4_13 := ne_of_free k4 h13
    have n13_4 := Ne.symm n4_13
    have n5_13 := ne_of_free k5 h13
    have n13_5 := Ne.symm n5_13
    have n7_13 := ne_of_free k7 h13
    have n13_7 := Ne.symm n7_13
    have n8_13 := ne_of_free k8 h13
    have n13_8 := Ne.symm n8_13
    have n9_13 := ne_of_free k9 h13
    have n13_9 := Ne.symm n9_13
    have n11_13 := ne_of_free k11 h13
    have n13_11 := Ne.symm n11_13
    have f13 := w.sub.none_of h13
    simp [ptr, k4, n4_13, o3, delP]
    generalize hV : upd (upd D0 b13 _) b4 _ = D1
    have kp : Kp A0 D0 D1 := by rw [← hV]; exact (fun r_ C_ h_ => ⟨h_.1, by simp [upd_apply, h_.ne1 q4, h_.ne2 h13, h_.2]⟩)
    have w : Vw H A0 D1 := by rw [← hV]; (repeat' (first | exact w | refine Vw.put ?_ (by assumption) _))
    have hnP := hnP.kp kp
    have hn := hn.kp kp
    have ho := ho.kp kp
    have k4 : D1 b4 = some (.cells (ptr m2 aP2 aG)) := by rw [← hV]; simp [ptr, hm, delP] <;> rfl
    have k5 : D1 b5 = some (.cells ([vi m.lg.la, aS])) := by rw [← hV]; simp [n5_4, n5_13, k5]
    have k7 : D1 b7 = some (.cells (evc e)) := by rw [← hV]; simp [n7_4, n7_13, k7]
    have k8 : D1 b8 = some (.cells (z17)) := by rw [← hV]; simp [n8_4, n8_13, k8]
    have k9 : D1 b9 = some (.cells ([vi 0, vnil])) := by rw [← hV]; simp [n9_4, n9_13, k9]
    have k11 : D1 b11 = some (.cells ([vi lg'.la, aS'])) := by rw [← hV]; simp [n11_4, n11_13, k11]
    have k13 : D1 b13 = some (.cells (rcs (releaseM m.g).1 aG)) := by rw [← hV]; simp [rcs, n13_4] <;> rfl
    clear hV kp
  all_goals
    rw [← e4, ← e5]
    refine c113 _ _ _ false ?_
    simp [ptr, k4, k11, n11_4]
    generalize hV : upd D1 b4 _ = E1
    have kp : Kp A0 D1 E1 := by rw [← hV]; exact (fun r_ C_ h_ => ⟨h_.1, by simp [upd_apply, h_.ne1 q4, h_.2]⟩)
    have w : Vw H A0 E1 := by rw [← hV]; (repeat' (first | exact w | refine Vw.put ?_ (by assumption) _))
    have hnP := hnP.kp kp
    have hn := hn.kp kp
    have ho := ho.kp kp
    have k4 : E1 b4 = some (.cells (ptr { m2 with fl := false } aP2 aG)) := by rw [← hV]; simp [ptr]
    have k5 : E1 b5 = some (.cells ([vi m.lg.la, aS])) := by rw [← hV]; simp [n5_4, k5]
    have k7 : E1 b7 = some (.cells (evc e)) := by rw [← hV]; simp [n7_4, k7]
    have k8 : E1 b8 = some (.cells (z17)) := by rw [← hV]; simp [n8_4, k8]
    have k9 : E1 b9 = some (.cells ([vi 0, vnil])) := by rw [← hV]; simp [n9_4, k9]
    have k11 : E1 b11 = some (.cells ([vi lg'.la, aS'])) := by rw [← hV]; simp [n11_4, k11]
    clear hV kp
    have hnE := hn
    have hoE := ho
    have wE := w
    have hvE := hn.rd hv0 w.sub
    refine c110 (m := { m2 with fl := false }) (by rw [show ({ m2 with fl := false } : PS).pr = m.pr.erase e.co from e1]; exact hnP.rd hP w.sub) (by rw [show ({ m2 with fl := false } : PS).g.ch = m.g.ch from e3]; exact hG.sub w.sub) e6 (by show (m2.fs = 0 ∧ m2.fc = 0) ∨ (1 ≤ m2.fs ∧ 1 ≤ m2.fc); rw [e4, e5]; exact hi) (by rw [show ({ m2 with fl := false } : PS).lg = lg' from e2]; exact hvE) (by show m2.lg.la ≤ 200000; rw [e2]; unfold LaB at hlb; have : (delP m e.co).lg.la = m.lg.la := rfl; omega) (ha.sub w.sub) hL ?_
    intro V3 v3 more hs3 hn3 ho3 hap3
    have hrp := ref_pr3 { m2 with fl := false } L
    have hrl := ref_len2 { m2 with fl := false } L
    simp only at hrp hn3
    generalize refM { m2 with fl := false } L = r at *
    rw [e2] at hn3
    have hvv3 := hn3.rd hvE hs3
    obtain ⟨aS3, LS3, rfl, hr3, hl3⟩ := hvv3
    have p1 := Rw.one hr3
    have p2 := Rw.cells hr3
    have oo3 := ho3.one
    have oc3 := ho3.cells
    have k4 := hs3 _ _ k4
    have k5 := hs3 _ _ k5
    have k7 := hs3 _ _ k7
    have k8 := hs3 _ _ k8
    have k9 := hs3 _ _ k9
    have k11 := hs3 _ _ k11
    have w := w.to hs3
    have hnP := hnP.to hs3
    have hn := hn.to hs3
    have ho := ho.to hs3
    have hap0 := hap.step hn3 (fun r h => (hoE.blk h).2)
    have hn := hnE.step hn3 wE.dm (fun r C h => (h.to hs3).2)
    have ho3 := ho3.from wE.dm
    simp
    refine newK_of fun b16 h16 => ?_
    have n4_16 := ne_of_free k4 h16
    have n16_4 := Ne.symm n4_16
    have n5_16 := ne_of_free k5 h16
    have n16_5 := Ne.symm n5_16
    have n7_16 := ne_of_free k7 h16
    have n16_7 := Ne.symm n7_16
    have n8_16 := ne_of_free k8 h16
    have n16_8 := Ne.symm n8_16
    have n9_16 := ne_of_free k9 h16
    have n16_9 := Ne.symm n9_16
    have n11_16 := ne_of_free k11 h16
    have n16_11 := Ne.symm n11_16
    have f16 := w.sub.none_of h16
    simp
    refine newK_of fun b17 h17 => ?_
    obtain ⟨n17_16, n16_17, h17⟩ := upd_none'.1 h17
    have n4_17 := ne_of_free k4 h17
    have n17_4 := Ne.symm n4_17
    have n5_17 := ne_of_free k5 h17
    have n17_5 := Ne.symm n5_17
    have n7_17 := ne_of_free k7 h17
    have n17_7 := Ne.symm n7_17
    have n8_17 := ne_of_free k8 h17
    have n17_8 := Ne.symm n8_17
    have n9_17 := ne_of_free k9 h17
    have n17_9 := Ne.symm n9_17
    have n11_17 := ne_of_free k11 h17
    have n17_11 := Ne.symm n11_17
    have f17 := w.sub.none_of h17
    have x16 : rowB out ≠ some b16 := fun e => (ho.blk e).2 h16
    have x17 : rowB out ≠ some b17 := fun e => (ho.blk e).2 h17
    simp [ptr, n16_17, n17_16, o3, z1, p1]
    generalize hV : upd (upd (upd (upd V3 b16 _) b17 _) b16 _) b17 _ = F1
    have kp : Kp A0 V3 F1 := by rw [← hV]; exact (fun r_ C_ h_ => ⟨h_.1, by simp [upd_apply, h_.ne2 h16, h_.ne2 h17, h_.2]⟩)
    have w : Vw H A0 F1 := by rw [← hV]; (repeat' (first | exact w | refine Vw.put ?_ (by assumption) _))
    have hnP := hnP.kp kp
    have hn := hn.kp kp
    have ho := ho.kp kp
    have ho3 := ho3.kp kp
    have k4 : F1 b4 = some (.cells (ptr { m2 with fl := false } aP2 aG)) := by rw [← hV]; simp [n4_16, n4_17, k4]
    have k5 : F1 b5 = some (.cells ([vi m.lg.la, aS])) := by rw [← hV]; simp [n5_16, n5_17, k5]
    have k7 : F1 b7 = some (.cells (evc e)) := by rw [← hV]; simp [n7_16, n7_17, k7]
    have k8 : F1 b8 = some (.cells (z17)) := by rw [← hV]; simp [n8_16, n8_17, k8]
    have k9 : F1 b9 = some (.cells ([vi 0, vnil])) := by rw [← hV]; simp [n9_16, n9_17, k9]
    have k11 : F1 b11 = some (.cells ([vi lg'.la, aS'])) := by rw [← hV]; simp [n11_16, n11_17, k11]
    have k16 : F1 b16 = some (.cells (ptr r.1 aP2 aG)) := by rw [← hV]; simp [ptr, n16_17]
    have k17 : F1 b17 = some (.cells ([vi r.1.lg.la, aS3])) := by rw [← hV]; simp
    clear hV kp
    rw [Rw.news ho3.rd]
    refine ho.app w.dm (by omega) _ (by omega) fun V8 out2 keep ou8 hr8 => ?_
    have k4 := keep _ _ k4 (fun e => q4 (ho.blk e).1)
    have k5 := keep _ _ k5 (fun e => q5 (ho.blk e).1)
    have k7 := keep _ _ k7 (fun e => q7 (ho.blk e).1)
    have k8 := keep _ _ k8 (fun e => q8 (ho.blk e).1)
    have k9 := keep _ _ k9 (fun e => q9 (ho.blk e).1)
    have k11 := keep _ _ k11 x11
    have k16 := keep _ _ k16 x16
    have k17 := keep _ _ k17 x17
    have hap := Ap.app hap0 (hn.rd hv0 w.sub) hr8
    have hn := hn.keep hap0 keep
    have hnP := hnP.keep xP keep
    have w := w.keep hS ho keep
    have ho := ou8
    have oo := ho.one
    have oc := ho.cells
    have hnP : NwI A0 V8 aP (sortI m.pr) aP2 (sortI r.1.pr) := by rw [show r.1.pr = m.pr.erase e.co from hrp.trans e1]; exact hnP
    simp [ptr, z17, k8, k9, k16, k17, n8_9, n9_8, n17_8, o3, z1, p1]
    refine ⟨_, Sub.refl _, ?_⟩
    refine hk _ aP2 _ _ ?_ ((hnP.kp (fun r_ C_ h_ => ⟨h_.1, by simp [upd_apply, h_.ne1 q8, h_.ne1 q9, h_.2]⟩)).from (sdm hS)) ((hn.kp (fun r_ C_ h_ => ⟨h_.1, by simp [upd_apply, h_.ne1 q8, h_.ne1 q9, h_.2]⟩)).from (sdm hS)) ((ho.kp (fun r_ C_ h_ => ⟨h_.1, by simp [upd_apply, h_.ne1 q8, h_.ne1 q9, h_.2]⟩)).from (sdm hS)) hap
    repeat' (first | exact w.sub | refine Sub.upd ?_ (by assumption))
end Go.Proofs.YtmpncpamndhmcaaGreat
end

/-! The specification's pointer, walked: check, Feed, Gone, New. Conditions: as each lemma states them. -/
section
namespace Go.Proofs.YtmpncpamndhmcaaGreat
open Go Go.Ab Go.RowKit

attribute [local simp] rc_len rc_t4 rc_t1 rc_t2 rc_t3 rc_d1 rc_d2 rc_d3 rc_d4 rc_ag rc_one rc_eq

theorem send_len3 (m : PS) (l : List Dl) (d : Dl) : (sendM m l d).2.length ≤ l.length + 1 := by
  unfold sendM
  repeat' split
  all_goals simp
theorem mot_len3 (m : PS) (L : List It) (e : Ev) : (motM m L e).2.length ≤ 3 := by
  have h1 := ref_len2 { m with x := e.x, y := e.y } L
  unfold motM
  simp only
  split
  · exact Nat.le_trans (send_len3 _ _ _) (by omega)
  · omega
theorem pre_len3 (m : PS) (e : Ev) : (preM m e).2.length ≤ 3 := by
  unfold preM
  exact Nat.le_trans (send_len3 _ _ _) (by simp)
theorem rel_len3 (m : PS) (L : List It) (e : Ev) : (relM m L e).2.length ≤ 3 := by
  unfold relM
  simp only
  have h1 := send_len1 (delP m e.co) ⟨0, 0, 4, 0, 0, 0, e.co, e.va, 0⟩
  split
  · omega
  · simp only [List.length_append]
    exact Nat.le_trans (Nat.add_le_add h1 (ref_len2 _ _)) (by decide)
theorem tick_keep (m : PS) (e : Ev) : (tickM m e).pr = m.pr ∧ (tickM m e).lg = m.lg ∧ (tickM m e).g = m.g ∧ (tickM m e).fs = m.fs ∧ (tickM m e).fc = m.fc := by
  unfold tickM
  split <;> exact ⟨rfl, rfl, rfl, rfl, rfl⟩
def FeedP (K : AV → AH → Prop) (H : AH) (m : PS) (aP aG v : AV) (r : PS × List Dl × Int) : Prop :=
  ∀ V aP' v' out, Sub H V → NwI H V aP (sortI m.pr) aP' (sortI r.1.pr) → NwL H V v m.lg v' r.1.lg → OutN H V out r.2.1 → K (.tp [.ag (ptr r.1 aP' aG), v', out, vi r.2.2]) V
set_option maxHeartbeats 2000000 in
theorem c73 {H : AH} {K : AV → AH → Prop} {m : PS} {aP aG : AV} (hP : Ri H aP (sortI m.pr)) (hl : m.pr.length ≤ 500) (oG : aG.one = true) (cG : aG.cells = some [aG]) (e : Ev) (hk : K (vi (chkM m e)) H) :
    @AC Tryz.prog 73 [.ag (ptr m aP aG), .ag (evc e)] H ⟨K⟩ := by
  have o1 := hP.one
  have o2 := hP.cells
  have lP : ∀ k : AV → Prop, @lenK aP ⟨k⟩ = k (vi (m.pr.length : Int)) := fun k => by rw [hP.lenK, sortI_len]
  refine AC_of (.forget ?_)
  refine call_c follows cf73_ok (by simp) ?_
  simp [ptr, evc]
  refine newK_of fun b2 f2 => ?_
  simp
  refine newK_of fun b3 f3 => ?_
  simp
  obtain ⟨n3_2, n2_3, f3⟩ := upd_none'.1 f3
  generalize hV : upd (upd H b2 _) b3 _ = A0
  have hS : Sub H A0 := hV ▸ (((Sub.refl H).upd f2).upd f3)
  have k2 : A0 b2 = some (.cells (ptr m aP aG)) := by rw [← hV]; simp [ptr, n2_3]
  have k3 : A0 b3 = some (.cells (evc e)) := by rw [← hV]; simp [evc]
  have q2 : A0 b2 ≠ none := by rw [k2]; simp
  have q3 : A0 b3 ≠ none := by rw [k3]; simp
  clear hV
  have w : Vw H A0 A0 := ⟨hS, sdm (Sub.refl _)⟩
  have hc : (sortI m.pr).contains e.co = m.pr.contains e.co := by
    rw [Bool.eq_iff_iff, List.contains_iff_mem, List.contains_iff_mem, sortI_mem]
  by_cases y1 : e.kd = 1
  · by_cases hr : min e.x e.y < -16384 ∨ 16384 < max e.x e.y
    · have : chkM m e = 6 := by unfold chkM; rw [if_neg (by omega), if_pos ⟨y1, hr⟩]
      rw [this] at hk
      by_cases x1 : e.x < -16384
      · simp [evc, k3, y1, x1]
        exact ⟨H, hS, hk⟩
      by_cases x2 : 16384 < e.x
      · simp [evc, k3, y1, x1, x2]
        exact ⟨H, hS, hk⟩
      by_cases x3 : e.y < -16384
      · simp [evc, k3, y1, x1, x2, x3]
        exact ⟨H, hS, hk⟩
      have x4 : 16384 < e.y := by omega
      simp [evc, k3, y1, x1, x2, x3, x4]
      exact ⟨H, hS, hk⟩
    · have : chkM m e = 0 := by unfold chkM; rw [if_neg (by omega), if_neg (fun h => hr h.2), if_neg (by omega), if_neg (by omega)]
      rw [this] at hk
      have x1 : ¬ e.x < -16384 := by omega
      have x2 : ¬ 16384 < e.x := by omega
      have x3 : ¬ e.y < -16384 := by omega
      have x4 : ¬ 16384 < e.y := by omega
      simp [evc, k3, y1, x1, x2, x3, x4]
      exact ⟨H, hS, hk⟩
  by_cases y3 : e.kd = 3
  · have : chkM m e = 0 := by unfold chkM; rw [if_neg (by omega), if_neg (by omega), if_neg (by omega), if_neg (by omega)]
    rw [this] at hk
    simp [evc, k3, y3]
    exact ⟨H, hS, hk⟩
  by_cases y2 : e.kd = 2
  case neg =>
    have : chkM m e = 2 := by unfold chkM; rw [if_pos (by omega)]
    rw [this] at hk
    simp [evc, k3, y1, y2, y3]
    exact ⟨H, hS, hk⟩
  by_cases v0 : e.va = 0
  case pos =>
    simp [ptr, evc, k2, k3, y2, v0]
    refine c109 (hP.sub hS) (by rw [sortI_len]; omega) e.co ?_
    rw [hc]
    cases hm : m.pr.contains e.co
    · have : chkM m e = 14 := by unfold chkM; rw [if_neg (by omega), if_neg (by omega), if_pos ⟨y2, by rw [hm, v0]; rfl⟩]
      rw [this] at hk
      simp [evc, k3, y2, v0]
      exact ⟨H, hS, hk⟩
    · have : chkM m e = 0 := by unfold chkM; rw [if_neg (by omega), if_neg (by omega), if_neg (by rw [hm, v0]; simp), if_neg (by omega)]
      rw [this] at hk
      simp [evc, k3, y2, v0]
      exact ⟨H, hS, hk⟩
  case neg =>
    by_cases v1 : e.va = 1
    case neg =>
      have : chkM m e = 2 := by unfold chkM; rw [if_pos (by omega)]
      rw [this] at hk
      simp [evc, k3, y2, v0, v1]
      exact ⟨H, hS, hk⟩
    simp [ptr, evc, k2, k3, y2, v1]
    refine c109 (hP.sub hS) (by rw [sortI_len]; omega) e.co ?_
    rw [hc]
    cases hm : m.pr.contains e.co
    · by_cases hf : 16 ≤ m.pr.length
      · have : chkM m e = 5 := by unfold chkM; rw [if_neg (by omega), if_neg (by omega), if_neg (by rw [hm, v1]; simp), if_pos ⟨y2, v1, hf⟩]
        rw [this] at hk
        have hf' : (16 : Int) ≤ m.pr.length := by omega
        simp [ptr, evc, k2, k3, lP, y2, v1, hf']
        exact ⟨H, hS, hk⟩
      · have : chkM m e = 0 := by unfold chkM; rw [if_neg (by omega), if_neg (by omega), if_neg (by rw [hm, v1]; simp), if_neg (by omega)]
        rw [this] at hk
        have hf' : ¬ (16 : Int) ≤ m.pr.length := by omega
        simp [ptr, evc, k2, k3, lP, y2, v1, hf']
        exact ⟨H, hS, hk⟩
    · have : chkM m e = 14 := by unfold chkM; rw [if_neg (by omega), if_neg (by omega), if_pos ⟨y2, by rw [hm, v1]; rfl⟩]
      rw [this] at hk
      simp [evc, k3, y2, v1]
      exact ⟨H, hS, hk⟩
end Go.Proofs.YtmpncpamndhmcaaGreat
end

/-! The specification's pointer, walked: Feed, Gone, New. Conditions: as each lemma states them. -/
section
namespace Go.Proofs.YtmpncpamndhmcaaGreat
open Go Go.Ab Go.RowKit

attribute [local simp] rc_len rc_t4 rc_t1 rc_t2 rc_t3 rc_d1 rc_d2 rc_d3 rc_d4 rc_ag rc_one rc_eq

theorem c21 {H : AH} {K : AV → AH → Prop} (hk : K (.ag (ptr m0 vnil vnil)) H) : @AC Tryz.prog 21 [] H ⟨K⟩ := by
  refine AC_of (.forget ?_)
  refine call_c follows cf21_ok (by simp) ?_
  simp
  refine newK_of fun b hb => ?_
  simp
  refine c45 ?_
  simp
  refine c46 ?_
  simp [rcs, gz]
  exact ⟨H, by repeat' (first | exact Sub.refl _ | refine Sub.upd ?_ hb), hk⟩
theorem send_pr3 (m : PS) (l : List Dl) (d : Dl) : (sendM m l d).1.pr = m.pr := by
  obtain ⟨lg, h⟩ := send_form m l d
  rw [h]
theorem mot_pr3 (m : PS) (L : List It) (e : Ev) : (motM m L e).1.pr = m.pr := by
  have h1 := ref_pr3 { m with x := e.x, y := e.y } L
  unfold motM
  simp only at h1 ⊢
  split
  · rw [send_pr3]; exact h1
  · exact h1
set_option maxHeartbeats 2000000 in
theorem c47 {H : AH} {K : AV → AH → Prop} {m : PS} {v aP aG : AV} (hP : Ri H aP (sortI m.pr)) (hG : Ri H aG m.g.ch) (hI : InvM m.g) (hi : InvF m) (hv : LogR H v m.lg) (hla : m.lg.la ≤ 90000) {a : AV} {L : List It} (ha : ItsR H a L) (hL : LiS L) (hl : m.pr.length ≤ 500) (hnd : m.pr.Nodup) (e : Ev) (hk : FeedP K H m aP aG v (feedM m L e)) :
    @AC Tryz.prog 47 [.ag (ptr m aP aG), v, a, .ag (evc e)] H ⟨K⟩ := by
  have hv0 := hv
  obtain ⟨aS, LS, rfl, hr, hLl⟩ := hv
  have o1 := hP.one
  have o2 := hP.cells
  have o3 := hG.one
  have o4 := hG.cells
  have o5 := Rw.one hr
  have o6 := Rw.cells hr
  have oa := Rw.one ha.1
  have ca := Rw.cells ha.1
  refine AC_of (.forget ?_)
  refine call_c follows cf47_ok (by simp) ?_
  simp [ptr, evc]
  refine newK_of fun b4 f4 => ?_
  simp
  refine newK_of fun b5 f5 => ?_
  simp
  refine newK_of fun b7 f7 => ?_
  simp
  refine newK_of fun b8 f8 => ?_
  simp
  refine newK_of fun b9 f9 => ?_
  simp
  obtain ⟨n5_4, n4_5, f5⟩ := upd_none'.1 f5
  obtain ⟨n7_5, n5_7, f7⟩ := upd_none'.1 f7
  obtain ⟨n7_4, n4_7, f7⟩ := upd_none'.1 f7
  obtain ⟨n8_7, n7_8, f8⟩ := upd_none'.1 f8
  obtain ⟨n8_5, n5_8, f8⟩ := upd_none'.1 f8
  obtain ⟨n8_4, n4_8, f8⟩ := upd_none'.1 f8
  obtain ⟨n9_8, n8_9, f9⟩ := upd_none'.1 f9
  obtain ⟨n9_7, n7_9, f9⟩ := upd_none'.1 f9
  obtain ⟨n9_5, n5_9, f9⟩ := upd_none'.1 f9
  obtain ⟨n9_4, n4_9, f9⟩ := upd_none'.1 f9
  generalize hV : upd (upd (upd (upd (upd H b4 _) b5 _) b7 _) b8 _) b9 _ = A0
  have hS : Sub H A0 := hV ▸ ((((((Sub.refl H).upd f4).upd f5).upd f7).upd f8).upd f9)
  have k4 : A0 b4 = some (.cells (ptr m aP aG)) := by rw [← hV]; simp [ptr, n4_5, n4_7, n4_8, n4_9]
  have k5 : A0 b5 = some (.cells ([vi m.lg.la, aS])) := by rw [← hV]; simp [n5_7, n5_8, n5_9]
  have k7 : A0 b7 = some (.cells (evc e)) := by rw [← hV]; simp [evc, n7_8, n7_9]
  have k8 : A0 b8 = some (.cells (z17)) := by rw [← hV]; simp [z17, n8_9]
  have k9 : A0 b9 = some (.cells ([vi 0, vnil])) := by rw [← hV]; simp
  have q4 : A0 b4 ≠ none := by rw [k4]; simp
  have q5 : A0 b5 ≠ none := by rw [k5]; simp
  have q7 : A0 b7 ≠ none := by rw [k7]; simp
  have q8 : A0 b8 ≠ none := by rw [k8]; simp
  have q9 : A0 b9 ≠ none := by rw [k9]; simp
  clear hV
  have w : Vw H A0 A0 := ⟨hS, sdm (Sub.refl _)⟩
  simp [evc, k7, n4_5, n4_7, n4_8, n4_9]
  refine c73 (m := m) (aG := aG) (hP.sub hS) hl o3 o4 e ?_
  by_cases hc : chkM m e = 0
  case neg =>
    have hf : feedM m L e = (m, [], chkM m e) := by unfold feedM; rw [if_pos hc]
    rw [hf] at hk
    simp [ptr, z17, k4, k5, k8, k9, n5_8, n8_9, n9_8, o1, o3, o5, hc]
    have hn : NwL A0 A0 (.ag [vi m.lg.la, aS]) m.lg (.ag [vi m.lg.la, aS]) m.lg := .inl ⟨rfl, rfl⟩
    have ho : OutN A0 A0 vnil [] := .inl ⟨rfl, rfl⟩
    refine ⟨_, Sub.refl _, ?_⟩
    refine hk _ aP _ _ ?_ (NwI.same _ _ _ _) ((hn.kp (fun r_ C_ h_ => ⟨h_.1, by simp [upd_apply, h_.ne1 q8, h_.ne1 q9, h_.2]⟩)).from (sdm hS)) ((ho.kp (fun r_ C_ h_ => ⟨h_.1, by simp [upd_apply, h_.ne1 q8, h_.ne1 q9, h_.2]⟩)).from (sdm hS)) 
    repeat' (first | exact w.sub | refine Sub.upd ?_ (by assumption))
  obtain ⟨m1, hm1⟩ : ∃ m1, m1 = tickM m e := ⟨_, rfl⟩
  have hf : feedM m L e = (let r := if e.kd = 1 then motM m1 L e else if e.kd = 2 then (if e.va = 1 then preM m1 e else relM m1 L e) else sendM m1 [] ⟨0, 0, 5, 0, 0, 0, e.co, e.va, 0⟩; (r.1, grpL r.2, 0)) := by unfold feedM; rw [if_neg (by simpa using hc), hm1]
  rw [hf] at hk
  simp only at hk
  have htk := tick_keep m e
  rw [← hm1] at htk
  obtain ⟨t1, t2, t3, t4, t5⟩ := htk
  by_cases d1 : m.td = false
  case' pos =>
    have hm : m1 = { m with td := true, lt := e.tm } := by rw [hm1]; unfold tickM; rw [if_pos (.inl d1)]
    simp [ptr, evc, k4, k7, n7_4, hc, d1]
    generalize hV : upd A0 b4 _ = T1
    have w : Vw H A0 T1 := by rw [← hV]; (repeat' (first | exact w | refine Vw.put ?_ (by assumption) _))
    have k4 : T1 b4 = some (.cells (ptr m1 aP aG)) := by rw [← hV]; simp [ptr, hm] <;> rfl
    have k5 : T1 b5 = some (.cells ([vi m.lg.la, aS])) := by rw [← hV]; simp [n5_4, k5]
    have k7 : T1 b7 = some (.cells (evc e)) := by rw [← hV]; simp [n7_4, k7]
    have k8 : T1 b8 = some (.cells (z17)) := by rw [← hV]; simp [n8_4, k8]
    have k9 : T1 b9 = some (.cells ([vi 0, vnil])) := by rw [← hV]; simp [n9_4, k9]
    clear hV
  case' neg =>
    have d1 : m.td = true := by simpa using d1
    by_cases d2 : m.lt < e.tm
    case' pos =>
      have hm : m1 = { m with td := true, lt := e.tm } := by rw [hm1]; unfold tickM; rw [if_pos (.inr d2)]
      simp [ptr, evc, k4, k7, n7_4, hc, d1, d2]
      generalize hV : upd A0 b4 _ = T1
      have w : Vw H A0 T1 := by rw [← hV]; (repeat' (first | exact w | refine Vw.put ?_ (by assumption) _))
      have k4 : T1 b4 = some (.cells (ptr m1 aP aG)) := by rw [← hV]; simp [ptr, hm] <;> rfl
      have k5 : T1 b5 = some (.cells ([vi m.lg.la, aS])) := by rw [← hV]; simp [n5_4, k5]
      have k7 : T1 b7 = some (.cells (evc e)) := by rw [← hV]; simp [n7_4, k7]
      have k8 : T1 b8 = some (.cells (z17)) := by rw [← hV]; simp [n8_4, k8]
      have k9 : T1 b9 = some (.cells ([vi 0, vnil])) := by rw [← hV]; simp [n9_4, k9]
      clear hV
    case' neg =>
      have hm : m1 = m := by rw [hm1]; unfold tickM; rw [if_neg (by rw [d1]; simp; omega)]
      simp [ptr, evc, k4, k7, hc, d1, d2]
      have k4 : A0 b4 = some (.cells (ptr m1 aP aG)) := by rw [hm]; exact k4
  all_goals
    have hkd : ¬ ((e.kd ≠ 2 ∧ e.kd ≠ 1 ∧ e.kd ≠ 3) ∨ (e.kd = 2 ∧ e.va ≠ 0 ∧ e.va ≠ 1)) := fun h => by unfold chkM at hc; rw [if_pos h] at hc; omega
    have w0 := w
    have hP1 := (hP.sub w.sub)
    rw [← t1] at hP1
    have hG1 := hG.sub w.sub
    rw [← t3] at hG1
    have hv1 := (show ∀ V, LogR V (.ag [vi m.lg.la, aS]) m.lg → LogR V (.ag [vi m.lg.la, aS]) m1.lg from fun V h => by rw [t2]; exact h) _ (hv0.sub w.sub)
    have hi1 : InvF m1 := by unfold InvF at hi ⊢; rw [t4, t5]; exact hi
    have hI1 : InvM m1.g := by rw [t3]; exact hI
    by_cases d3 : e.kd = 1
    case pos =>
      rw [if_pos d3] at hk
      simp [ptr, evc, k4, k5, k7, d3]
      refine c74 (m := m1) hP1 hG1 hI1 hi1 hv1 (by rw [t2]; omega) (ha.sub w.sub) hL { e with kd := 1 } ?_
      have he : ({ e with kd := 1 } : Ev) = e := by cases e; simp_all
      rw [he]
      intro V v2 out hs hn ho hap
      have hlen := mot_len3 m1 L e
      have hrp := (mot_pr3 m1 L e).trans t1
      generalize motM m1 L e = r at *
      unfold FeedP at hk
      simp only at hk
      rw [hrp] at hk
      have hn := hn.from w0.dm
      have ho := ho.from w0.dm
      rw [t2] at hn
      have hvv := hn.rd hv0 (w.sub.trans hs)
      obtain ⟨aS2, LS2, rfl, hr2, hl2⟩ := hvv
      have p1 := Rw.one hr2
      have p2 := Rw.cells hr2
      have oo := ho.one
      have oc := ho.cells
      have k4 := hs _ _ k4
      have k5 := hs _ _ k5
      have k7 := hs _ _ k7
      have k8 := hs _ _ k8
      have k9 := hs _ _ k9
      have w := w.to hs
      simp [ptr]
      refine newK_of fun b13 h13 => ?_
      have n4_13 := ne_of_free k4 h13
      have n13_4 := Ne.symm n4_13
      have n5_13 := ne_of_free k5 h13
      have n13_5 := Ne.symm n5_13
      have n7_13 := ne_of_free k7 h13
      have n13_7 := Ne.symm n7_13
      have n8_13 := ne_of_free k8 h13
      have n13_8 := Ne.symm n8_13
      have n9_13 := ne_of_free k9 h13
      have n13_9 := Ne.symm n9_13
      have f13 := w.sub.none_of h13
      simp
      refine newK_of fun b14 h14 => ?_
      obtain ⟨n14_13, n13_14, h14⟩ := upd_none'.1 h14
      have n4_14 := ne_of_free k4 h14
      have n14_4 := Ne.symm n4_14
      have n5_14 := ne_of_free k5 h14
      have n14_5 := Ne.symm n5_14
      have n7_14 := ne_of_free k7 h14
      have n14_7 := Ne.symm n7_14
      have n8_14 := ne_of_free k8 h14
      have n14_8 := Ne.symm n8_14
      have n9_14 := ne_of_free k9 h14
      have n14_9 := Ne.symm n9_14
      have f14 := w.sub.none_of h14
      simp [n13_14, n14_13, o1, o3, p1]
      generalize hV : upd (upd (upd (upd V b13 _) b14 _) b13 _) b14 _ = F1
      have kp : Kp A0 V F1 := by rw [← hV]; exact (fun r_ C_ h_ => ⟨h_.1, by simp [upd_apply, h_.ne2 h13, h_.ne2 h14, h_.2]⟩)
      have w : Vw H A0 F1 := by rw [← hV]; (repeat' (first | exact w | refine Vw.put ?_ (by assumption) _))
      have hn := hn.kp kp
      have ho := ho.kp kp
      have k4 : F1 b4 = some (.cells (ptr m1 aP aG)) := by rw [← hV]; simp [n4_13, n4_14, k4]
      have k5 : F1 b5 = some (.cells ([vi m.lg.la, aS])) := by rw [← hV]; simp [n5_13, n5_14, k5]
      have k7 : F1 b7 = some (.cells (evc e)) := by rw [← hV]; simp [n7_13, n7_14, k7]
      have k8 : F1 b8 = some (.cells (z17)) := by rw [← hV]; simp [n8_13, n8_14, k8]
      have k9 : F1 b9 = some (.cells ([vi 0, vnil])) := by rw [← hV]; simp [n9_13, n9_14, k9]
      have k13 : F1 b13 = some (.cells (ptr r.1 aP aG)) := by rw [← hV]; simp [ptr, n13_14]
      have k14 : F1 b14 = some (.cells ([vi r.1.lg.la, aS2])) := by rw [← hV]; simp
      clear hV kp
      have wF := w
      refine c75 ho.rd (by omega) fun V2 out2 hs2 ho2 => ?_
      have k4 := hs2 _ _ k4
      have k5 := hs2 _ _ k5
      have k7 := hs2 _ _ k7
      have k8 := hs2 _ _ k8
      have k9 := hs2 _ _ k9
      have k13 := hs2 _ _ k13
      have k14 := hs2 _ _ k14
      have w := w.to hs2
      have hn := hn.to hs2
      have ho := ho.to hs2
      have ho2 := ho2.from wF.dm
      have oo2 := ho2.one
      have oc2 := ho2.cells
      simp [ptr, z17, k8, k9, k13, k14, n8_9, n9_8, n14_8, o1, o3, p1]
      refine ⟨_, Sub.refl _, ?_⟩
      refine hk _ aP _ _ ?_ (NwI.same _ _ _ _) ((hn.kp (fun r_ C_ h_ => ⟨h_.1, by simp [upd_apply, h_.ne1 q8, h_.ne1 q9, h_.2]⟩)).from (sdm hS)) ((ho2.kp (fun r_ C_ h_ => ⟨h_.1, by simp [upd_apply, h_.ne1 q8, h_.ne1 q9, h_.2]⟩)).from (sdm hS)) 
      repeat' (first | exact w.sub | refine Sub.upd ?_ (by assumption))
    rw [if_neg d3] at hk
    by_cases d4 : e.kd = 3
    case pos =>
      rw [if_neg (by omega)] at hk
      simp [ptr, evc, k4, k7, d4]
      refine c76 (m := m1) hP1 hG1 hI1 ?_
      cases hok : okM m1 with
      | false =>
        have es : sendM m1 [] ⟨0, 0, 5, 0, 0, 0, e.co, e.va, 0⟩ = (m1, []) := by simp [sendM, hok]
        rw [es] at hk
        unfold FeedP at hk
        simp only at hk
        rw [t1, t2] at hk
        simp [ptr, z17, k4, k5, k8, k9, n5_8, n8_9, n9_8, o1, o3, o5]
        refine ⟨_, Sub.refl _, hk _ aP _ _ ?_ (NwI.same _ _ _ _) (.inl ⟨rfl, rfl⟩) (.inl ⟨rfl, rfl⟩)⟩
        repeat' (first | exact w.sub | refine Sub.upd ?_ (by assumption))
      | true =>
        obtain ⟨d1, hd1⟩ : ∃ d : Dl, d = ⟨m1.fc, m1.fs, 5, m1.lt, 0, 0, e.co, e.va, 0⟩ := ⟨_, rfl⟩
        have es : sendM m1 [] ⟨0, 0, 5, 0, 0, 0, e.co, e.va, 0⟩ = (m1, [d1]) := by rw [hd1]; simp [sendM, hok]
        rw [es] at hk
        unfold FeedP at hk
        simp only at hk
        rw [t1, t2] at hk
        have hdc : [vi m1.fc, vi m1.fs, vi 5, vi m1.lt, vi 0, vi 0, vi e.co, vi e.va, vu 0] = dlc d1 := by rw [hd1]; rfl
        simp [ptr, evc, k4, k5, k7]
        refine newK_of fun b21 h21 => ?_
        have n4_21 := ne_of_free k4 h21
        have n21_4 := Ne.symm n4_21
        have n5_21 := ne_of_free k5 h21
        have n21_5 := Ne.symm n5_21
        have n7_21 := ne_of_free k7 h21
        have n21_7 := Ne.symm n7_21
        have n8_21 := ne_of_free k8 h21
        have n21_8 := Ne.symm n8_21
        have n9_21 := ne_of_free k9 h21
        have n21_9 := Ne.symm n9_21
        have f21 := w.sub.none_of h21
        rw [hdc]
        simp [ptr, k4, k5, n4_21, n5_21]
        generalize hV : upd _ b21 _ = U1
        have w : Vw H A0 U1 := by rw [← hV]; (repeat' (first | exact w | refine Vw.put ?_ (by assumption) _))
        have k4 : U1 b4 = some (.cells (ptr m1 aP aG)) := by rw [← hV]; simp [n4_21, k4]
        have k5 : U1 b5 = some (.cells ([vi m.lg.la, aS])) := by rw [← hV]; simp [n5_21, k5]
        have k7 : U1 b7 = some (.cells (evc e)) := by rw [← hV]; simp [n7_21, k7]
        have k8 : U1 b8 = some (.cells (z17)) := by rw [← hV]; simp [n8_21, k8]
        have k9 : U1 b9 = some (.cells ([vi 0, vnil])) := by rw [← hV]; simp [n9_21, k9]
        have k21 : U1 b21 = some (.cells (dlc d1)) := by rw [← hV]; simp
        clear hV
        have hrw : Rw U1 (.sl b21 0 1 9 true) (flat dlc [d1]) [d1].length 9 := Rw.sl (flat_len dlc_l [d1]) (by simpa [flat_one] using k21)
        have wF := w
        refine c75 hrw (by simp) fun V2 out2 hs2 ho2 => ?_
        have k4 := hs2 _ _ k4
        have k5 := hs2 _ _ k5
        have k7 := hs2 _ _ k7
        have k8 := hs2 _ _ k8
        have k9 := hs2 _ _ k9
        have k21 := hs2 _ _ k21
        have w := w.to hs2
        have ho2 := ho2.from wF.dm
        have oo2 := ho2.one
        have oc2 := ho2.cells
        simp [ptr, z17, k4, k5, k8, k9, n5_8, n8_9, n9_8, o1, o3, o5]
        refine ⟨_, Sub.refl _, hk _ aP _ _ ?_ (NwI.same _ _ _ _) (.inl ⟨rfl, rfl⟩) ((ho2.kp (fun r_ C_ h_ => ⟨h_.1, by simp [upd_apply, h_.ne1 q8, h_.ne1 q9, h_.2]⟩)).from (sdm hS))⟩
        repeat' (first | exact w.sub | refine Sub.upd ?_ (by assumption))
    rw [if_pos (by omega)] at hk
    by_cases d5 : e.va = 1
    case pos =>
      rw [if_pos d5] at hk
      simp [ptr, evc, k4, k5, k7, d3, d4, d5]
      refine c77 (m := m1) hP1 hG1 hI1 hi1 hv1 (by rw [t2]; omega) (by rw [t1]; exact hl) { e with va := 1 } ?_
      have he : ({ e with va := 1 } : Ev) = e := by cases e; simp_all
      rw [he]
      intro V aP2 v2 out hs hnP hn ho hap
      have hlen := pre_len3 m1 e
      generalize preM m1 e = r at *
      unfold FeedP at hk
      simp only at hk
      have hn := hn.from w0.dm
      have ho := ho.from w0.dm
      rw [t2] at hn
      have hnP := hnP.from w0.dm
      rw [t1] at hnP
      have z1 := hnP.one o1
      have z2 := hnP.cells o2
      have hvv := hn.rd hv0 (w.sub.trans hs)
      obtain ⟨aS2, LS2, rfl, hr2, hl2⟩ := hvv
      have p1 := Rw.one hr2
      have p2 := Rw.cells hr2
      have oo := ho.one
      have oc := ho.cells
      have k4 := hs _ _ k4
      have k5 := hs _ _ k5
      have k7 := hs _ _ k7
      have k8 := hs _ _ k8
      have k9 := hs _ _ k9
      have w := w.to hs
      simp [ptr]
      refine newK_of fun b16 h16 => ?_
      have n4_16 := ne_of_free k4 h16
      have n16_4 := Ne.symm n4_16
      have n5_16 := ne_of_free k5 h16
      have n16_5 := Ne.symm n5_16
      have n7_16 := ne_of_free k7 h16
      have n16_7 := Ne.symm n7_16
      have n8_16 := ne_of_free k8 h16
      have n16_8 := Ne.symm n8_16
      have n9_16 := ne_of_free k9 h16
      have n16_9 := Ne.symm n9_16
      have f16 := w.sub.none_of h16
      simp
      refine newK_of fun b17 h17 => ?_
      obtain ⟨n17_16, n16_17, h17⟩ := upd_none'.1 h17
      have n4_17 := ne_of_free k4 h17
      have n17_4 := Ne.symm n4_17
      have n5_17 := ne_of_free k5 h17
      have n17_5 := Ne.symm n5_17
      have n7_17 := ne_of_free k7 h17
      have n17_7 := Ne.symm n7_17
      have n8_17 := ne_of_free k8 h17
      have n17_8 := Ne.symm n8_17
      have n9_17 := ne_of_free k9 h17
      have n17_9 := Ne.symm n9_17
      have f17 := w.sub.none_of h17
      simp [n16_17, n17_16, o3, p1, z1]
      generalize hV : upd (upd (upd (upd V b16 _) b17 _) b16 _) b17 _ = F1
      have kp : Kp A0 V F1 := by rw [← hV]; exact (fun r_ C_ h_ => ⟨h_.1, by simp [upd_apply, h_.ne2 h16, h_.ne2 h17, h_.2]⟩)
      have w : Vw H A0 F1 := by rw [← hV]; (repeat' (first | exact w | refine Vw.put ?_ (by assumption) _))
      have hn := hn.kp kp
      have ho := ho.kp kp
      have hnP := hnP.kp kp
      have k4 : F1 b4 = some (.cells (ptr m1 aP aG)) := by rw [← hV]; simp [n4_16, n4_17, k4]
      have k5 : F1 b5 = some (.cells ([vi m.lg.la, aS])) := by rw [← hV]; simp [n5_16, n5_17, k5]
      have k7 : F1 b7 = some (.cells (evc e)) := by rw [← hV]; simp [n7_16, n7_17, k7]
      have k8 : F1 b8 = some (.cells (z17)) := by rw [← hV]; simp [n8_16, n8_17, k8]
      have k9 : F1 b9 = some (.cells ([vi 0, vnil])) := by rw [← hV]; simp [n9_16, n9_17, k9]
      have k16 : F1 b16 = some (.cells (ptr r.1 aP2 aG)) := by rw [← hV]; simp [ptr, n16_17]
      have k17 : F1 b17 = some (.cells ([vi r.1.lg.la, aS2])) := by rw [← hV]; simp
      clear hV kp
      have wF := w
      refine c75 ho.rd (by omega) fun V2 out2 hs2 ho2 => ?_
      have k4 := hs2 _ _ k4
      have k5 := hs2 _ _ k5
      have k7 := hs2 _ _ k7
      have k8 := hs2 _ _ k8
      have k9 := hs2 _ _ k9
      have k16 := hs2 _ _ k16
      have k17 := hs2 _ _ k17
      have w := w.to hs2
      have hn := hn.to hs2
      have ho := ho.to hs2
      have hnP := hnP.to hs2
      have ho2 := ho2.from wF.dm
      have oo2 := ho2.one
      have oc2 := ho2.cells
      simp [ptr, z17, k8, k9, k16, k17, n8_9, n9_8, n17_8, o3, p1, z1]
      refine ⟨_, Sub.refl _, ?_⟩
      refine hk _ aP2 _ _ ?_ ((hnP.kp (fun r_ C_ h_ => ⟨h_.1, by simp [upd_apply, h_.ne1 q8, h_.ne1 q9, h_.2]⟩)).from (sdm hS)) ((hn.kp (fun r_ C_ h_ => ⟨h_.1, by simp [upd_apply, h_.ne1 q8, h_.ne1 q9, h_.2]⟩)).from (sdm hS)) ((ho2.kp (fun r_ C_ h_ => ⟨h_.1, by simp [upd_apply, h_.ne1 q8, h_.ne1 q9, h_.2]⟩)).from (sdm hS)) 
      repeat' (first | exact w.sub | refine Sub.upd ?_ (by assumption))
    rw [if_neg d5] at hk
    simp [ptr, evc, k4, k5, k7, d3, d4, d5]
    refine c78 (m := m1) hP1 hG1 hI1 hi1 hv1 (by rw [t2]; omega) (ha.sub w.sub) hL (by rw [t1]; exact hl) (by rw [t1]; exact hnd) e ?_
    intro V aP2 v2 out hs hnP hn ho hap
    have hlen := rel_len3 m1 L e
    generalize relM m1 L e = r at *
    unfold FeedP at hk
    simp only at hk
    have hn := hn.from w0.dm
    have ho := ho.from w0.dm
    rw [t2] at hn
    have hnP := hnP.from w0.dm
    rw [t1] at hnP
    have z1 := hnP.one o1
    have z2 := hnP.cells o2
    have hvv := hn.rd hv0 (w.sub.trans hs)
    obtain ⟨aS2, LS2, rfl, hr2, hl2⟩ := hvv
    have p1 := Rw.one hr2
    have p2 := Rw.cells hr2
    have oo := ho.one
    have oc := ho.cells
    have k4 := hs _ _ k4
    have k5 := hs _ _ k5
    have k7 := hs _ _ k7
    have k8 := hs _ _ k8
    have k9 := hs _ _ k9
    have w := w.to hs
    simp [ptr]
    refine newK_of fun b19 h19 => ?_
    have n4_19 := ne_of_free k4 h19
    have n19_4 := Ne.symm n4_19
    have n5_19 := ne_of_free k5 h19
    have n19_5 := Ne.symm n5_19
    have n7_19 := ne_of_free k7 h19
    have n19_7 := Ne.symm n7_19
    have n8_19 := ne_of_free k8 h19
    have n19_8 := Ne.symm n8_19
    have n9_19 := ne_of_free k9 h19
    have n19_9 := Ne.symm n9_19
    have f19 := w.sub.none_of h19
    simp
    refine newK_of fun b20 h20 => ?_
    obtain ⟨n20_19, n19_20, h20⟩ := upd_none'.1 h20
    have n4_20 := ne_of_free k4 h20
    have n20_4 := Ne.symm n4_20
    have n5_20 := ne_of_free k5 h20
    have n20_5 := Ne.symm n5_20
    have n7_20 := ne_of_free k7 h20
    have n20_7 := Ne.symm n7_20
    have n8_20 := ne_of_free k8 h20
    have n20_8 := Ne.symm n8_20
    have n9_20 := ne_of_free k9 h20
    have n20_9 := Ne.symm n9_20
    have f20 := w.sub.none_of h20
    simp [n19_20, n20_19, o3, p1, z1]
    generalize hV : upd (upd (upd (upd V b19 _) b20 _) b19 _) b20 _ = F1
    have kp : Kp A0 V F1 := by rw [← hV]; exact (fun r_ C_ h_ => ⟨h_.1, by simp [upd_apply, h_.ne2 h19, h_.ne2 h20, h_.2]⟩)
    have w : Vw H A0 F1 := by rw [← hV]; (repeat' (first | exact w | refine Vw.put ?_ (by assumption) _))
    have hn := hn.kp kp
    have ho := ho.kp kp
    have hnP := hnP.kp kp
    have k4 : F1 b4 = some (.cells (ptr m1 aP aG)) := by rw [← hV]; simp [n4_19, n4_20, k4]
    have k5 : F1 b5 = some (.cells ([vi m.lg.la, aS])) := by rw [← hV]; simp [n5_19, n5_20, k5]
    have k7 : F1 b7 = some (.cells (evc e)) := by rw [← hV]; simp [n7_19, n7_20, k7]
    have k8 : F1 b8 = some (.cells (z17)) := by rw [← hV]; simp [n8_19, n8_20, k8]
    have k9 : F1 b9 = some (.cells ([vi 0, vnil])) := by rw [← hV]; simp [n9_19, n9_20, k9]
    have k19 : F1 b19 = some (.cells (ptr r.1 aP2 aG)) := by rw [← hV]; simp [ptr, n19_20]
    have k20 : F1 b20 = some (.cells ([vi r.1.lg.la, aS2])) := by rw [← hV]; simp
    clear hV kp
    have wF := w
    refine c75 ho.rd (by omega) fun V2 out2 hs2 ho2 => ?_
    have k4 := hs2 _ _ k4
    have k5 := hs2 _ _ k5
    have k7 := hs2 _ _ k7
    have k8 := hs2 _ _ k8
    have k9 := hs2 _ _ k9
    have k19 := hs2 _ _ k19
    have k20 := hs2 _ _ k20
    have w := w.to hs2
    have hn := hn.to hs2
    have ho := ho.to hs2
    have hnP := hnP.to hs2
    have ho2 := ho2.from wF.dm
    have oo2 := ho2.one
    have oc2 := ho2.cells
    simp [ptr, z17, k8, k9, k19, k20, n8_9, n9_8, n20_8, o3, p1, z1]
    refine ⟨_, Sub.refl _, ?_⟩
    refine hk _ aP2 _ _ ?_ ((hnP.kp (fun r_ C_ h_ => ⟨h_.1, by simp [upd_apply, h_.ne1 q8, h_.ne1 q9, h_.2]⟩)).from (sdm hS)) ((hn.kp (fun r_ C_ h_ => ⟨h_.1, by simp [upd_apply, h_.ne1 q8, h_.ne1 q9, h_.2]⟩)).from (sdm hS)) ((ho2.kp (fun r_ C_ h_ => ⟨h_.1, by simp [upd_apply, h_.ne1 q8, h_.ne1 q9, h_.2]⟩)).from (sdm hS)) 
    repeat' (first | exact w.sub | refine Sub.upd ?_ (by assumption))
end Go.Proofs.YtmpncpamndhmcaaGreat
end

/-! The specification's pointer, walked: Gone; and the law's calls of it. Conditions: as each lemma states them. -/
section
namespace Go.Proofs.YtmpncpamndhmcaaGreat
open Go Go.Ab Go.RowKit

attribute [local simp] rc_len rc_t4 rc_t1 rc_t2 rc_t3 rc_d1 rc_d2 rc_d3 rc_d4 rc_ag rc_one rc_eq

theorem mot_ch3 (m : PS) (L : List It) (e : Ev) : (motM m L e).1.g.ch = m.g.ch := by rw [mot_g3]
theorem pre_ch3 (m : PS) (e : Ev) : (preM m e).1.g.ch = m.g.ch := by
  unfold preM
  simp only
  rw [send_g3]
  simp only
  split
  · exact (grb_keep { m with fl := true }).2.2.1
  · rfl
theorem rel_ch3 (m : PS) (L : List It) (e : Ev) : (relM m L e).1.g.ch = m.g.ch := by
  unfold relM
  simp only
  have h1 : (sendM (delP m e.co) [] ⟨0, 0, 4, 0, 0, 0, e.co, e.va, 0⟩).1.g = m.g := send_g3 _ _ _
  generalize sendM (delP m e.co) [] ⟨0, 0, 4, 0, 0, 0, e.co, e.va, 0⟩ = s at *
  split
  · rw [h1]
  · rw [ref_g3]
    show (endH s.1).g.ch = _
    rw [(endH_keep s.1).2.2.1, h1]
theorem feed_ch3 (m : PS) (L : List It) (e : Ev) : (feedM m L e).1.g.ch = m.g.ch := by
  unfold feedM
  split
  · rfl
  · have h := (tick_keep m e).2.2.1
    simp only
    split
    · rw [mot_ch3, h]
    · split
      · split
        · rw [pre_ch3, h]
        · rw [rel_ch3, h]
      · rw [send_g3, h]
def WantP (K : AV → AH → Prop) (H : AH) (m : PS) (aP aG v : AV) (r : PS × List Dl × Int) : Prop :=
  ∀ V aP' aG' v' out, Sub H V → NwI H V aP (sortI m.pr) aP' (sortI r.1.pr) → NwI H V aG m.g.ch aG' r.1.g.ch → NwL H V v m.lg v' r.1.lg → OutN H V out r.2.1 → K (.tp [.ag (ptr r.1 aP' aG'), v', out, vi r.2.2]) V
set_option maxHeartbeats 2000000 in
theorem c53 {H : AH} {K : AV → AH → Prop} {m : PS} {aP aG : AV} (hP : Ri H aP (sortI m.pr)) (hG : Ri H aG m.g.ch) (hI : InvM m.g) (s : Int) (hk : K (.tp [.ag (ptr (goneM m s) aP aG), vnil]) H) :
    @AC Tryz.prog 53 [.ag (ptr m aP aG), vi s] H ⟨K⟩ := by
  have o1 := hP.one
  have o2 := hP.cells
  have o3 := hG.one
  have o4 := hG.cells
  refine AC_of (.forget ?_)
  refine call_c follows cf53_ok (by simp) ?_
  simp [ptr]
  refine newK_of fun b2 f2 => ?_
  simp
  refine newK_of fun b4 f4 => ?_
  simp
  obtain ⟨n4_2, n2_4, f4⟩ := upd_none'.1 f4
  generalize hV : upd (upd H b2 _) b4 _ = A0
  have hS : Sub H A0 := hV ▸ (((Sub.refl H).upd f2).upd f4)
  have k2 : A0 b2 = some (.cells (ptr m aP aG)) := by rw [← hV]; simp [ptr, n2_4]
  have k4 : A0 b4 = some (.cells (z17)) := by rw [← hV]; simp [z17]
  have q2 : A0 b2 ≠ none := by rw [k2]; simp
  have q4 : A0 b4 ≠ none := by rw [k4]; simp
  clear hV
  have w : Vw H A0 A0 := ⟨hS, sdm (Sub.refl _)⟩
  obtain ⟨m1, hm1⟩ : ∃ m1, m1 = (if m.hd = s then endH m else m) := ⟨_, rfl⟩
  have hg : goneM m s = if m1.fs = s then { m1 with fs := 0, fc := 0 } else m1 := by rw [hm1]; rfl
  rw [hg] at hk
  by_cases h0 : m.hd = 0
  case' pos =>
    have hm : m1 = m := by rw [hm1]; split <;> first | rfl | (unfold endH; exact if_neg (fun h => h h0))
    simp [ptr, k2, n2_4, h0]
    rw [← hm] at k2
    have hfs : m.fs = m1.fs := by rw [hm]
    have hfc : m.fc = m1.fc := by rw [hm]
    have hfl : m.fl = m1.fl := by rw [hm]
    rw [hfs, hfc, hfl]
  case' neg =>
    by_cases h1 : m.hd = s
    case' pos =>
      have hs0 : ¬ s = 0 := by omega
      have hm : m1 = { m with g := (releaseM m.g).1, hd := 0 } := by rw [hm1]; rw [if_pos h1]; unfold endH; exact if_pos h0
      simp [ptr, k2, n2_4, h1, hs0]
      refine c81 (m := m.g) hI (hG.sub w.sub) ?_
      simp [rcs]
      refine newK_of fun b6 h6 => ?_
      have n2_6 := ne_of_free k2 h6
      have n6_2 := Ne.symm n2_6
      have n4_6 := ne_of_free k4 h6
      have n6_4 := Ne.symm n4_6
      have f6 := w.sub.none_of h6
      simp [ptr, k2, n2_6, o3]
      generalize hV : upd (upd A0 b6 _) b2 _ = T1
      have w : Vw H A0 T1 := by rw [← hV]; (repeat' (first | exact w | refine Vw.put ?_ (by assumption) _))
      have k2 : T1 b2 = some (.cells (ptr m1 aP aG)) := by rw [← hV]; simp [ptr, hm] <;> rfl
      have k4 : T1 b4 = some (.cells (z17)) := by rw [← hV]; simp [n4_2, n4_6, k4]
      have k6 : T1 b6 = some (.cells (rcs (releaseM m.g).1 aG)) := by rw [← hV]; simp [rcs, n6_2] <;> rfl
      clear hV
      have hfs : m.fs = m1.fs := by rw [hm]
      have hfc : m.fc = m1.fc := by rw [hm]
      have hfl : m.fl = m1.fl := by rw [hm]
      rw [hfs, hfc, hfl]
    case' neg =>
      have hm : m1 = m := by rw [hm1]; rw [if_neg h1]
      simp [ptr, k2, n2_4, h0, h1]
      rw [← hm] at k2
      have hfs : m.fs = m1.fs := by rw [hm]
      have hfc : m.fc = m1.fc := by rw [hm]
      have hfl : m.fl = m1.fl := by rw [hm]
      rw [hfs, hfc, hfl]
  all_goals
    refine c82 _ _ _ s ?_
    by_cases h2 : m1.fs = s
    all_goals
      first
        | rw [if_pos h2]
        | rw [if_neg h2]
      first
        | rw [if_pos h2] at hk
        | rw [if_neg h2] at hk
      simp
      refine newK_of fun b9 h9 => ?_
      have n2_9 := ne_of_free k2 h9
      have n9_2 := Ne.symm n2_9
      have n4_9 := ne_of_free k4 h9
      have n9_4 := Ne.symm n4_9
      have f9 := w.sub.none_of h9
      simp [ptr, z17, k2, k4, n2_9, n4_2, n4_9, o1, o3]
      refine ⟨H, ?_, hk⟩
      repeat' (first | exact w.sub | refine Sub.upd ?_ (by assumption))
end Go.Proofs.YtmpncpamndhmcaaGreat
end

/-! The law's calls of the specification, walked. Conditions: as each lemma states them. -/
section
namespace Go.Proofs.YtmpncpamndhmcaaGreat
open Go Go.Ab Go.RowKit

attribute [local simp] rc_len rc_t4 rc_t1 rc_t2 rc_t3 rc_d1 rc_d2 rc_d3 rc_d4 rc_ag rc_one rc_eq

theorem c20 {H : AH} {K : AV → AH → Prop} {a b : AV} {la lb : List Int} (ha : Ri H a la) (hb : Ri H b lb) (he : la = lb) (hl : la.length ≤ 1000000) (hk : K (vb true) H) : @AC Tryz.prog 20 [a, b] H ⟨K⟩ := by
  subst he
  have l1 := fun k => ha.lenK (k := k)
  have l2 := fun k => hb.lenK (k := k)
  refine AC_of (.forget ?_)
  refine call_c follows cf20_ok (by simp) ?_
  simp [l1, l2]
  refine wpc_loop (fun s => ∃ i : Nat, s.n = 26 ∧ s.H = H ∧ s.t 0 = a ∧ s.t 1 = b ∧ s.t 5 = vi i ∧ i ≤ la.length) (fun s => la.length - slotN (s.t 5)) ?_ ?_
  · exact FgK.same ⟨0, by simp⟩
  rintro s ⟨i, hn, hH, e0, e1, e5, hi⟩
  by_cases hlt : i < la.length
  · have wr := IntWalk.i64_in ((i : Int) + 1) (by omega)
    obtain ⟨p, p1, p2⟩ := ha.see hlt
    obtain ⟨q, q1, q2⟩ := hb.see hlt
    simp [hn, hH, e0, e1, e5, l1, hlt, p1, p2 _ (Sub.refl _), q1, q2 _ (Sub.refl _), wr]
    exact FgK.same ⟨⟨i + 1, by simp, by simp, by simp, by simp, by simp, by omega⟩, by simp [e5]; omega⟩
  · simp [hn, hH, e0, e1, e5, l1, hlt]
    exact ⟨H, Sub.refl _, hk⟩
set_option maxHeartbeats 2000000 in
theorem c23 {H : AH} {K : AV → AH → Prop} {m : PS} {v aP aG : AV} (hP : Ri H aP (sortI m.pr)) (hG : Ri H aG m.g.ch) (hI : InvM m.g) (hi : InvF m) (hv : LogR H v m.lg) (hla : m.lg.la ≤ 90000) {a : AV} {L : List It} (ha : ItsR H a L) (hL : LiS L) (hl : m.pr.length ≤ 500) (hnd : m.pr.Nodup) (o : Op) (hk : WantP K H m aP aG v (callM m L o)) :
    @AC Tryz.prog 23 [.ag (ptr m aP aG), v, a, .ag (opc o)] H ⟨K⟩ := by
  have hv0 := hv
  obtain ⟨aS, LS, rfl, hr, hLl⟩ := hv
  have o1 := hP.one
  have o2 := hP.cells
  have o3 := hG.one
  have o4 := hG.cells
  have o5 := Rw.one hr
  have o6 := Rw.cells hr
  have oa := Rw.one ha.1
  have ca := Rw.cells ha.1
  refine AC_of (.forget ?_)
  refine call_c follows cf23_ok (by simp) ?_
  simp [ptr, opc]
  refine newK_of fun b4 f4 => ?_
  simp
  refine newK_of fun b5 f5 => ?_
  simp
  refine newK_of fun b7 f7 => ?_
  simp
  refine newK_of fun b8 f8 => ?_
  simp
  refine newK_of fun b9 f9 => ?_
  simp
  obtain ⟨n5_4, n4_5, f5⟩ := upd_none'.1 f5
  obtain ⟨n7_5, n5_7, f7⟩ := upd_none'.1 f7
  obtain ⟨n7_4, n4_7, f7⟩ := upd_none'.1 f7
  obtain ⟨n8_7, n7_8, f8⟩ := upd_none'.1 f8
  obtain ⟨n8_5, n5_8, f8⟩ := upd_none'.1 f8
  obtain ⟨n8_4, n4_8, f8⟩ := upd_none'.1 f8
  obtain ⟨n9_8, n8_9, f9⟩ := upd_none'.1 f9
  obtain ⟨n9_7, n7_9, f9⟩ := upd_none'.1 f9
  obtain ⟨n9_5, n5_9, f9⟩ := upd_none'.1 f9
  obtain ⟨n9_4, n4_9, f9⟩ := upd_none'.1 f9
  generalize hV : upd (upd (upd (upd (upd H b4 _) b5 _) b7 _) b8 _) b9 _ = A0
  have hS : Sub H A0 := hV ▸ ((((((Sub.refl H).upd f4).upd f5).upd f7).upd f8).upd f9)
  have k4 : A0 b4 = some (.cells (ptr m aP aG)) := by rw [← hV]; simp [ptr, n4_5, n4_7, n4_8, n4_9]
  have k5 : A0 b5 = some (.cells ([vi m.lg.la, aS])) := by rw [← hV]; simp [n5_7, n5_8, n5_9]
  have k7 : A0 b7 = some (.cells (opc o)) := by rw [← hV]; simp [opc, n7_8, n7_9]
  have k8 : A0 b8 = some (.cells (z17)) := by rw [← hV]; simp [z17, n8_9]
  have k9 : A0 b9 = some (.cells ([vi 0, vnil])) := by rw [← hV]; simp
  have q4 : A0 b4 ≠ none := by rw [k4]; simp
  have q5 : A0 b5 ≠ none := by rw [k5]; simp
  have q7 : A0 b7 ≠ none := by rw [k7]; simp
  have q8 : A0 b8 ≠ none := by rw [k8]; simp
  have q9 : A0 b9 ≠ none := by rw [k9]; simp
  clear hV
  have w : Vw H A0 A0 := ⟨hS, sdm (Sub.refl _)⟩
  unfold callM at hk
  by_cases d0 : o.kd = 0
  case pos =>
    rw [if_pos d0] at hk
    unfold WantP at hk
    try simp only at hk
    rw [feed_ch3] at hk
    simp [ptr, opc, k4, k5, k7, n7_8, n7_9, d0]
    refine c47 (m := m) (hP.sub hS) (hG.sub hS) hI hi (hv0.sub hS) hla (ha.sub hS) hL hl hnd o.e ?_
    intro V aP2 v2 out hs hnP hn ho
    have hvv := hn.rd (hv0.sub hS) hs
    obtain ⟨aS2, LS2, rfl, hr2, hl2⟩ := hvv
    have p1 := Rw.one hr2
    have p2 := Rw.cells hr2
    have oo := ho.one
    have oc := ho.cells
    have z1 := hnP.one o1
    have z2 := hnP.cells o2
    have k4 := hs _ _ k4
    have k5 := hs _ _ k5
    have k7 := hs _ _ k7
    have k8 := hs _ _ k8
    have k9 := hs _ _ k9
    have w := w.to hs
    simp [ptr, z17, k8, k9, n8_9, n9_8, o3, p1, z1]
    refine ⟨_, Sub.refl _, hk _ aP2 aG _ _ ?_ ((hnP.kp (fun r_ C_ h_ => ⟨h_.1, by simp [upd_apply, h_.ne1 q8, h_.ne1 q9, h_.2]⟩)).from (sdm hS)) (NwI.same _ _ _ _) ((hn.kp (fun r_ C_ h_ => ⟨h_.1, by simp [upd_apply, h_.ne1 q8, h_.ne1 q9, h_.2]⟩)).from (sdm hS)) ((ho.kp (fun r_ C_ h_ => ⟨h_.1, by simp [upd_apply, h_.ne1 q8, h_.ne1 q9, h_.2]⟩)).from (sdm hS))⟩
    repeat' (first | exact w.sub | refine Sub.upd ?_ (by assumption))
  rw [if_neg d0] at hk
  by_cases d1 : o.kd = 1
  case pos =>
    rw [if_pos d1] at hk
    unfold WantP at hk
    try simp only at hk
    simp [ptr, opc, k4, k7, n7_8, n7_9, d1]
    refine c48 (m := m.g) hI (hG.sub hS) _ _ _ fun V aG2 hs hnG => ?_
    have z3 := hnG.one o3
    have z4 := hnG.cells o4
    have k4 := hs _ _ k4
    have k5 := hs _ _ k5
    have k7 := hs _ _ k7
    have k8 := hs _ _ k8
    have k9 := hs _ _ k9
    have w := w.to hs
    simp [rcs]
    refine newK_of fun b12 h12 => ?_
    have n4_12 := ne_of_free k4 h12
    have n12_4 := Ne.symm n4_12
    have n5_12 := ne_of_free k5 h12
    have n12_5 := Ne.symm n5_12
    have n7_12 := ne_of_free k7 h12
    have n12_7 := Ne.symm n7_12
    have n8_12 := ne_of_free k8 h12
    have n12_8 := Ne.symm n8_12
    have n9_12 := ne_of_free k9 h12
    have n12_9 := Ne.symm n9_12
    have f12 := w.sub.none_of h12
    simp [ptr, z17, k4, k5, k8, k9, n4_12, n5_4, n5_8, n5_12, n8_4, n8_9, n8_12, n9_4, n9_8, n9_12, o1, o5, z3]
    refine ⟨_, Sub.refl _, hk _ aP aG2 _ _ ?_ (NwI.same _ _ _ _) ((hnG.kp (fun r_ C_ h_ => ⟨h_.1, by simp [upd_apply, h_.ne1 q4, h_.ne1 q8, h_.ne1 q9, h_.ne2 h12, h_.2]⟩)).from (sdm hS)) (.inl ⟨rfl, rfl⟩) (.inl ⟨rfl, rfl⟩)⟩
    repeat' (first | exact w.sub | refine Sub.upd ?_ (by assumption))
  rw [if_neg d1] at hk
  by_cases d2 : o.kd = 2
  case pos =>
    rw [if_pos d2] at hk
    unfold WantP at hk
    try simp only at hk
    simp [ptr, opc, k4, k7, n7_8, n7_9, d2]
    refine c49 (m := m.g) hI (hG.sub hS) _ ?_
    intro V aG2 out hs hnG ho
    have z3 := hnG.one o3
    have z4 := hnG.cells o4
    have oo := ho.one
    have oc := ho.cells
    have k4 := hs _ _ k4
    have k5 := hs _ _ k5
    have k7 := hs _ _ k7
    have k8 := hs _ _ k8
    have k9 := hs _ _ k9
    have w := w.to hs
    simp [rcs]
    refine newK_of fun b14 h14 => ?_
    have n4_14 := ne_of_free k4 h14
    have n14_4 := Ne.symm n4_14
    have n5_14 := ne_of_free k5 h14
    have n14_5 := Ne.symm n5_14
    have n7_14 := ne_of_free k7 h14
    have n14_7 := Ne.symm n7_14
    have n8_14 := ne_of_free k8 h14
    have n14_8 := Ne.symm n8_14
    have n9_14 := ne_of_free k9 h14
    have n14_9 := Ne.symm n9_14
    have f14 := w.sub.none_of h14
    simp [ptr, z17, k4, k5, k8, k9, n4_14, n5_4, n5_8, n5_14, n8_4, n8_9, n8_14, n9_4, n9_8, n9_14, o1, o5, z3]
    refine ⟨_, Sub.refl _, hk _ aP aG2 _ _ ?_ (NwI.same _ _ _ _) ((hnG.kp (fun r_ C_ h_ => ⟨h_.1, by simp [upd_apply, h_.ne1 q4, h_.ne1 q8, h_.ne1 q9, h_.ne2 h14, h_.2]⟩)).from (sdm hS)) (.inl ⟨rfl, rfl⟩) ((ho.kp (fun r_ C_ h_ => ⟨h_.1, by simp [upd_apply, h_.ne1 q4, h_.ne1 q8, h_.ne1 q9, h_.ne2 h14, h_.2]⟩)).from (sdm hS))⟩
    repeat' (first | exact w.sub | refine Sub.upd ?_ (by assumption))
  rw [if_neg d2] at hk
  by_cases d3 : o.kd = 3
  case pos =>
    rw [if_pos d3] at hk
    unfold WantP at hk
    try simp only at hk
    simp [ptr, opc, k4, k7, n7_8, n7_9, d3]
    refine c50 (m := m.g) hI (hG.sub hS) _ _ ?_
    intro V aG2 out hs hnG ho
    have z3 := hnG.one o3
    have z4 := hnG.cells o4
    have oo := ho.one
    have oc := ho.cells
    have k4 := hs _ _ k4
    have k5 := hs _ _ k5
    have k7 := hs _ _ k7
    have k8 := hs _ _ k8
    have k9 := hs _ _ k9
    have w := w.to hs
    simp [rcs]
    refine newK_of fun b16 h16 => ?_
    have n4_16 := ne_of_free k4 h16
    have n16_4 := Ne.symm n4_16
    have n5_16 := ne_of_free k5 h16
    have n16_5 := Ne.symm n5_16
    have n7_16 := ne_of_free k7 h16
    have n16_7 := Ne.symm n7_16
    have n8_16 := ne_of_free k8 h16
    have n16_8 := Ne.symm n8_16
    have n9_16 := ne_of_free k9 h16
    have n16_9 := Ne.symm n9_16
    have f16 := w.sub.none_of h16
    simp [ptr, z17, k4, k5, k8, k9, n4_16, n5_4, n5_8, n5_16, n8_4, n8_9, n8_16, n9_4, n9_8, n9_16, o1, o5, z3]
    refine ⟨_, Sub.refl _, hk _ aP aG2 _ _ ?_ (NwI.same _ _ _ _) ((hnG.kp (fun r_ C_ h_ => ⟨h_.1, by simp [upd_apply, h_.ne1 q4, h_.ne1 q8, h_.ne1 q9, h_.ne2 h16, h_.2]⟩)).from (sdm hS)) (.inl ⟨rfl, rfl⟩) ((ho.kp (fun r_ C_ h_ => ⟨h_.1, by simp [upd_apply, h_.ne1 q4, h_.ne1 q8, h_.ne1 q9, h_.ne2 h16, h_.2]⟩)).from (sdm hS))⟩
    repeat' (first | exact w.sub | refine Sub.upd ?_ (by assumption))
  rw [if_neg d3] at hk
  by_cases d4 : o.kd = 4
  case pos =>
    rw [if_pos d4] at hk
    unfold WantP at hk
    try simp only at hk
    rw [dragM_ch] at hk
    simp [ptr, opc, k4, k7, n7_8, n7_9, d4]
    refine c51 (m := m.g) hI (hG.sub hS) _ _ ?_
    simp [rcs]
    refine newK_of fun b18 h18 => ?_
    have n4_18 := ne_of_free k4 h18
    have n18_4 := Ne.symm n4_18
    have n5_18 := ne_of_free k5 h18
    have n18_5 := Ne.symm n5_18
    have n7_18 := ne_of_free k7 h18
    have n18_7 := Ne.symm n7_18
    have n8_18 := ne_of_free k8 h18
    have n18_8 := Ne.symm n8_18
    have n9_18 := ne_of_free k9 h18
    have n18_9 := Ne.symm n9_18
    have f18 := w.sub.none_of h18
    simp [ptr, z17, k4, k5, k8, k9, n4_18, n5_4, n5_8, n5_18, n8_4, n8_9, n8_18, n9_4, n9_8, n9_18, o1, o3, o5]
    refine ⟨_, Sub.refl _, hk _ aP aG _ _ ?_ (NwI.same _ _ _ _) (NwI.same _ _ _ _) (.inl ⟨rfl, rfl⟩) (.inl ⟨rfl, rfl⟩)⟩
    repeat' (first | exact w.sub | refine Sub.upd ?_ (by assumption))
  rw [if_neg d4] at hk
  by_cases d5 : o.kd = 5
  case pos =>
    rw [if_pos d5] at hk
    unfold WantP at hk
    try simp only at hk
    rw [endM_ch] at hk
    simp [ptr, k4, n7_8, n7_9, d5]
    refine c52 (m := m.g) hI (hG.sub hS) ?_
    simp [rcs]
    refine newK_of fun b20 h20 => ?_
    have n4_20 := ne_of_free k4 h20
    have n20_4 := Ne.symm n4_20
    have n5_20 := ne_of_free k5 h20
    have n20_5 := Ne.symm n5_20
    have n7_20 := ne_of_free k7 h20
    have n20_7 := Ne.symm n7_20
    have n8_20 := ne_of_free k8 h20
    have n20_8 := Ne.symm n8_20
    have n9_20 := ne_of_free k9 h20
    have n20_9 := Ne.symm n9_20
    have f20 := w.sub.none_of h20
    simp [ptr, z17, k4, k5, k8, k9, n4_20, n5_4, n5_8, n5_20, n8_4, n8_9, n8_20, n9_4, n9_8, n9_20, o1, o3, o5]
    refine ⟨_, Sub.refl _, hk _ aP aG _ _ ?_ (NwI.same _ _ _ _) (NwI.same _ _ _ _) (.inl ⟨rfl, rfl⟩) (.inl ⟨rfl, rfl⟩)⟩
    repeat' (first | exact w.sub | refine Sub.upd ?_ (by assumption))
  rw [if_neg d5] at hk
  unfold WantP at hk
  simp only at hk
  have hgk : (goneM m o.sf).pr = m.pr ∧ (goneM m o.sf).lg = m.lg ∧ (goneM m o.sf).g.ch = m.g.ch := by
    have h := endH_keep m
    unfold goneM
    simp only
    repeat' split
    all_goals first | exact ⟨rfl, rfl, rfl⟩ | exact ⟨h.1, h.2.1, h.2.2.1⟩
  rw [hgk.1, hgk.2.1, hgk.2.2] at hk
  simp [ptr, opc, k4, k7, n7_8, n7_9, d0, d1, d2, d3, d4, d5]
  refine c53 (m := m) (hP.sub hS) (hG.sub hS) hI _ ?_
  simp
  refine newK_of fun b22 h22 => ?_
  have n4_22 := ne_of_free k4 h22
  have n22_4 := Ne.symm n4_22
  have n5_22 := ne_of_free k5 h22
  have n22_5 := Ne.symm n5_22
  have n7_22 := ne_of_free k7 h22
  have n22_7 := Ne.symm n7_22
  have n8_22 := ne_of_free k8 h22
  have n22_8 := Ne.symm n8_22
  have n9_22 := ne_of_free k9 h22
  have n22_9 := Ne.symm n9_22
  have f22 := w.sub.none_of h22
  simp [ptr, z17, k5, k8, k9, n5_8, n5_22, n8_9, n8_22, n9_8, n9_22, o1, o3, o5]
  refine ⟨_, Sub.refl _, hk _ aP aG _ _ ?_ (NwI.same _ _ _ _) (NwI.same _ _ _ _) (.inl ⟨rfl, rfl⟩) (.inl ⟨rfl, rfl⟩)⟩
  repeat' (first | exact w.sub | refine Sub.upd ?_ (by assumption))
end Go.Proofs.YtmpncpamndhmcaaGreat
end

/-! PointerRuns, walked: all calls return what the specification's calls return. Conditions: as each lemma states them. -/
section
namespace Go.Proofs.YtmpncpamndhmcaaGreat
open Go Go.Ab Go.RowKit

attribute [local simp] rc_len rc_t4 rc_t1 rc_t2 rc_t3 rc_d1 rc_d2 rc_d3 rc_d4 rc_ag rc_one rc_eq

def offB (V : AH) (B : PB) : AH := fun j => if j ∈ B.ids then none else V j
theorem PV_ids {G G' : AH} {B : PB} {m : PS} {j : Nat} (hj : j ∈ B.ids) : PV G B m j = PV G' B m j := by
  simp only [PB.ids, List.cons_append, List.nil_append, List.mem_cons] at hj
  simp only [PV, upd_apply]
  repeat' split
  all_goals first | rfl | skip
  unfold chI at hj
  unfold chH
  cases hc : B.ch with
  | none => simp [hc] at hj; rcases hj with h | h | h | h | h <;> contradiction
  | some x =>
    simp only [upd_apply]
    by_cases e : j = x.1
    · rw [if_pos e, if_pos e]
    · simp [hc] at hj; rcases hj with h | h | h | h | h | h <;> contradiction
theorem PV_off {G V : AH} {B : PB} {m : PS} (h : BOk G B m) (hs : ∀ j ∈ B.ids, V j = PV G B m j) : V = PV (offB V B) B m ∧ BOk (offB V B) B m := by
  refine ⟨?_, ⟨fun j hj => by unfold offB; rw [if_pos hj], h.nd, h.ch, h.es, h.at_, h.st, h.len⟩⟩
  funext j
  by_cases hj : j ∈ B.ids
  · rw [hs j hj]; exact PV_ids hj
  · rw [PV_out hj]; unfold offB; rw [if_neg hj]
/-- Where the specification's pointer and its log lie, beside the program's. -/
structure RI (H1 : AH) (b5 b6 : Nat) (G : AH) (m : PS) (aP aG aS : AV) : Prop where
  ex : ∃ R, Sub H1 R ∧ Sub R G ∧ R b5 = none ∧ R b6 = none ∧ Ri R aP (sortI m.pr) ∧ Ri R aG m.g.ch ∧ LogR R (.ag [vi m.lg.la, aS]) m.lg
  k5 : G b5 = some (.cells (ptr m aP aG))
  k6 : G b6 = some (.cells [vi m.lg.la, aS])
  ne : b5 ≠ b6
theorem RI.mono {H1 G G' : AH} {b5 b6 : Nat} {m : PS} {aP aG aS : AV} (h : RI H1 b5 b6 G m aP aG aS) (hs : Sub G G') : RI H1 b5 b6 G' m aP aG aS := by
  obtain ⟨⟨R, h1, h2, h3⟩, h4, h5, h6⟩ := h
  exact ⟨⟨R, h1, h2.trans hs, h3⟩, hs _ _ h4, hs _ _ h5, h6⟩
theorem RI.step {H1 G G2 V V' : AH} {b5 b6 : Nat} {B : PB} {m m2 : PS} {aP aG aS aP' aG' aS' : AV} (h : RI H1 b5 b6 G m aP aG aS) (h2 : BOk G2 B m2) (hG : Sub G G2) (hs : Sub (PV G2 B m2) V)
    (hnP : NwI (PV G2 B m2) V aP (sortI m.pr) aP' (sortI m2.pr)) (hnG : NwI (PV G2 B m2) V aG m.g.ch aG' m2.g.ch) (hn : NwL (PV G2 B m2) V (.ag [vi m.lg.la, aS]) m.lg (.ag [vi m2.lg.la, aS']) m2.lg)
    (hA : ∀ j o, V j = some o → j ≠ b5 → j ≠ b6 → V' j = some o) (k5 : V' b5 = some (.cells (ptr m2 aP' aG'))) (k6 : V' b6 = some (.cells [vi m2.lg.la, aS'])) :
    ∃ G3, V' = PV G3 B m2 ∧ BOk G3 B m2 ∧ RI H1 b5 b6 G3 m2 aP' aG' aS' := by
  obtain ⟨⟨R, r1, r2, r3, r4, r5, r6, r7⟩, g5, g6, hne⟩ := h
  have q5 := hG _ _ g5
  have q6 := hG _ _ g6
  have i5 : ∀ j ∈ B.ids, j ≠ b5 ∧ j ≠ b6 := fun j hj => ⟨fun e => (by rw [← e, h2.free _ hj] at q5; cases q5), fun e => (by rw [← e, h2.free _ hj] at q6; cases q6)⟩
  have hids : ∀ j ∈ B.ids, V' j = PV G2 B m2 j := by
    intro j hj
    cases e : PV G2 B m2 j with
    | none => exact absurd e (PV_id hj)
    | some o => exact hA _ _ (hs _ _ e) (i5 j hj).1 (i5 j hj).2
  obtain ⟨e, hB⟩ := PV_off h2 hids
  have off : ∀ j o, V' j = some o → j ∉ B.ids → offB V' B j = some o := fun j o hj hn => by unfold offB; rw [if_neg hn]; exact hj
  have n5 : b5 ∉ B.ids := fun hm => (i5 _ hm).1 rfl
  have n6 : b6 ∉ B.ids := fun hm => (i5 _ hm).2 rfl
  have p5 := PV_sub h2 _ _ q5
  have p6 := PV_sub h2 _ _ q6
  refine ⟨offB V' B, e, hB, ?_, off _ _ k5 n5, off _ _ k6 n6, hne⟩
  have hR : Sub R (fun j => if j = b5 ∨ j = b6 then none else offB V' B j) := by
    intro j o hj
    have j5 : j ≠ b5 := by rintro rfl; rw [r3] at hj; cases hj
    have j6 : j ≠ b6 := by rintro rfl; rw [r4] at hj; cases hj
    have hj2 := hG _ _ (r2 _ _ hj)
    have hji : j ∉ B.ids := fun hm => by rw [h2.free _ hm] at hj2; cases hj2
    show (if j = b5 ∨ j = b6 then none else offB V' B j) = some o
    rw [if_neg (fun h => h.elim j5 j6)]
    exact off _ _ (hA _ _ (hs _ _ (PV_sub h2 _ _ hj2)) j5 j6) hji
  have hI : ∀ r C, In (PV G2 B m2) V r C → (fun j => if j = b5 ∨ j = b6 then none else offB V' B j) r = some (.cells C) := by
    intro r C ⟨h1, h3⟩
    have j5 : r ≠ b5 := by rintro rfl; rw [p5] at h1; cases h1
    have j6 : r ≠ b6 := by rintro rfl; rw [p6] at h1; cases h1
    show (if r = b5 ∨ r = b6 then none else offB V' B r) = _
    rw [if_neg (fun h => h.elim j5 j6)]
    exact off _ _ (hA _ _ h3 j5 j6) (PV_free h1).1
  refine ⟨_, r1.trans hR, fun j o hj => ?_, by simp, by simp, ?_, ?_, ?_⟩
  · have hj : (if j = b5 ∨ j = b6 then none else offB V' B j) = some o := hj
    split at hj
    · cases hj
    · exact hj
  · rcases hnP with ⟨rfl, e2⟩ | ⟨rfl, e2⟩ | ⟨r, f, rfl, hi⟩
    · rw [e2]; exact r5.sub hR
    · rw [e2]; exact Rw.nil _ _
    · exact Rw.sl (by simp) (hI _ _ hi)
  · rcases hnG with ⟨rfl, e2⟩ | ⟨rfl, e2⟩ | ⟨r, f, rfl, hi⟩
    · rw [e2]; exact r6.sub hR
    · rw [e2]; exact Rw.nil _ _
    · exact Rw.sl (by simp) (hI _ _ hi)
  · rcases hn with ⟨e1, e2⟩ | ⟨r, f, L', e1, hi, hl⟩
    · rw [e1]
      obtain ⟨aS0, LS, h1, h3, h4⟩ := r7.sub hR
      exact ⟨aS0, LS, by rw [e2]; exact h1, h3, by rw [e2]; exact h4⟩
    · exact ⟨_, L', e1, Rw.sl (flat_len slc_l L') (hI _ _ hi), hl⟩
theorem RI.init {H1 V' : AH} {b5 b6 : Nat} {B : PB} {m : PS} (h2 : BOk H1 B m) (f5 : PV H1 B m b5 = none) (f6 : PV H1 B m b6 = none) (hne : b5 ≠ b6) (hpr : m.pr = []) (hch : m.g.ch = []) (hla : m.lg.la = 0)
    (hA : ∀ j o, PV H1 B m j = some o → V' j = some o) (k5 : V' b5 = some (.cells (ptr m vnil vnil))) (k6 : V' b6 = some (.cells [vi m.lg.la, vnil])) :
    ∃ G3, V' = PV G3 B m ∧ BOk G3 B m ∧ RI H1 b5 b6 G3 m vnil vnil vnil := by
  have hids : ∀ j ∈ B.ids, V' j = PV H1 B m j := by
    intro j hj
    cases e : PV H1 B m j with
    | none => exact absurd e (PV_id hj)
    | some o => exact hA _ _ e
  obtain ⟨e, hB⟩ := PV_off h2 hids
  obtain ⟨n5, g5⟩ := PV_free f5
  obtain ⟨n6, g6⟩ := PV_free f6
  refine ⟨offB V' B, e, hB, ⟨H1, Sub.refl _, fun j o hj => ?_, g5, g6, ?_, ?_, ?_⟩, ?_, ?_, hne⟩
  · have hji : j ∉ B.ids := fun hm => by rw [h2.free _ hm] at hj; cases hj
    unfold offB; rw [if_neg hji]
    exact hA _ _ (PV_sub h2 _ _ hj)
  · rw [hpr, sortI_nil.2 rfl]; exact Rw.nil _ _
  · rw [hch]; exact Rw.nil _ _
  · exact ⟨vnil, [], rfl, Rw.nil _ _, by rw [hla]; simp⟩
  · unfold offB; rw [if_neg n5]; exact k5
  · unfold offB; rw [if_neg n6]; exact k6
theorem RI.sub {H1 G : AH} {b5 b6 : Nat} {m : PS} {aP aG aS : AV} (h : RI H1 b5 b6 G m aP aG aS) : Sub H1 G := by
  obtain ⟨⟨R, h1, h2, _⟩, _⟩ := h
  exact h1.trans h2
theorem RI.rows {H1 G : AH} {b5 b6 : Nat} {m : PS} {aP aG aS : AV} (h : RI H1 b5 b6 G m aP aG aS) : Ri G aP (sortI m.pr) ∧ Ri G aG m.g.ch ∧ LogR G (.ag [vi m.lg.la, aS]) m.lg := by
  obtain ⟨⟨R, h1, h2, _, _, h5, h6, h7⟩, _⟩ := h
  exact ⟨h5.sub h2, h6.sub h2, h7.sub h2⟩
theorem outRw {G G2 V' : AH} {b5 b6 : Nat} {out : AV} {l : List Dl} (h : OutR G G2 out l) (hA : ∀ j o, G2 j = some o → j ≠ b5 → j ≠ b6 → V' j = some o) (k5 : G b5 ≠ none) (k6 : G b6 ≠ none) : Rw V' out (flat dlc l) l.length 9 := by
  rcases h.2 with ⟨rfl, rfl⟩ | ⟨r, x, rfl, h1, h2⟩
  · exact Rw.nil _ _
  · exact Rw.sl (flat_len dlc_l l) (hA _ _ h2 (by rintro rfl; exact k5 h1) (by rintro rfl; exact k6 h1))
theorem outNRw {A V V' : AH} {b5 b6 : Nat} {out : AV} {l : List Dl} (h : OutN A V out l) (hA : ∀ j o, V j = some o → j ≠ b5 → j ≠ b6 → V' j = some o) (k5 : A b5 ≠ none) (k6 : A b6 ≠ none) : Rw V' out (flat dlc l) l.length 9 := by
  rcases h with ⟨rfl, rfl⟩ | ⟨r, x, rfl, h1, h2⟩
  · exact Rw.nil _ _
  · exact Rw.sl (flat_len dlc_l l) (hA _ _ h2 (by rintro rfl; exact k5 h1) (by rintro rfl; exact k6 h1))
theorem call_len4 {m : PS} (h : m.g.ch.length ≤ 8) (L : List It) (o : Op) : (callM m L o).2.1.length ≤ 100 := by
  have cl : ∀ k, (cutM m.g k).2.length ≤ m.g.ch.length := fun k => by simp [cutM]
  by_cases k0 : o.kd = 0
  · exact Nat.le_trans (call_len m L o k0) (by decide)
  unfold callM
  rw [if_neg k0]
  repeat' split
  all_goals simp only [List.length_map, List.length_nil]
  all_goals first
    | exact Nat.zero_le _
    | (unfold dismissM; split; exact Nat.zero_le _; exact Nat.le_trans (cl _) (by omega))
    | (unfold clickM; split; exact Nat.zero_le _; split; exact Nat.le_trans (cl _) (by omega); split; exact Nat.zero_le _; exact Nat.le_trans (cl _) (by omega))
set_option maxHeartbeats 4000000 in
set_option maxRecDepth 20000 in
theorem c6 {H : AH} {K : AV → AH → Prop} {a b : AV} {Ls : List (List It)} {ops : List Op} (ha : Sc0 H a Ls) (hb : Rw H b (flat opc ops) ops.length 11) (hk : K (vb true) H) :
    @AC Tryz.prog 6 [.ag [a, b]] H ⟨K⟩ := by
  have oa : a.one = true := by obtain ⟨cs, h1, _⟩ := ha; exact Rw.one h1
  have ob := Rw.one hb
  have ca : a.cells = some [a] := by obtain ⟨cs, h1, _⟩ := ha; exact Rw.cells h1
  have cb := Rw.cells hb
  have lb := fun k => Rw.lenK hb (k := k)
  refine AC_of (.forget ?_)
  refine call_c follows cf6_ok (by simp) ?_
  simp
  refine newK_of fun z hz => ?_
  have hzz : upd H z (.cells [a, b]) z = some (.cells [a, b]) := by simp [upd_apply]
  have hS : Sub H (upd H z (.cells [a, b])) := (Sub.refl H).upd hz
  simp
  generalize upd H z (.cells [a, b]) = H1 at *
  refine c7 fun B0 hB0 => ?_
  have hz1 := PV_sub hB0 _ _ hzz
  simp [hz1]
  have hS1 := hS.trans (PV_sub hB0)
  refine c8 (ha.sub hS1) (hb.sub hS1) fun bb hbb => ?_
  cases bb with
  | false =>
    simp
    refine c9 ?_
    simp
    exact ⟨H, hS1, hk⟩
  | true =>
    obtain ⟨h4, h40, hli⟩ := hbb rfl
    simp
    refine c21 ?_
    simp
    refine c22 ?_
    simp
    refine newK_of fun b5 h5 => ?_
    simp
    refine newK_of fun b6 h6 => ?_
    obtain ⟨n65, n56, h6⟩ := upd_none'.1 h6
    simp [n56, n65, ptr]
    generalize hV : upd (upd (upd (upd (PV H1 B0 m0) b5 _) b6 _) b5 _) b6 _ = V0
    obtain ⟨G0, hV0, hB1, hRI0⟩ := RI.init (V' := V0) hB0 h5 h6 n56 rfl rfl rfl (fun j o hj => by
      rw [← hV]
      have j5 : j ≠ b5 := by rintro rfl; rw [h5] at hj; cases hj
      have j6 : j ≠ b6 := by rintro rfl; rw [h6] at hj; cases hj
      simp [upd_apply, j5, j6, hj]) (by rw [← hV]; simp [n56, ptr]) (by rw [← hV]; simp; rfl)
    rw [hV0]
    clear hV hV0
    refine wpc_loop (fun s => ∃ (i : Nat) (c : Option (Nat × Bool × List AV)) (G : AH) (m : PS) (aP aG aS : AV), s.n = 162 ∧ s.H = PV G { B0 with ch := c } m ∧ BOk G { B0 with ch := c } m ∧ RI H1 b5 b6 G m aP aG aS ∧ s.t 1 = pA z ∧ s.t 3 = pA B0.p ∧ s.t 5 = pA b5 ∧ s.t 6 = pA b6 ∧ s.t 7 = vi i ∧ i ≤ ops.length ∧ InvF m ∧ InvM m.g ∧ m.pr.Nodup ∧ m.pr.length ≤ 16 ∧ m.lg.la ≤ 3 * (i : Int)) (fun s => ops.length - slotN (s.t 7)) ?_ ?_
    · exact FgK.same ⟨0, B0.ch, G0, m0, vnil, vnil, vnil, by simp, by simp, hB1, hRI0, by simp, by simp, by simp, by simp, by simp, by omega, inv0, ⟨by simp [m0], .inl ⟨rfl, rfl⟩, .inl ⟨rfl, rfl⟩⟩, by simp [m0], by simp [m0], by simp [m0, lg0]⟩
    rintro s ⟨i, c, G, m, aP, aG, aS, hn, hH, hB, hRI, e1, e3, e5, e6, e7, hil, hinvf, hinvm, hnd, h16, hla⟩
    have hzG : G z = some (.cells [a, b]) := hRI.sub _ _ hzz
    have kz := PV_sub hB _ _ hzG
    have hSG : Sub H (PV G { B0 with ch := c } m) := (hS.trans hRI.sub).trans (PV_sub hB)
    by_cases hlt : i < ops.length
    · have wr := IntWalk.i64_in ((i : Int) + 1) (by omega)
      obtain ⟨p, hp1, hp2⟩ := fsee opc_l hb hlt
      generalize ops[i] = o at *
      have hol : (opc o).length = 11 := rfl
      have hot : (opc o).take 11 = opc o := rfl
      simp (disch := omega) [hn, hH, e1, e3, e5, e6, e7, kz, lb, hlt, hp1, hp2 _ hSG]
      refine c10 (ha.ok hli) hSG cb (by omega) fun v hv => ?_
      have hLi := items_li hli o
      generalize itemsM Ls o = L at *
      have ov := Rw.one hv.1
      have cv := Rw.cells hv.1
      have hLl := hLi.len
      simp [kz, hp1, hp2 _ hSG]
      refine c14 (o := o) hB (hv.sub (hS.trans hRI.sub)) (by omega) fun c2 G2 out h2 hr2 => ?_
      have oc := Rw.cells hr2.rd
      have oo := Rw.one hr2.rd
      have k5 := PV_sub h2 _ _ (hr2.1 _ _ hRI.k5)
      have k6 := PV_sub h2 _ _ (hr2.1 _ _ hRI.k6)
      have kz2 := PV_sub h2 _ _ (hr2.1 _ _ hzG)
      have hG2 : Sub G (PV G2 { B0 with ch := c2 } (callM m L o).1) := hr2.1.trans (PV_sub h2)
      have hS2 : Sub H (PV G2 { B0 with ch := c2 } (callM m L o).1) := (hS.trans hRI.sub).trans hG2
      obtain ⟨w1, w2, w3⟩ := hRI.rows
      have a1 := w1.one
      have a2 := w1.cells
      have a3 := w2.one
      have a4 := w2.cells
      have aSc : aS.one = true ∧ aS.cells = some [aS] := by
        obtain ⟨a0, LS, h1, h3, _⟩ := w3
        injection h1 with h1
        injection h1 with h1 h1'
        injection h1' with h1' h1''
        rw [h1']
        exact ⟨Rw.one h3, Rw.cells h3⟩
      simp [kz2, k5, k6, ptr, hp1, hp2 _ hS2]
      refine c23 (m := m) (w1.sub hG2) (w2.sub hG2) hinvm hinvf (w3.sub hG2) (by omega) ((hv.sub (hS.trans hRI.sub)).sub hG2) hLi (by omega) hnd o ?_
      intro V aP2 aG2 v2 out2 hs hnP hnG hn2 ho2
      have hinvf2 := call_inv hinvf hLi.pos o
      have hinvm2 := call_invM L o hinvm
      have hnd2 := call_nd L o hnd
      have h162 := npr_len h16 o
      rw [← call_pr m L o] at h162
      have hlab := call_lab (L := L) (o := o) (m := m) ⟨w3.pos, by omega⟩
      have hcl := call_len4 (m := m) hB.len L o
      have hvv := hn2.rd (w3.sub hG2) hs
      generalize callM m L o = r at *
      obtain ⟨m2, dl, er⟩ := r
      simp only at *
      obtain ⟨aS2, LS2, rfl, hr3, hl3⟩ := hvv
      have q1 := Rw.one hr3
      have q2 := Rw.cells hr3
      have u1 := hnP.one a1
      have u2 := hnP.cells a2
      have u3 := hnG.one a3
      have u4 := hnG.cells a4
      have y1 := ho2.one
      have y2 := ho2.cells
      have l5 := hs _ _ k5
      have l6 := hs _ _ k6
      have lz := hs _ _ kz2
      have hne := hRI.ne
      have hne' := Ne.symm hne
      have hnz5 : b5 ≠ z := by
        rintro rfl
        obtain ⟨⟨R, x1, x2, x3, _⟩, _⟩ := hRI
        rw [x1 _ _ hzz] at x3; cases x3
      have hnz6 : b6 ≠ z := by
        rintro rfl
        obtain ⟨⟨R, x1, x2, _, x3, _⟩, _⟩ := hRI
        rw [x1 _ _ hzz] at x3; cases x3
      have SV : Sub H V := hS2.trans hs
      simp [ptr]
      refine newK_of fun b11 h11 => ?_
      have v5 := ne_of_free l5 h11
      have v6 := ne_of_free l6 h11
      have vz := ne_of_free lz h11
      have hpA := fun X => hp2 (upd V b11 X) (SV.upd (SV.none_of h11))
      simp [l5, l6, lz, v5, v6, vz, hpA, ptr]
      refine newK_of fun b12 h12 => ?_
      obtain ⟨x1, x2, h12⟩ := upd_none'.1 h12
      have v7 := ne_of_free l5 h12
      have v8 := ne_of_free l6 h12
      have vz2 := ne_of_free lz h12
      have hpB := fun X Y => hp2 (upd (upd V b11 X) b12 Y) ((SV.upd (SV.none_of h11)).upd (SV.none_of h12))
      have hpC := fun X Y Z => hp2 (upd (upd (upd V b11 X) b12 Y) b11 Z) (((SV.upd (SV.none_of h11)).upd (SV.none_of h12)).upd (SV.none_of h11))
      simp [lz, vz, vz2, hpB, ptr, l5, l6, x1, x2, v5, v6, v7, v8, Ne.symm v7, hne', u1, u3, q1]
      generalize hV : upd (upd (upd (upd (upd (upd V b11 _) b12 _) b11 _) b12 _) b5 _) b6 _ = V2
      have hA : ∀ j o, V j = some o → j ≠ b5 → j ≠ b6 → V2 j = some o := by
        intro j o hj j5 j6
        have j11 : j ≠ b11 := by rintro rfl; rw [h11] at hj; cases hj
        have j12 : j ≠ b12 := by rintro rfl; rw [h12] at hj; cases hj
        rw [← hV]
        simp [upd_apply, j5, j6, j11, j12, hj]
      have k5' : V2 b5 = some (.cells (ptr m2 aP2 aG2)) := by rw [← hV]; simp [hne, ptr]
      have k6' : V2 b6 = some (.cells [vi m2.lg.la, aS2]) := by rw [← hV]; simp
      clear hV
      obtain ⟨G3, e3', hB3, hRI3⟩ := hRI.step h2 hr2.1 hs hnP hnG hn2 hA k5' k6'
      have hout : Rw V2 out (flat dlc dl) dl.length 9 := outRw hr2 (fun j o hj => hA j o (hs _ _ (PV_sub h2 _ _ hj))) (by rw [hRI.k5]; simp) (by rw [hRI.k6]; simp)
      have hout2 : Rw V2 out2 (flat dlc dl) dl.length 9 := outNRw ho2 hA (by rw [k5]; simp) (by rw [k6]; simp)
      rw [e3'] at hout hout2 k5' k6' ⊢
      obtain ⟨w4, w5, w6⟩ := hRI3.rows
      refine c24 ?_
      simp
      refine c12 ?_
      simp
      refine c13 hB3 ?_
      simp
      refine c16 ?_
      simp
      refine c18 hB3.stack hB3.ch100 ?_
      simp [k5', ptr]
      refine c25 (m := m2.g) hinvm2 (w5.sub (PV_sub hB3)) ?_
      simp
      refine c26 hout hout2 rfl (by omega) ?_
      simp [k5', ptr]
      refine c11 hB3 (by omega) fun r9 G4 h4' hr9 => ?_
      have k5'' := PV_sub h4' _ _ (hr9.1 _ _ hRI3.k5)
      have o9 := hr9.2.one
      have c9 := hr9.2.cells
      simp [k5'', ptr]
      refine c20 (hr9.2.sub (PV_sub h4')) ((w4.sub hr9.1).sub (PV_sub h4')) rfl (by rw [sortI_len]; omega) ?_
      simp [wr]
      unfold LaB at hlab
      exact FgK.same ⟨⟨i + 1, c2, G4, m2, aP2, aG2, aS2, by simp, by simp, h4', hRI3.mono hr9.1, by simp, by simp, by simp, by simp, by simp, by omega, hinvf2, hinvm2, hnd2, h162, by omega⟩, by simp [e7]; omega⟩
    · simp (disch := omega) [hn, hH, e1, e3, e5, e6, e7, kz, lb, hlt]
      refine c9 ?_
      simp
      exact ⟨H, hSG, hk⟩
theorem law_PointerRuns (xs : List AV) (hf : FitsT [(true, [.sl [.sl itL], .sl opL])] xs) : ACall Tryz.prog 6 xs (fun _ => none) (fun v _ => v = vb true) := by
  obtain ⟨a, rfl, h⟩ := hf.one
  obtain ⟨v, w, Ls, ops, rfl, h1, h2⟩ := fitSet h
  exact c6 (h1 _) (h2 _) rfl
end Go.Proofs.YtmpncpamndhmcaaGreat
end
