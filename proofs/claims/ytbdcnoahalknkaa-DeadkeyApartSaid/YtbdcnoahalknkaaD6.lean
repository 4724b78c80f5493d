/-
  Feed of the program, walked. Conditions: as each lemma states them.
-/
import Derived.Test.YtbdcnoahalknkaaD5
namespace Go.Proofs.Ytbdcnoahalknkaa
open Go Go.Ab Go.RowKit
set_option linter.unusedSimpArgs false
set_option linter.unusedVariables false
set_option linter.unnecessarySimpa false

attribute [local simp] condK_true condK_false condK_not wpc_skip wpc_ret wpc_exit wpc_seq wpc_reg wpc_regD testA_bool wpc_cond wpc_block thenA_normal thenA_ret thenA_exit blockA_normal blockA_ret blockA_exit blockA_other endA_normal endA_ret ev_tmp' ev_const ev_func ev_global cv_int cv_bool cv_string cv_pointer cv_slice cv_agg cv_map put_some put_none wH_s setE_apply setE_env less_eq env_cons env_nil upd_upd upd_apply del_apply startA_eq cells_ag cells_sl one_sl cells_vs one_vs cells_ep one_ep cells_fn one_fn cells_int one_int cells_bool one_bool cells_string one_string cells_pointer one_pointer cells_slice one_slice cells_map one_map cells_agg resK_one resK_nil resK_two rvK_t rvK_c rvsK_nil rvsK_cons iseq_nil iseq_cons gdA_true gdA_false gdA_undef istep_free istep_guard istepV_free istepV_guard dseq_nil dseq_pu dseq_rd dseq_ef wpc_regT dtree_nil dtree_pu dtree_rd dtree_ef dtree_br chkAll_nil chkAll_cons andK_true pickK_true pickK_false pickK_tb pickK_fb bin2K_pl eqbK_eq eqbK_ne eqpK_eq eqpK_ne eqmK_eq eqmK_ne eqzK_eq eqzK_ne eqzK_sl eqzK_vs un1K_pl convK_int fillK_some fillA_cons fillA_nil cellsK_some needK_true needK_ok seeK_ep seeK_ptr oneK_agg oneK_one nilcK_ptr nilcK_ep fadrK_ptr fadrK_ep fldK_ag iadAK_ptr iadAK_ep iadSK_sl iadSK_vs extK_0 extK_1 extK_2 extK_3 lenK_pl lenK_sl lenK_vs lensK_pl boxK_some minmax1K_int storeK_ptr callvK_fn callvK_pl newsK_nil newsK_vs newsK_sl appK_nil appK_nil0 appK_sl appK_vs bnd1K_int bndK_none bndK_some slsK_vs slsK_nil slsK_sl0 slsK_sl slstrK_pl boolK_some eqsK_ag iop_eqs iop_sls iop_slstr seesK_some seesK_ro mapsK_some MAP_some findK_some findK_none plK_pl nmapK_none nmapK_some iop_mlook iop_mlen iop_mmk iop_mupd iop_mdel iop_mrng itK_none itK_some ptr0K_ptr iop_mnxt iop_ment it1K_some entK_some iop_mov iop_pick iop_bin iop_eqb iop_eqp iop_eqm iop_eqz iop_un iop_conv iop_build iop_load iop_nilc iop_fadr iop_fld iop_iadA iop_iadS iop_ext iop_mkf iop_len iop_lens iop_minmax iop_al iop_box iop_bsl iop_store iop_call iop_callv iop_app BIN_add BIN_sub BIN_mul BIN_and BIN_or BIN_xor BIN_andNot BIN_eql BIN_neq BIN_lss BIN_leq BIN_gtr BIN_geq BIN_quo BIN_rem BIN_shl BIN_shr BIN_sadd BIN_seql BIN_sneq BIN_slss BIN_sleq BIN_sgtr BIN_sgeq UN_neg UN_xor UN_not MM_nil MM_cons partsA argsA ptrA lessL eqL min2I slotN_int slotP_int slotI_int
attribute [local simp] Option.isNone_none Option.isNone_some pO_some pO_none mO_some mO_none

theorem hit_dom {S : List Sq} {v : List Int} {s : Sq} (h : hit S v = some s) : Dom S v := by
  obtain ⟨h1, h2⟩ := hit_some h
  exact .inr ⟨s, h1, h2 ▸ List.prefix_refl _⟩
theorem hit_res {S : List Sq} {v : List Int} {s : Sq} (h : hit S v = some s) : resOf S v = s.r := by unfold resOf; rw [h]
theorem nohit_res {S : List Sq} {v : List Int} (h : hit S v = none) : resOf S v = emp := by unfold resOf; rw [h]
theorem c17n {H : AH} {K : AV → AH → Prop} {a : AV} {w : List Int} {x : Int} (ha : Ri H a w) (hk : K (.tp [.ag [vnil], vs8 emp, vi 0]) H) :
    @AC Try.prog 17 [.pl (.pointer none), .ag [a], vi x] H ⟨K⟩ := by
  have oa := ha.one
  refine AC_of (.forget ?_)
  refine call_c follows cf17_ok (by simp) ?_
  simp [oa]
  refine newK_of fun z hz => ?_
  simp
  refine newK_of fun y hy => ?_
  obtain ⟨n1, n2, hyH⟩ := upd_none'.1 hy
  simp
  refine c27n ?_
  simp
  exact ⟨H, ((Sub.refl H).upd hz).upd hyH, hk⟩
theorem c17 {H : AH} {K : AV → AH → Prop} {t : Nat} {S : List Sq} {nd mp : List Int → Option Nat} {a : AV} {w : List Int} (x : Int) (h : Tb H t S nd mp) (ha : Ri H a w) (hl : w.length ≤ 1000000)
    (hk : ∀ out H', Row H H' out ((feed S w x).w.map vi) (feed S w x).w.length 1 → K (.tp [.ag [out], vs8 (feed S w x).r, vi (feed S w x).n]) H') : @AC Try.prog 17 [pA t, .ag [a], vi x] H ⟨K⟩ := by
  have oa := ha.one
  have ca := Rw.cells ha
  refine AC_of (.forget ?_)
  refine call_c follows cf17_ok (by simp) ?_
  simp [oa]
  refine newK_of fun z hz => ?_
  simp
  refine newK_of fun y hy => ?_
  obtain ⟨n1, n2, hyH⟩ := upd_none'.1 hy
  have hS : Sub H (upd (upd H z (.cells [a])) y (.cells [vnil])) := ((Sub.refl H).upd hz).upd hyH
  have hzz : (upd (upd H z (.cells [a])) y (.cells [vnil])) z = some (.cells [a]) := by simp [upd_apply, n2]
  have hyy : (upd (upd H z (.cells [a])) y (.cells [vnil])) y = some (.cells [vnil]) := by simp [upd_apply]
  have hT := h.sub hS
  have ha2 := Rw.sub ha hS
  have hback : ∀ X, Sub H (upd (upd (upd H z (.cells [a])) y (.cells [vnil])) y X) := fun X => hS.upd hyH
  have hrow : ∀ out cs n X Hs, (∃ r, out = .sl r 0 n 1 false ∧ (upd (upd H z (.cells [a])) y (.cells [vnil])) r = none ∧ Sub (upd (upd (upd H z (.cells [a])) y (.cells [vnil])) r (.cells cs)) Hs) → ∃ H1, Sub H1 (upd Hs y X) ∧ Row H H1 out cs n 1 := by
    rintro out cs n X Hs ⟨r, rfl, h1, h2⟩
    have e1 := upd_none'.1 h1
    have e2 := upd_none'.1 e1.2.2
    refine ⟨upd H r (.cells cs), ?_, Row.mk e2.2.2⟩
    refine Sub.upd (fun j o hj => h2 j o ?_) ?_
    · by_cases e : j = r
      · subst e; simpa [upd_apply] using hj
      · have hj' : H j = some o := by simpa [upd_apply, e] using hj
        simp only [upd_apply, if_neg e]
        exact hS j o hj'
    · simp [upd_apply, e1.2.1, hyH]
  simp
  generalize upd (upd H z (.cells [a])) y (.cells [vnil]) = H2 at *
  refine c27 hT ?_
  simp [hzz]
  refine c28 hT ha2 hl ?_
  simp
  refine c29 hT.tri Dom.up _ _ ?_
  cases c1 : hit S (was S w ++ [x]) with
  | some s =>
    have hd := hit_dom c1
    have hne : resOf S (was S w ++ [x]) ≠ emp := by rw [hit_res c1]; exact chk_ne (h.acc.chk s (hit_some c1).1)
    obtain ⟨b, hb⟩ := hT.tri.nd_some hd
    have hbn := hT.tri.node _ b hb
    have hby : b ≠ y := by rintro rfl; rw [hyy] at hbn; cases hbn
    rw [feed_hit c1] at hk
    have := hk vnil H (Row.nil H 1)
    rw [← hit_res c1] at this
    simp [hb, hbn, emp_no hne, hyy, hby, Ne.symm hby]
    exact ⟨H, hback _, this⟩
  | none =>
    have he := nohit_res c1
    cases c2 : opn S (was S w ++ [x]) with
    | false =>
      have hd : ¬ Dom S (was S w ++ [x]) := by
        intro hd
        have := h.acc.opn.2 ⟨by simp, hd, he⟩
        rw [c2] at this; cases this
      have hb := hT.tri.nd_none hd
      cases c3 : opn S w with
      | true =>
        rw [feed_off c1 c2 c3] at hk
        have := hk vnil H (Row.nil H 1)
        simp [hb, hyy]
        exact ⟨H, hback _, this⟩
      | false =>
        rw [feed_no c1 c2 c3] at hk
        have := hk vnil H (Row.nil H 1)
        simp [hb, hyy]
        exact ⟨H, hback _, this⟩
    | true =>
      obtain ⟨g1, g2, g3⟩ := h.acc.opn.1 c2
      obtain ⟨b, hb⟩ := hT.tri.nd_some g2
      have hbn := hT.tri.node _ b hb
      rw [he] at hbn
      rw [feed_go c1 c2] at hk
      have hwl := was_len h.acc (w := w)
      cases c3 : opn S w with
      | true =>
        have hw := was_yes c3
        rw [hw] at hk hwl hb
        have hn0 : w.length ≠ 0 := by have := (opn_iff.1 c3).1; exact fun e => this (List.length_eq_zero_iff.1 e)
        simp [hw, hb, hbn, emp_tl, hzz]
        rw [Ri.news ha2]
        refine (Row.nil H2 1).app (Sub.refl _) hn0 (by simp) (by simp) (by omega) fun r H3 hr hs3 => ?_
        have hrow1 : Row H2 (upd H2 r (.cells ([] ++ w.map vi))) (.sl r 0 (0 + w.length) 1 false) (w.map vi) w.length 1 := by
          have := Row.mk (cs := [] ++ w.map vi) (n := w.length) (sz := 1) hr
          simpa using this
        generalize AV.sl r 0 (0 + w.length) 1 false = o1 at *
        simp
        refine newK_of fun q hq => ?_
        have hs4 := hs3.trans ((Sub.refl H3).upd hq (o := .cells [vi x]))
        simp
        refine hrow1.app hs4 (by decide) (by simp) (by simp) (by omega) fun r2 H5 hr2 hs5 => ?_
        have hy5 : H5 y = some (.cells [vnil]) := hs5 y _ (by simp [upd_apply, (ne_of_free hyy hr2), hyy])
        simp [hy5]
        obtain ⟨H6, q1, q2⟩ := hrow (.sl r2 0 (w.length + 1) 1 false) (w.map vi ++ [vi x]) (w.length + 1) (.cells [.sl r2 0 (w.length + 1) 1 false]) H5 ⟨r2, rfl, hr2, hs5⟩
        exact ⟨H6, q1, hk _ _ (by simpa using q2)⟩
      | false =>
        have hw := was_no c3
        rw [hw] at hk hwl hb
        simp only [List.nil_append] at hb
        simp [hw, hb, hbn, emp_tl, hzz]
        refine newK_of fun q hq => ?_
        have hs4 := (Sub.refl H2).upd hq (o := .cells [vi x])
        simp
        refine newK_of fun r2 hr2' => ?_
        have e3 := upd_none'.1 hr2'
        have hr2 := e3.2.2
        have hs5 : Sub (upd H2 r2 (.cells [vi x])) (upd (upd H2 q (.cells [vi x])) r2 (.cells [vi x])) := hs4.cong
        have e4 := free_ne hr2 y (by simp [hyy])
        have e5 := free_ne hq y (by simp [hyy])
        simp [hyy, e4, e5]
        obtain ⟨H6, q1, q2⟩ := hrow (.sl r2 0 1 1 false) [vi x] 1 (.cells [.sl r2 0 1 1 false]) _ ⟨r2, rfl, hr2, hs5⟩
        exact ⟨H6, q1, hk _ _ (by simpa using q2)⟩
end Go.Proofs.Ytbdcnoahalknkaa
