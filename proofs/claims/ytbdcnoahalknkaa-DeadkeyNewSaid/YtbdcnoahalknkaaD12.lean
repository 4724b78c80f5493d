/-
  The law's helpers and the chapter's example, walked. Conditions: as each lemma states them.
-/
import Derived.Test.YtbdcnoahalknkaaD11
import Derived.Test.YtbdcnoahalknkaaD7
namespace Go.Proofs.Ytbdcnoahalknkaa
open Go Go.Ab Go.RowKit
set_option linter.unusedSimpArgs false
set_option linter.unusedVariables false
set_option linter.unnecessarySimpa false

attribute [local simp] condK_true condK_false condK_not wpc_skip wpc_ret wpc_exit wpc_seq wpc_reg wpc_regD testA_bool wpc_cond wpc_block thenA_normal thenA_ret thenA_exit blockA_normal blockA_ret blockA_exit blockA_other endA_normal endA_ret ev_tmp' ev_const ev_func ev_global cv_int cv_bool cv_string cv_pointer cv_slice cv_agg cv_map put_some put_none wH_s setE_apply setE_env less_eq env_cons env_nil upd_upd upd_apply del_apply startA_eq cells_ag cells_sl one_sl cells_vs one_vs cells_ep one_ep cells_fn one_fn cells_int one_int cells_bool one_bool cells_string one_string cells_pointer one_pointer cells_slice one_slice cells_map one_map cells_agg resK_one resK_nil resK_two rvK_t rvK_c rvsK_nil rvsK_cons iseq_nil iseq_cons gdA_true gdA_false gdA_undef istep_free istep_guard istepV_free istepV_guard dseq_nil dseq_pu dseq_rd dseq_ef wpc_regT dtree_nil dtree_pu dtree_rd dtree_ef dtree_br chkAll_nil chkAll_cons andK_true pickK_true pickK_false pickK_tb pickK_fb bin2K_pl eqbK_eq eqbK_ne eqpK_eq eqpK_ne eqmK_eq eqmK_ne eqzK_eq eqzK_ne eqzK_sl eqzK_vs un1K_pl convK_int fillK_some fillA_cons fillA_nil cellsK_some needK_true needK_ok seeK_ep seeK_ptr oneK_agg oneK_one nilcK_ptr nilcK_ep fadrK_ptr fadrK_ep fldK_ag iadAK_ptr iadAK_ep iadSK_sl iadSK_vs extK_0 extK_1 extK_2 extK_3 lenK_pl lenK_sl lenK_vs lensK_pl boxK_some minmax1K_int storeK_ptr callvK_fn callvK_pl newsK_nil newsK_vs newsK_sl appK_nil appK_nil0 appK_sl appK_vs bnd1K_int bndK_none bndK_some slsK_vs slsK_nil slsK_sl0 slsK_sl slstrK_pl boolK_some eqsK_ag iop_eqs iop_sls iop_slstr seesK_some seesK_ro mapsK_some MAP_some findK_some findK_none plK_pl nmapK_none nmapK_some iop_mlook iop_mlen iop_mmk iop_mupd iop_mdel iop_mrng itK_none itK_some ptr0K_ptr iop_mnxt iop_ment it1K_some entK_some iop_mov iop_pick iop_bin iop_eqb iop_eqp iop_eqm iop_eqz iop_un iop_conv iop_build iop_load iop_nilc iop_fadr iop_fld iop_iadA iop_iadS iop_ext iop_mkf iop_len iop_lens iop_minmax iop_al iop_box iop_bsl iop_store iop_call iop_callv iop_app BIN_add BIN_sub BIN_mul BIN_and BIN_or BIN_xor BIN_andNot BIN_eql BIN_neq BIN_lss BIN_leq BIN_gtr BIN_geq BIN_quo BIN_rem BIN_shl BIN_shr BIN_sadd BIN_seql BIN_sneq BIN_slss BIN_sleq BIN_sgtr BIN_sgeq UN_neg UN_xor UN_not MM_nil MM_cons partsA argsA ptrA lessL eqL min2I slotN_int slotP_int slotI_int

theorem c19 {H : AH} {K : AV → AH → Prop} {a b : AV} {l m : List Int} (ha : Ri H a l) (hb : Ri H b m) (hl : l.length ≤ maxLen) (hk : K (vb (decide (l = m))) H) : @AC Try.prog 19 [a, b] H ⟨K⟩ := by
  have la := fun k => ha.lenK (k := k)
  have lb := fun k => hb.lenK (k := k)
  have hmx : maxLen = 9223372036854775807 := rfl
  refine AC_of ?_
  refine call_c follows cf19_ok (by simp) ?_
  by_cases c1 : l.length = m.length
  · have c1' : (l.length : Int) = m.length := by omega
    simp [la, lb, c1']
    refine wpc_loop (fun s => ∃ i : Nat, s.n = 26 ∧ s.H = H ∧ s.t 0 = a ∧ s.t 1 = b ∧ s.t 5 = vi i ∧ i ≤ l.length ∧ l.take i = m.take i) (fun s => l.length - slotN (s.t 5)) ?_ ?_
    · exact FgK.same ⟨0, by simp, by simp, by simp, by simp, by simp, by omega, by simp⟩
    rintro s ⟨i, hn, hH, e0, e1, e5, hi, ht⟩
    by_cases hlt : i < l.length
    · have hlm : i < m.length := by omega
      have wr := IntWalk.i64_in ((i : Int) + 1) (by omega)
      obtain ⟨p, hp1, hp2⟩ := ha.see hlt
      obtain ⟨q, hq1, hq2⟩ := hb.see hlm
      by_cases c2 : l[i] = m[i]
      · simp (disch := omega) [hn, hH, e0, e1, e5, la, lb, hlt, hp1, hp2 _ (Sub.refl _), hq1, hq2 _ (Sub.refl _), c2, wr]
        refine FgK.same ⟨⟨i + 1, by simp, by simp, by simp, by simp, by simp, by omega, ?_⟩, by simp [e5]; omega⟩
        rw [List.take_succ_eq_append_getElem hlt, List.take_succ_eq_append_getElem hlm, ht, c2]
      · have : decide (l = m) = false := by
          rw [decide_eq_false_iff_not]
          rintro rfl; exact c2 rfl
        rw [this] at hk
        simp (disch := omega) [hn, hH, e0, e1, e5, la, lb, hlt, hp1, hp2 _ (Sub.refl _), hq1, hq2 _ (Sub.refl _), c2]
        exact hk
    · have : l = m := by
        rw [List.take_of_length_le (by omega), List.take_of_length_le (by omega)] at ht
        exact ht
      rw [decide_eq_true this] at hk
      simp (disch := omega) [hn, hH, e0, e1, e5, la, lb, hlt]
      exact hk
  · have c1' : ¬ (l.length : Int) = m.length := by omega
    have : decide (l = m) = false := by
      rw [decide_eq_false_iff_not]
      rintro rfl; exact c1 rfl
    rw [this] at hk
    simp [la, lb, c1']
    exact hk
theorem c13 {H : AH} {K : AV → AH → Prop} {a : AV} {L : List (AV × Sq)} (ha : Sr H a L) (hl : L.length * 40 ≤ 140737488355328) (hk : ∀ out H', Row H H' out (flat sqc L) L.length 2 → K out H') : @AC Try.prog 13 [a] H ⟨K⟩ := by
  have la := fun k => ha.row.lenK (k := k)
  refine AC_of (.forget ?_)
  refine call_c follows cf13_ok (by simp) ?_
  simp
  refine wpc_loop (fun s => ∃ (i : Nat) (out : AV), s.n = 19 ∧ s.t 0 = a ∧ s.t 3 = out ∧ s.t 4 = vi i ∧ i ≤ L.length ∧ Row H s.H out (flat sqc (L.take i)) (L.take i).length 2) (fun s => L.length - slotN (s.t 4)) ?_ ?_
  · exact FgK.same ⟨0, vnil, by simp, by simp, by simp, by simp, by omega, by simpa [flat_nil] using Row.nil H 2⟩
  rintro s ⟨i, out, hn, e0, e3, e4, hi, hro⟩
  have htl : (L.take i).length = i := by simp; omega
  generalize hHeq : s.H = Hs at *
  have ha2 := ha.sub hro.sub
  by_cases hlt : i < L.length
  · have wr := IntWalk.i64_in ((i : Int) + 1) (by omega)
    obtain ⟨p, hp1, hp2⟩ := ha2.see hlt
    have ox := (ha.key _ (List.getElem_mem hlt)).one
    have et : L.take (i + 1) = L.take i ++ [L[i]] := by rw [List.take_succ_eq_append_getElem hlt]
    have hsq : sqc L[i] = [L[i].1, vs8 L[i].2.r] := rfl
    generalize L[i] = x at *
    simp (disch := omega) [hn, hHeq, e0, e3, e4, la, hlt, hp1, hp2 _ (Sub.refl _)]
    refine newK_of fun q hq => ?_
    have hs2 : Sub Hs (upd Hs q (.cells [x.1, vs8 x.2.r])) := (Sub.refl Hs).upd hq
    generalize hx4 : AV.sl q 0 1 2 true = x4
    have hnw : ∀ k : Nat → List AV → Prop, @NEWS (upd Hs q (.cells [x.1, vs8 x.2.r])) x4 2 ⟨k⟩ = k 1 [x.1, vs8 x.2.r] := by intro k; rw [← hx4]; simp
    simp [hnw]
    refine hro.app hs2 (by decide) (by simp [ox]) (flat_len sqc_len _) (by omega) fun r H' hr hsr => ?_
    simp (disch := omega) [wr]
    refine FgK.of _ hsr ⟨⟨i + 1, .sl r 0 ((L.take i).length + 1) 2 false, by simp, by simp [e0], by simp; omega, by simp, by omega, ?_⟩, by simp [e4]; omega⟩
    rw [et]
    have := Row.mk (cs := flat sqc (L.take i ++ [x])) (n := (L.take i ++ [x]).length) (sz := 2) hr
    rw [← flat_snoc, hsq] at this ⊢
    simpa using this
  · rw [List.take_of_length_le (by omega)] at hro
    simp (disch := omega) [hn, hHeq, e0, e3, e4, la, hlt]
    exact ⟨Hs, Sub.refl _, hk _ _ hro⟩
theorem Sr.of_row {H H' : AH} {a out : AV} {L : List (AV × Sq)} (ha : Sr H a L) (h : Row H H' out (flat sqc L) L.length 2) : Sr H' out L := ⟨(h.rin (flat_len sqc_len L)).rd, fun x hx => (ha.key x hx).sub h.sub⟩
def S2 : List Sq := [⟨[10, 20], ⟨#[120]⟩⟩, ⟨[10, 21, 22], ⟨#[121]⟩⟩]
def S3 : List Sq := [⟨[10, 20], ⟨#[120]⟩⟩, ⟨[10], ⟨#[121]⟩⟩]
theorem f1 : newT S2 = 0 := by decide
theorem f2 : newT S3 = 7 := by decide
theorem f3 : feed S2 [] 10 = ⟨[10], emp, 1⟩ := rfl
theorem f4 : feed S2 [10] 20 = ⟨[], ⟨#[120]⟩, 2⟩ := rfl
theorem f5 : feed S2 [] 20 = ⟨[], emp, 0⟩ := rfl
theorem f6 : feed S2 [10] 99 = ⟨[], emp, 3⟩ := rfl
theorem f7 : pend S2 [10] = [20, 21] := rfl
theorem f8 : longest S2 = 3 := rfl
theorem Ri.nil (H : AH) : Ri H vnil [] := Rw.nil H 1
theorem Row.nil_of {H0 H : AH} {out : AV} (h : Row H0 H out (List.map vi []) (List.length ([] : List Int)) 1) : Ri H out [] := h.ri
theorem c11 : PC Try.prog 11 [] (vb true) := by
  refine .tell fun H => ?_
  refine call_c follows cf11_ok (by simp) ?_
  simp
  refine newK_of fun k1 hk1 => ?_
  simp
  refine newK_of fun k2 hk2 => ?_
  obtain ⟨n1, n2, hk2H⟩ := upd_none'.1 hk2
  simp
  refine newK_of fun b hb => ?_
  obtain ⟨n3, n4, hb1⟩ := upd_none'.1 hb
  obtain ⟨n5, n6, hbH⟩ := upd_none'.1 hb1
  simp
  have hS1 := (((Sub.refl H).upd hk1 (o := .cells [vi 10, vi 20])).upd hk2H (o := .cells [vi 10, vi 21, vi 22])).upd hbH (o := .cells [.sl k1 0 2 1 true, vs8 ⟨#[120]⟩, .sl k2 0 3 1 true, vs8 ⟨#[121]⟩])
  have hr1 : Sr (upd (upd (upd H k1 (.cells [vi 10, vi 20])) k2 (.cells [vi 10, vi 21, vi 22])) b (.cells [.sl k1 0 2 1 true, vs8 ⟨#[120]⟩, .sl k2 0 3 1 true, vs8 ⟨#[121]⟩])) (.sl b 0 2 2 true)
      [(.sl k1 0 2 1 true, ⟨[10, 20], ⟨#[120]⟩⟩), (.sl k2 0 3 1 true, ⟨[10, 21, 22], ⟨#[121]⟩⟩)] := by
    refine ⟨Rw.sl rfl (by simp [upd_apply, flat, sqc]), fun x hx => ?_⟩
    simp only [List.mem_cons, List.not_mem_nil, or_false] at hx
    rcases hx with rfl | rfl
    · exact Rw.sl rfl (by simp [upd_apply, n2, n6])
    · exact Rw.sl rfl (by simp [upd_apply, n4])
  generalize (upd (upd (upd H k1 (.cells [vi 10, vi 20])) k2 (.cells [vi 10, vi 21, vi 22])) b (.cells [.sl k1 0 2 1 true, vs8 ⟨#[120]⟩, .sl k2 0 3 1 true, vs8 ⟨#[121]⟩])) = H1 at *
  refine c12 hr1 (by intro x hx; simp at hx; rcases hx with rfl | rfl <;> (simp; decide)) (fun h => absurd f1 h) fun _ H2 t nd mp hS2 hT _ _ => ?_
  have hT : Tb H2 t S2 nd mp := hT
  simp
  refine c17 10 hT (Ri.nil _) (by simp) fun o1 H3 hro1 => ?_
  rw [f3] at hro1 ⊢
  have q1 := hro1.one
  have hT3 := hT.sub hro1.sub
  have r1 : Ri H3 o1 [10] := hro1.ri
  simp [q1]
  refine newK_of fun y1 hy1 => ?_
  simp [q1, r1.cells]
  have hS4 : Sub H3 (upd H3 y1 (.cells [o1])) := (Sub.refl H3).upd hy1
  have g1 : (upd H3 y1 (.cells [o1])) y1 = some (.cells [o1]) := by simp [upd_apply]
  have hT4 := hT3.sub hS4
  have r2 := r1.sub hS4
  have hS14 := hS1.trans (hS2.trans (hro1.sub.trans hS4))
  generalize upd H3 y1 (.cells [o1]) = H4 at *
  try simp [g1]
  refine c17 20 hT4 r2 (by simp) fun o2 H5 hro2 => ?_
  rw [f4] at hro2 ⊢
  have q2 := hro2.one
  have hT5 := hT4.sub hro2.sub
  have r3 : Ri H5 o2 [] := Row.nil_of hro2
  simp [q2, r3.cells]
  refine newK_of fun y2 hy2 => ?_
  have hS6 : Sub H5 (upd H5 y2 (.cells [o2])) := (Sub.refl H5).upd hy2
  have g2 : (upd H5 y2 (.cells [o2])) y2 = some (.cells [o2]) := by simp [upd_apply]
  have hS46 := hro2.sub.trans hS6
  have g1' := hS46.at g1
  have hT6 := hT5.sub hS6
  have r4 := r3.sub hS6
  have r1' := r2.sub hS46
  simp [q2, r3.cells]
  generalize upd H5 y2 (.cells [o2]) = H6 at *
  try simp [g2]
  refine c17 20 hT6 r4 (by simp) fun o3 H7 hro3 => ?_
  rw [f5] at hro3 ⊢
  have q3 := hro3.one
  have hT7 := hT6.sub hro3.sub
  have r5 : Ri H7 o3 [] := Row.nil_of hro3
  simp [q3, r5.cells]
  refine newK_of fun y3 hy3 => ?_
  have hS8 : Sub H7 (upd H7 y3 (.cells [o3])) := (Sub.refl H7).upd hy3
  have hS68 := hro3.sub.trans hS8
  have g1'' := hS68.at g1'
  have g2' := hS68.at g2
  have hT8 := hT7.sub hS8
  have r1'' := r1'.sub hS68
  have r4' := r4.sub hS68
  have gg1 := hro3.sub.at g1'
  have ny3 := free_ne hy3 y1 (by simp [gg1])
  simp [q3, r5.cells, gg1, ny3]
  generalize upd H7 y3 (.cells [o3]) = H8 at *
  try simp [g1'']
  refine c17 99 hT8 r1'' (by simp) fun o4 H9 hro4 => ?_
  rw [f6] at hro4 ⊢
  have q4 := hro4.one
  have hT9 := hT8.sub hro4.sub
  have r6 : Ri H9 o4 [] := Row.nil_of hro4
  simp [q4, r6.cells]
  refine newK_of fun y4 hy4 => ?_
  have hSa : Sub H9 (upd H9 y4 (.cells [o4])) := (Sub.refl H9).upd hy4
  have g4 : (upd H9 y4 (.cells [o4])) y4 = some (.cells [o4]) := by simp [upd_apply]
  have hS8a := hro4.sub.trans hSa
  have g1a := hS8a.at g1''
  have g2a := hS8a.at g2'
  have hTa := hT9.sub hSa
  have r1a := r1''.sub hS8a
  have r4a := r4'.sub hS8a
  have r6a := r6.sub hSa
  have hS1a := hS14.trans (hS46.trans (hS68.trans hS8a))
  simp [q4, r6.cells]
  generalize upd H9 y4 (.cells [o4]) = Ha at *
  refine newK_of fun k3 hk3 => ?_
  simp
  refine newK_of fun k4 hk4 => ?_
  obtain ⟨m1, m2, hk4H⟩ := upd_none'.1 hk4
  simp
  refine newK_of fun b2 hb2 => ?_
  obtain ⟨m3, m4, hb3⟩ := upd_none'.1 hb2
  obtain ⟨m5, m6, hb2H⟩ := upd_none'.1 hb3
  have hSb := (((Sub.refl Ha).upd hk3 (o := .cells [vi 10, vi 20])).upd hk4H (o := .cells [vi 10])).upd hb2H (o := .cells [.sl k3 0 2 1 true, vs8 ⟨#[120]⟩, .sl k4 0 1 1 true, vs8 ⟨#[121]⟩])
  have hr2 : Sr (upd (upd (upd Ha k3 (.cells [vi 10, vi 20])) k4 (.cells [vi 10])) b2 (.cells [.sl k3 0 2 1 true, vs8 ⟨#[120]⟩, .sl k4 0 1 1 true, vs8 ⟨#[121]⟩])) (.sl b2 0 2 2 true)
      [(.sl k3 0 2 1 true, ⟨[10, 20], ⟨#[120]⟩⟩), (.sl k4 0 1 1 true, ⟨[10], ⟨#[121]⟩⟩)] := by
    refine ⟨Rw.sl rfl (by simp [upd_apply, flat, sqc]), fun x hx => ?_⟩
    simp only [List.mem_cons, List.not_mem_nil, or_false] at hx
    rcases hx with rfl | rfl
    · exact Rw.sl rfl (by simp [upd_apply, m2, m6])
    · exact Rw.sl rfl (by simp [upd_apply, m4])
  have g1b := hSb.at g1a
  have g2b := hSb.at g2a
  have g4b := hSb.at g4
  have hTb := hTa.sub hSb
  have r1b := r1a.sub hSb
  have r4b := r4a.sub hSb
  have r6b := r6a.sub hSb
  have hS1b := hS1a.trans hSb
  simp
  generalize (upd (upd (upd Ha k3 (.cells [vi 10, vi 20])) k4 (.cells [vi 10])) b2 (.cells [.sl k3 0 2 1 true, vs8 ⟨#[120]⟩, .sl k4 0 1 1 true, vs8 ⟨#[121]⟩])) = Hb at *
  refine c12 hr2 (by intro x hx; simp at hx; rcases hx with rfl | rfl <;> (simp; decide)) (fun h => ?_) fun h => absurd (h.symm.trans f2) (by decide)
  have f2' : newT (sqs [(AV.sl k3 0 2 1 true, (⟨[10, 20], ⟨#[120]⟩⟩ : Sq)), (AV.sl k4 0 1 1 true, ⟨[10], ⟨#[121]⟩⟩)]) = 7 := f2
  rw [f2']
  simp [g1b]
  refine newK_of fun j1 hj1 => ?_
  simp
  have hSc : Sub Hb (upd Hb j1 (.cells [vi 10])) := (Sub.refl Hb).upd hj1
  have hTc := hTb.sub hSc
  have g1c := hSc.at g1b
  have g2c := hSc.at g2b
  have g4c := hSc.at g4b
  have r1c := r1b.sub hSc
  have l2 := fun k => (r4b.sub hSc).lenK (k := k)
  have l4 := fun k => (r6b.sub hSc).lenK (k := k)
  have hS1c := hS1b.trans hSc
  have rj : Ri (upd Hb j1 (.cells [vi 10])) (.sl j1 0 1 1 true) [10] := Rw.sl rfl (by simp [upd_apply])
  generalize upd Hb j1 (.cells [vi 10]) = Hc at *
  refine c19 r1c (m := [10]) rj (by decide) ?_
  simp [emp_tl, g2c, g4c, l2, l4, g1c]
  refine c20 hTc r1c (by simp) (by decide) fun o5 Hd hrow => ?_
  rw [f7] at hrow
  have hTd := hTc.sub hrow.sub
  simp
  refine newK_of fun j2 hj2 => ?_
  have hSe : Sub Hd (upd Hd j2 (.cells [vi 20, vi 21])) := (Sub.refl Hd).upd hj2
  simp
  refine c19 (hrow.ri.sub hSe) (m := [20, 21]) (Rw.sl rfl (by simp [upd_apply])) (by decide) ?_
  simp
  refine c15 (hTd.sub hSe) ?_
  rw [f8]
  simp
  exact hS1c.trans (hrow.sub.trans hSe)
end Go.Proofs.Ytbdcnoahalknkaa
