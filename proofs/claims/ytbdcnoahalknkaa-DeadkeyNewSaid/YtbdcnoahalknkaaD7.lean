/-
  Pending of the program, walked. Conditions: as each lemma states them.
-/
import Derived.Test.YtbdcnoahalknkaaD6
import Derived.Test.YtbdcnoahalknkaaShelf
import Derived.Test.YtbdcnoahalknkaaAbS
namespace Go.Proofs.Ytbdcnoahalknkaa
open Go Go.Ab Go.RowKit
set_option linter.unusedSimpArgs false
set_option linter.unusedVariables false
set_option linter.unnecessarySimpa false

attribute [local simp] condK_true condK_false condK_not wpc_skip wpc_ret wpc_exit wpc_seq wpc_reg wpc_regD testA_bool wpc_cond wpc_block thenA_normal thenA_ret thenA_exit blockA_normal blockA_ret blockA_exit blockA_other endA_normal endA_ret ev_tmp' ev_const ev_func ev_global cv_int cv_bool cv_string cv_pointer cv_slice cv_agg cv_map put_some put_none wH_s setE_apply setE_env less_eq env_cons env_nil upd_upd upd_apply del_apply startA_eq cells_ag cells_sl one_sl cells_vs one_vs cells_ep one_ep cells_fn one_fn cells_int one_int cells_bool one_bool cells_string one_string cells_pointer one_pointer cells_slice one_slice cells_map one_map cells_agg resK_one resK_nil resK_two rvK_t rvK_c rvsK_nil rvsK_cons iseq_nil iseq_cons gdA_true gdA_false gdA_undef istep_free istep_guard istepV_free istepV_guard dseq_nil dseq_pu dseq_rd dseq_ef wpc_regT dtree_nil dtree_pu dtree_rd dtree_ef dtree_br chkAll_nil chkAll_cons andK_true pickK_true pickK_false pickK_tb pickK_fb bin2K_pl eqbK_eq eqbK_ne eqpK_eq eqpK_ne eqmK_eq eqmK_ne eqzK_eq eqzK_ne eqzK_sl eqzK_vs un1K_pl convK_int fillK_some fillA_cons fillA_nil cellsK_some needK_true needK_ok seeK_ep seeK_ptr oneK_agg oneK_one nilcK_ptr nilcK_ep fadrK_ptr fadrK_ep fldK_ag iadAK_ptr iadAK_ep iadSK_sl iadSK_vs extK_0 extK_1 extK_2 extK_3 lenK_pl lenK_sl lenK_vs lensK_pl boxK_some minmax1K_int storeK_ptr callvK_fn callvK_pl newsK_nil newsK_vs newsK_sl appK_nil appK_nil0 appK_sl appK_vs bnd1K_int bndK_none bndK_some slsK_vs slsK_nil slsK_sl0 slsK_sl slstrK_pl boolK_some eqsK_ag iop_eqs iop_sls iop_slstr seesK_some seesK_ro mapsK_some MAP_some findK_some findK_none plK_pl nmapK_none nmapK_some iop_mlook iop_mlen iop_mmk iop_mupd iop_mdel iop_mrng itK_none itK_some ptr0K_ptr iop_mnxt iop_ment it1K_some entK_some iop_mov iop_pick iop_bin iop_eqb iop_eqp iop_eqm iop_eqz iop_un iop_conv iop_build iop_load iop_nilc iop_fadr iop_fld iop_iadA iop_iadS iop_ext iop_mkf iop_len iop_lens iop_minmax iop_al iop_box iop_bsl iop_store iop_call iop_callv iop_app BIN_add BIN_sub BIN_mul BIN_and BIN_or BIN_xor BIN_andNot BIN_eql BIN_neq BIN_lss BIN_leq BIN_gtr BIN_geq BIN_quo BIN_rem BIN_shl BIN_shr BIN_sadd BIN_seql BIN_sneq BIN_slss BIN_sleq BIN_sgtr BIN_sgeq UN_neg UN_xor UN_not MM_nil MM_cons partsA argsA ptrA lessL eqL min2I slotN_int slotP_int slotI_int
attribute [local simp] Option.isNone_none Option.isNone_some pO_some pO_none mO_some mO_none

theorem c20n {H : AH} {K : AV → AH → Prop} {a : AV} {w : List Int} (ha : Ri H a w) (hk : K vnil H) :
    @AC Try.prog 20 [.pl (.pointer none), .ag [a]] H ⟨K⟩ := by
  have oa := ha.one
  refine AC_of (.forget ?_)
  refine call_c follows cf20_ok (by simp) ?_
  simp [oa]
  refine newK_of fun z hz => ?_
  simp
  refine c27n ?_
  simp
  exact ⟨H, (Sub.refl H).upd hz, hk⟩
theorem pend_eq {S : List Sq} {w ks : List Int} (hn : ks.Nodup) (h : ∀ k, k ∈ ks ↔ Dom S (was S w ++ [k])) : (ks.mergeSort fun x y => decide (x ≤ y)) = pend S w :=
  rising_eq _ _ (sort_rising hn) (pend_rising S w) fun k => by rw [sort_mem, h, mem_pend]
theorem c20 {H : AH} {K : AV → AH → Prop} {t : Nat} {S : List Sq} {nd mp : List Int → Option Nat} {a : AV} {w : List Int} (h : Tb H t S nd mp) (ha : Ri H a w) (hl : w.length ≤ 1000000) (hSl : S.length ≤ 1000000)
    (hk : ∀ out H', Row H H' out ((pend S w).map vi) (pend S w).length 1 → K out H') : @AC Try.prog 20 [pA t, .ag [a]] H ⟨K⟩ := by
  have oa := ha.one
  refine AC_of (.forget ?_)
  refine call_c follows cf20_ok (by simp) ?_
  simp [oa]
  refine newK_of fun z hz => ?_
  have hS : Sub H (upd H z (.cells [a])) := (Sub.refl H).upd hz
  have hzz : (upd H z (.cells [a])) z = some (.cells [a]) := by simp [upd_apply]
  have hT := h.sub hS
  have ha2 := Rw.sub ha hS
  have hback : ∀ out cs n Hs, Row (upd H z (.cells [a])) Hs out cs n 1 → ∃ H1, Sub H1 Hs ∧ Row H H1 out cs n 1 := fun out cs n Hs hr => hr.out hS
  simp
  generalize upd H z (.cells [a]) = H2 at *
  refine c27 hT ?_
  simp [hzz]
  refine c28 hT ha2 hl ?_
  simp
  obtain ⟨b, hb⟩ := hT.tri.nd_some (was_dom h.acc w)
  have hbn := hT.tri.node _ b hb
  cases e2 : mp (was S w) with
  | none =>
    rw [e2] at hbn
    have hp : pend S w = [] := (pend_eq .nil fun k => by simpa using hT.tri.leaf _ e2 k).symm.trans (by simp)
    rw [hp] at hk
    simp [hb, hbn]
    refine newK_of fun it hit => ?_
    simp
    refine wpc_loop (fun s => s.n = 34 ∧ s.H = upd H2 it .itn ∧ s.t 7 = vnil ∧ s.t 22 = pA it) (fun s => 0) ?_ ?_
    · exact FgK.same ⟨by simp, by simp, by simp, by simp⟩
    rintro s ⟨hn, hH, e7, e22⟩
    simp [*]
    refine AC_of (sort_nil Try.slices_Sort_int_none ?_)
    simp
    exact ⟨H, hS.trans ((Sub.refl H2).upd hit), hk vnil H (Row.nil H 1)⟩
  | some m =>
    rw [e2] at hbn
    obtain ⟨ks, st, cl, h5, hstp, hnd, h8⟩ := hT.tri.kids _ m e2
    have hpe := pend_eq hnd h8
    have hlen : ks.length ≤ 1000000 := by
      have h6 := pend_len S w
      rw [← hpe, List.length_mergeSort] at h6
      omega
    simp [hb, hbn, h5]
    refine newK_of fun it hit => ?_
    have hmi : m ≠ it := ne_of_free h5 hit
    simp
    refine wpc_loop (fun s => ∃ (seen : List Nat) (out : AV) (l : List Int) (Hs : AH), s.n = 34 ∧ s.H = Hs ∧ s.t 7 = out ∧ s.t 22 = pA it ∧ Row (upd H2 it (.it m cl cl seen)) Hs out (l.map vi) l.length 1 ∧ l.Perm (vis (fun _ => true) ks st seen))
      (fun s => left st (slotSn s.H it)) ?_ ?_
    · refine FgK.same ⟨[], vnil, [], _, rfl, rfl, by simp, by simp, Row.nil _ 1, ?_⟩
      rw [vis_nil]
    rintro s ⟨seen, out, l, Hs, hn, hH, e7, e22, hrow, hperm⟩
    have hsub := hrow.sub
    have hHi : Hs it = some (.it m cl cl seen) := hsub _ _ (by simp [upd_apply])
    have hHm := hsub m _ (by simp only [upd_apply, if_neg hmi]; exact h5)
    have hms : left st (slotSn s.H it) = left st seen := by rw [hH, slotSn_of hHi]
    simp [*]
    refine nextK_of hstp.2.2 (Nat.le_refl _) (fun hall => ?_) (fun j e s1 hj hs1 hns => ?_)
    · -- all were shown
      have hp2 : l.Perm ks := by
        have := vis_all (fun _ => true) ks st seen hstp.1.symm hall
        rw [List.filter_eq_self.2 (by simp)] at this
        rw [← this]; exact hperm
      have hl2 : (l.mergeSort fun x y => decide (x ≤ y)) = pend S w := pend_eq (hp2.nodup_iff.2 hnd) fun k => by rw [hp2.mem_iff]; exact h8 k
      rcases hrow with ⟨f1, f2, rfl, rfl⟩ | ⟨q, rfl, hq, rfl⟩
      · obtain rfl : l = [] := by simpa using f2
        have hp0 : pend S w = [] := hl2.symm.trans (by simp)
        rw [hp0] at hk
        simp [*]
        refine AC_of (sort_nil Try.slices_Sort_int_none ?_)
        simp
        exact ⟨H, hS.trans ((Sub.refl H2).upd hit), hk vnil H (Row.nil H 1)⟩
      · simp [*]
        obtain ⟨_, _, hq2⟩ := upd_none'.1 hq
        have hll := hp2.length_eq
        refine AC_of (sort_row (enc := Value.int .i64) (b := q) (pre := []) (post := []) (zs := l) (fun blk off cap zs w => Try.slices_Sort_int blk off cap zs w) (by simp [upd_apply, rowC]) (by omega) ?_)
        simp
        have hq0 : H q = none := hS.none_of hq2
        refine ⟨upd H q (.cells ((l.mergeSort fun x y => decide (x ≤ y)).map vi)), ?_, ?_⟩
        · intro j o hj
          simp only [upd_apply, rowC, List.nil_append, List.append_nil] at hj ⊢
          split
          · rename_i e; rw [if_pos e] at hj; exact hj
          · rename_i e
            rw [if_neg e] at hj
            have h9 := hS j o hj
            rw [if_neg (by rintro rfl; rw [hit] at h9; cases h9)]
            exact h9
        · refine hk _ _ ?_
          rw [← hl2]
          simpa using Row.mk (cs := (l.mergeSort fun x y => decide (x ≤ y)).map vi) (n := l.length) (sz := 1) hq0
    · -- one more
      obtain ⟨x, hx, rfl⟩ : ∃ x, ks[j]? = some x ∧ e = (.int .i64 x, pO (nd (was S w ++ [x]))) := by
        simp only [mI, List.getElem?_map, Option.map_eq_some_iff] at hj
        obtain ⟨x, h3, h4⟩ := hj
        exact ⟨x, h3, h4.symm⟩
      have he := entF_of (mI id (fun k => pO (nd (was S w ++ [k]))) ks) st j _ s1 hstp.2.1 hj hs1
      have hst := vis_step (fun _ => true) ks st seen j x s1 hstp.2.1 hx hs1 hns
      have hrow2 := hrow.turn (X' := .it m cl cl (s1 :: seen))
      have hlt := left_lt (List.mem_of_getElem? hs1) hns
      have hll : l.length ≤ ks.length := by
        have h3 := hperm.length_eq
        have h4 := (vis_sub (fun _ => true) ks st seen)
        omega
      simp [*]
      refine newK_of fun y hy => ?_
      have hsy := (Sub.refl _).upd hy (o := .cells [vi x])
      simp [*]
      refine hrow2.app (by exact hsy) (by decide) rfl (by simp) (by omega) fun q H' hq hsq => ?_
      simp [*]
      refine FgK.of _ hsq ⟨⟨s1 :: seen, .sl q 0 (l.length + 1) 1 false, l ++ [x], _, by simp [*], rfl, by simp [*], by simp [*], ?_, ?_⟩, ?_⟩
      · have := Row.mk (cs := l.map vi ++ [vi x]) (n := l.length + 1) (sz := 1) hq
        simpa using this
      · have h5 := hst.symm
        simp only [if_true] at h5
        exact (hperm.append_right _).trans h5
      · have hqi : q ≠ it := by rintro rfl; simp [upd_apply] at hq
        rw [slotSn_of (m := m) (since := cl) (last := cl) (seen := s1 :: seen) (by simp [upd_apply, Ne.symm hqi]), hms]; exact hlt
end Go.Proofs.Ytbdcnoahalknkaa
