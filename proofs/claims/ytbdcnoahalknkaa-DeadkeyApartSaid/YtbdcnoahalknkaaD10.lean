/-
  The reference's New, walked. Conditions: as each lemma states them.
-/
import Derived.Test.YtbdcnoahalknkaaD9
namespace Go.Proofs.Ytbdcnoahalknkaa
open Go Go.Ab Go.RowKit
set_option linter.unusedSimpArgs false
set_option linter.unusedVariables false
set_option linter.unnecessarySimpa false

attribute [local simp] condK_true condK_false condK_not wpc_skip wpc_ret wpc_exit wpc_seq wpc_reg wpc_regD testA_bool wpc_cond wpc_block thenA_normal thenA_ret thenA_exit blockA_normal blockA_ret blockA_exit blockA_other endA_normal endA_ret ev_tmp' ev_const ev_func ev_global cv_int cv_bool cv_string cv_pointer cv_slice cv_agg cv_map put_some put_none wH_s setE_apply setE_env less_eq env_cons env_nil upd_upd upd_apply del_apply startA_eq cells_ag cells_sl one_sl cells_vs one_vs cells_ep one_ep cells_fn one_fn cells_int one_int cells_bool one_bool cells_string one_string cells_pointer one_pointer cells_slice one_slice cells_map one_map cells_agg resK_one resK_nil resK_two rvK_t rvK_c rvsK_nil rvsK_cons iseq_nil iseq_cons gdA_true gdA_false gdA_undef istep_free istep_guard istepV_free istepV_guard dseq_nil dseq_pu dseq_rd dseq_ef wpc_regT dtree_nil dtree_pu dtree_rd dtree_ef dtree_br chkAll_nil chkAll_cons andK_true pickK_true pickK_false pickK_tb pickK_fb bin2K_pl eqbK_eq eqbK_ne eqpK_eq eqpK_ne eqmK_eq eqmK_ne eqzK_eq eqzK_ne eqzK_sl eqzK_vs un1K_pl convK_int fillK_some fillA_cons fillA_nil cellsK_some needK_true needK_ok seeK_ep seeK_ptr oneK_agg oneK_one nilcK_ptr nilcK_ep fadrK_ptr fadrK_ep fldK_ag iadAK_ptr iadAK_ep iadSK_sl iadSK_vs extK_0 extK_1 extK_2 extK_3 lenK_pl lenK_sl lenK_vs lensK_pl boxK_some minmax1K_int storeK_ptr callvK_fn callvK_pl newsK_nil newsK_vs newsK_sl appK_nil appK_nil0 appK_sl appK_vs bnd1K_int bndK_none bndK_some slsK_vs slsK_nil slsK_sl0 slsK_sl slstrK_pl boolK_some eqsK_ag iop_eqs iop_sls iop_slstr seesK_some seesK_ro mapsK_some MAP_some findK_some findK_none plK_pl nmapK_none nmapK_some iop_mlook iop_mlen iop_mmk iop_mupd iop_mdel iop_mrng itK_none itK_some ptr0K_ptr iop_mnxt iop_ment it1K_some entK_some iop_mov iop_pick iop_bin iop_eqb iop_eqp iop_eqm iop_eqz iop_un iop_conv iop_build iop_load iop_nilc iop_fadr iop_fld iop_iadA iop_iadS iop_ext iop_mkf iop_len iop_lens iop_minmax iop_al iop_box iop_bsl iop_store iop_call iop_callv iop_app BIN_add BIN_sub BIN_mul BIN_and BIN_or BIN_xor BIN_andNot BIN_eql BIN_neq BIN_lss BIN_leq BIN_gtr BIN_geq BIN_quo BIN_rem BIN_shl BIN_shr BIN_sadd BIN_seql BIN_sneq BIN_slss BIN_sleq BIN_sgtr BIN_sgeq UN_neg UN_xor UN_not MM_nil MM_cons partsA argsA ptrA lessL eqL min2I slotN_int slotP_int slotI_int

theorem upd_comm {H : AH} {j k : Nat} {a b : AO} (h : j ≠ k) : upd (upd H j a) k b = upd (upd H k b) j a := by
  funext i; simp only [upd_apply]
  by_cases e1 : i = k <;> by_cases e2 : i = j
  · exact absurd (e2.symm.trans e1) h
  · simp [e1, Ne.symm h]
  · simp [e2, h]
  · simp [e1, e2]
theorem row_beside {H0 H : AH} {out : AV} {cs : List AV} {n sz : Nat} (h : Row H0 H out cs n sz) {r : Nat} (hr : H r = none) (X : AO) : Row (upd H0 r X) (upd H r X) out cs n sz := by
  rcases h with ⟨h1, h2, h3, rfl⟩ | ⟨q, h1, hq, rfl⟩
  · exact .inl ⟨h1, h2, h3, rfl⟩
  · have hne : q ≠ r := by rintro rfl; simp [upd_apply] at hr
    refine .inr ⟨q, h1, ?_, upd_comm hne⟩
    simp only [upd_apply, if_neg hne]; exact hq
theorem sub_tri {B H : AH} {z y : Nat} {Z Y : AO} (h : Sub (upd (upd B z Z) y Y) H) (hz : B z = none) (hy : B y = none) (hzy : z ≠ y) : Sub B H ∧ H z = some Z ∧ H y = some Y := by
  refine ⟨fun j o hj => h j o ?_, h z _ ?_, h y _ ?_⟩
  · have h1 : j ≠ z := by rintro rfl; rw [hz] at hj; cases hj
    have h2 : j ≠ y := by rintro rfl; rw [hy] at hj; cases hj
    simp only [upd_apply, if_neg h1, if_neg h2]; exact hj
  · simp only [upd_apply, if_neg hzy, if_true]
  · simp only [upd_apply, if_true]
theorem clash_no {S : List Sq} {s : Sq} (h : ∀ t ∈ S, t.ks.isPrefixOf s.ks = false ∧ s.ks.isPrefixOf t.ks = false) : clash S s = false := by
  unfold clash
  rw [List.any_eq_false]
  intro t ht
  rw [(h t ht).1, (h t ht).2]; simp
theorem c14 {H : AH} {K : AV → AH → Prop} {a : AV} {L : List (AV × Sq)} (ha : Sr H a L) (hl : ∀ x ∈ L, x.2.ks.length ≤ maxLen) (hL : L.length ≤ maxLen) (hk1 : newT (sqs L) ≠ 0 → K (.tp [.ag [vb false, vnil], vi (newT (sqs L))]) H)
    (hk2 : newT (sqs L) = 0 → ∀ H' all L', Sub H H' → Sr H' all L' → sqs L' = sqs L → K (.tp [.ag [vb true, all], vi 0]) H') : @AC Try.prog 14 [a] H ⟨K⟩ := by
  have la := fun k => ha.row.lenK (k := k)
  refine AC_of (.forget ?_)
  refine call_c follows cf14_ok (by simp) ?_
  simp
  refine newK_of fun z hz => ?_
  by_cases c1 : 256 < L.length
  · have hT : newT (sqs L) = 5 := by unfold newT; rw [if_pos (by rw [sqs_len]; exact c1)]
    have := hk1 (by rw [hT]; decide)
    rw [hT] at this
    have c1' : (256 : Int) < L.length := by omega
    simp [la, c1']
    exact ⟨H, (Sub.refl H).upd hz, this⟩
  have hT : newT (sqs L) = newE [] (sqs L) := by unfold newT; rw [if_neg (by rw [sqs_len]; exact c1)]
  rw [hT] at hk1 hk2
  have c1' : ¬ (256 : Int) < L.length := by omega
  simp [la, c1']
  refine newK_of fun y hy => ?_
  obtain ⟨n1, n2, hyH⟩ := upd_none'.1 hy
  simp
  refine wpc_loop (fun s => ∃ (i : Nat) (B : AH) (out : AV) (L' : List (AV × Sq)), s.n = 77 ∧ s.t 0 = a ∧ s.t 2 = pA z ∧ s.t 4 = pA y ∧ s.t 5 = vi i ∧ i ≤ L.length ∧ Row (upd (upd B z (.cells [vb false, vnil])) y (.cells [vb true, out])) s.H out (flat sqc L') L'.length 2 ∧
    B z = none ∧ B y = none ∧ Sub H B ∧ (∀ x ∈ L', Ri B x.1 x.2.ks) ∧ sqs L' = sqs (L.take i) ∧ Acc (sqs (L.take i)) ∧ newE (sqs (L.take i)) (sqs (L.drop i)) = newE [] (sqs L)) (fun s => L.length - slotN (s.t 5)) ?_ ?_
  · exact FgK.same ⟨0, H, vnil, [], by simp, by simp, by simp, by simp, by simp, by omega, by rw [flat_nil]; exact Row.nil _ 2, hz, hyH, Sub.refl H, by simp, by simp [sqs], by simpa [sqs] using Acc.nil, by simp [sqs]⟩
  rintro s ⟨i, B, out, L', hn, e0, e2, e4, e5, hi, hrow, hBz, hBy, hSB, hkeys, hsq, hA, hE⟩
  have hsub := hrow.sub
  obtain ⟨hSs, hzz, hyy⟩ := sub_tri hsub hBz hBy n2
  have oo := hrow.one
  have hHs := hSB.trans hSs
  have ha2 := ha.sub hHs
  have la2 := fun k => ha2.row.lenK (k := k)
  generalize hHeq : s.H = Hs at *
  by_cases hlt : i < L.length
  · have wr := IntWalk.i64_in ((i : Int) + 1) (by omega)
    obtain ⟨p, q0, q1, hp, hq0, hq1, s0, s1, s2⟩ := ha2.at hlt
    have hkey := ha2.key _ (List.getElem_mem hlt)
    have hkl := hl _ (List.getElem_mem hlt)
    have hst := sqs_take L i hlt
    have hat := newE_at L i hlt
    rw [hE] at hat
    have hmem : L[i] ∈ L := List.getElem_mem hlt
    generalize L[i] = xx at *
    obtain ⟨ax, sx⟩ := xx
    simp only at hkey hst s0 s1 s2 hat hkl
    have ox := hkey.one
    have cx := hkey.cells
    simp (disch := omega) [hn, hHeq, e0, e2, e4, e5, la, hlt, hp, s0 _ (Sub.refl _)]
    refine c25 sx hkey hkl ?_
    by_cases c2 : chk sx = 0
    · have hck := chk_ok c2
      rw [c2]
      simp
      refine wpc_loop (fun s' => ∃ k : Nat, s'.n = 77 ∧ s'.H = Hs ∧ s'.t 0 = a ∧ s'.t 2 = pA z ∧ s'.t 4 = pA y ∧ s'.t 5 = vi i ∧ s'.t 7 = vi k ∧ k ≤ i ∧ ∀ t ∈ sqs (L.take k), t.ks.isPrefixOf sx.ks = false ∧ sx.ks.isPrefixOf t.ks = false) (fun s' => i - slotN (s'.t 7)) ?_ ?_
      · exact FgK.same ⟨0, by simp, by simp, by simp, by simp, by simp, by simp, by simp, by omega, by simp [sqs]⟩
      rintro s' ⟨k, gn, gH, g0, g2, g4, g5, g7, hki, hno⟩
      by_cases hkt : k < i
      · have wr' := IntWalk.i64_in ((k : Int) + 1) (by omega)
        have hkL : k < L.length := by omega
        obtain ⟨p', q0', q1', hp', hq0', hq1', s0', s1', s2'⟩ := ha2.at hkL
        have hkey' := ha2.key _ (List.getElem_mem hkL)
        have hkl' := hl _ (List.getElem_mem hkL)
        have hst' := sqs_take L k hkL
        have hmem' : L[k].2 ∈ sqs (L.take i) := List.mem_map_of_mem (by
          rw [List.mem_take_iff_getElem]
          exact ⟨k, by omega, rfl⟩)
        generalize L[k] = xk at *
        obtain ⟨ak, sk⟩ := xk
        simp only at hkey' hst' s0' s1' s2' hkl' hmem'
        have okk := hkey'.one
        simp (disch := omega) [gn, gH, g0, g2, g4, g5, g7, hkt, hp', hq0', s1' _ (Sub.refl _), hp, hq0, s1 _ (Sub.refl _)]
        refine c26 hkey' hkey hkl' ?_
        cases c3 : sk.ks.isPrefixOf sx.ks with
        | true =>
          have hcl : clash (sqs (L.take i)) sx = true := clash_iff.2 ⟨sk, hmem', .inl (List.isPrefixOf_iff_prefix.1 c3)⟩
          have h7 : newE [] (sqs L) = 7 := by rw [hat, newE_clash c2 hcl]
          rw [h7] at hk1
          simp [hzz]
          exact ⟨H, hHs.upd hz, hk1 (by decide)⟩
        | false =>
          simp (disch := omega) [gH, hp', hq0', s1' _ (Sub.refl _), hp, hq0, s1 _ (Sub.refl _)]
          refine c26 hkey hkey' hkl ?_
          cases c4 : sx.ks.isPrefixOf sk.ks with
          | true =>
            have hcl : clash (sqs (L.take i)) sx = true := clash_iff.2 ⟨sk, hmem', .inr (List.isPrefixOf_iff_prefix.1 c4)⟩
            have h7 : newE [] (sqs L) = 7 := by rw [hat, newE_clash c2 hcl]
            rw [h7] at hk1
            simp [hzz]
            exact ⟨H, hHs.upd hz, hk1 (by decide)⟩
          | false =>
            simp (disch := omega) [wr']
            refine FgK.same ⟨⟨k + 1, by simp, by simp, by simp, by simp, by simp, by simp, by simp, by omega, fun t hm => ?_⟩, by simp [g7]; omega⟩
            rw [hst'] at hm
            rcases List.mem_append.1 hm with hm | hm
            · exact hno t hm
            · obtain rfl := List.mem_singleton.1 hm; exact ⟨c3, c4⟩
      · obtain rfl : k = i := by omega
        have hcl := clash_no hno
        have hLl : L'.length = k := by
          have := congrArg List.length hsq
          rw [sqs_len, sqs_len, List.length_take] at this
          omega
        simp (disch := omega) [gn, gH, g0, g2, g4, g5, g7, hp, hq0, hq1, s1 _ (Sub.refl _), s2 _ (Sub.refl _), hyy]
        refine newK_of fun b0 hb0 => ?_
        have nb0 := free_ne hb0 y (by simp [hyy])
        have hsb0 : Sub Hs (upd Hs b0 (.cells [])) := (Sub.refl Hs).upd hb0
        generalize hx1 : AV.sl b0 0 0 1 true = x1
        simp [s1 _ hsb0, s2 _ hsb0, nb0, hyy]
        rw [Ri.news (hkey.sub hsb0), ← hx1]
        refine sl_app hb0 (Sub.refl _) (by simp) (by simp) (by omega) fun r1 H1 hr1 hs1 => ?_
        rw [List.nil_append] at hs1
        have hrow2 := row_beside hrow hr1 (.cells (sx.ks.map vi))
        have nz1 : z ≠ r1 := ne_of_free hzz hr1
        have ny1 : y ≠ r1 := ne_of_free hyy hr1
        rw [upd_comm ny1, upd_comm nz1] at hrow2
        have hHs1 : Sub Hs (upd Hs r1 (.cells (sx.ks.map vi))) := (Sub.refl Hs).upd hr1
        have hs01 := hHs1.trans hs1
        have hBr1 : B r1 = none := hSs.none_of hr1
        have hkr : Ri (upd B r1 (.cells (sx.ks.map vi))) (.sl r1 0 (0 + sx.ks.length) 1 false) sx.ks := by
          rw [Nat.zero_add]
          exact Rw.sl (by simp) (by simp [upd_apply])
        have okr := hkr.one
        have ckr := hkr.cells
        generalize hkx : AV.sl r1 0 (0 + sx.ks.length) 1 false = kx at *
        simp [s2 _ hs01, hs01.at hyy, okr, ckr]
        refine newK_of fun b2 hb2 => ?_
        have hs12 : Sub Hs (upd H1 b2 (.cells [kx, vs8 sx.r])) := hs01.trans ((Sub.refl H1).upd hb2)
        have hs13 : Sub (upd Hs r1 (.cells (sx.ks.map vi))) (upd H1 b2 (.cells [kx, vs8 sx.r])) := hs1.trans ((Sub.refl H1).upd hb2)
        generalize hx4 : AV.sl b2 0 1 2 true = x4
        have hnw : ∀ k : Nat → List AV → Prop, @NEWS (upd H1 b2 (.cells [kx, vs8 sx.r])) x4 2 ⟨k⟩ = k 1 [kx, vs8 sx.r] := by intro k; rw [← hx4]; simp
        have hy1 := hs01.at hyy
        have nb2 := free_ne hb2 y (by simp [hy1])
        simp [hy1, nb2, hnw, okr, ckr]
        refine hrow2.app hs13 (by decide) (by simp [okr]) (flat_len sqc_len L') (by omega) fun r2 H2 hr2 hs2 => ?_
        obtain ⟨t1, t2, t3, t4, t5, t6⟩ := sub_turn hr2 hs2 (.cells [vb true, .sl r2 0 (L'.length + 1) 2 false])
        simp (disch := omega) [t1, wr]
        refine FgK.of _ t3 ⟨⟨k + 1, upd B r1 (.cells (sx.ks.map vi)), .sl r2 0 (L'.length + 1) 2 false, L' ++ [(kx, sx)], by simp, by simp [g0], by simp [g2], by simp [g4], by simp, by omega, ?_, ?_, ?_, ?_, ?_, ?_, ?_, ?_⟩, by simp [e5]; omega⟩
        · have := Row.mk (cs := flat sqc (L' ++ [(kx, sx)])) (n := L'.length + 1) (sz := 2) t2
          rw [← flat_snoc, show sqc (kx, sx) = [kx, vs8 sx.r] from rfl] at this ⊢
          simpa using this
        · simp only [upd_apply, if_neg nz1]; exact hBz
        · simp only [upd_apply, if_neg ny1]; exact hBy
        · exact hSB.upd (hHs.none_of hr1)
        · intro x hx
          rcases List.mem_append.1 hx with hx | hx
          · exact (hkeys x hx).sub ((Sub.refl B).upd hBr1)
          · obtain rfl := List.mem_singleton.1 hx; exact hkr
        · rw [hst, ← hsq]; simp [sqs]
        · rw [hst]; exact hA.push c2 hcl
        · rw [hst, hat, newE_step c2 hcl]
    · have h7 : newE [] (sqs L) = chk sx := by rw [hat, newE_chk c2]
      rw [h7] at hk1
      simp [c2, hzz]
      exact ⟨H, hHs.upd hz, hk1 c2⟩
  · rw [List.drop_of_length_le (by omega)] at hE
    have hz0 : newE [] (sqs L) = 0 := by rw [← hE]; rfl
    rw [List.take_of_length_le (by omega)] at hsq
    have hBU : Sub B (upd (upd B z (.cells [vb false, vnil])) y (.cells [vb true, out])) := ((Sub.refl B).upd hBz).upd hBy
    obtain ⟨H1, k1, k2⟩ := hrow.out2 (H := B) hBU hBz (y := z) (o := .cells [vb false, vnil]) (by rw [upd_apply, if_neg n2, upd_apply, if_pos rfl]) (.cells [vb true, out])
    simp (disch := omega) [hn, hHeq, e0, e2, e4, e5, la, hlt, hyy, hzz, oo]
    exact ⟨H1, k1, hk2 hz0 H1 out L' (hSB.trans k2.sub) ⟨(k2.rin (flat_len sqc_len L')).rd, fun x hx => (hkeys x hx).sub k2.sub⟩ hsq⟩
end Go.Proofs.Ytbdcnoahalknkaa
