/-
  Several texts in one: C11; C12; C33; C34; C35. Conditions: as each lemma states them.
-/
import Derived.Test.YtkjkolacnpknoaaGreatMC
import Derived.Test.YtkjkolacnpknoaaGreatMW
import Derived.Test.YtkjkolacnpknoaaGreatMD
/-! The reference's Runs, walked. Conditions: as each lemma states them. -/
section
namespace Go.Proofs.YtkjkolacnpknoaaGreat
open Go Go.Ab Go.RowKit
set_option linter.unusedSimpArgs false
set_option linter.unusedVariables false
set_option linter.unnecessarySimpa false

attribute [local simp] condK_true condK_false condK_not wpc_skip wpc_ret wpc_exit wpc_seq wpc_reg wpc_regD testA_bool wpc_cond wpc_block thenA_normal thenA_ret thenA_exit blockA_normal blockA_ret blockA_exit blockA_other endA_normal endA_ret ev_tmp' ev_const ev_func ev_global cv_int cv_bool cv_string cv_pointer cv_slice cv_agg cv_map put_some put_none wH_s setE_apply setE_env less_eq env_cons env_nil upd_upd upd_apply del_apply startA_eq cells_ag cells_sl one_sl cells_vs one_vs cells_ep one_ep cells_fn one_fn cells_int one_int cells_bool one_bool cells_string one_string cells_pointer one_pointer cells_slice one_slice cells_map one_map cells_agg resK_one resK_nil resK_two rvK_t rvK_c rvsK_nil rvsK_cons iseq_nil iseq_cons gdA_true gdA_false gdA_undef istep_free istep_guard istepV_free istepV_guard dseq_nil dseq_pu dseq_rd dseq_ef wpc_regT dtree_nil dtree_pu dtree_rd dtree_ef dtree_br chkAll_nil chkAll_cons andK_true pickK_true pickK_false pickK_tb pickK_fb bin2K_pl eqbK_eq eqbK_ne eqpK_eq eqpK_ne eqmK_eq eqmK_ne eqzK_eq eqzK_ne eqzK_sl eqzK_vs un1K_pl convK_int fillK_some fillA_cons fillA_nil cellsK_some needK_true needK_ok seeK_ep seeK_ptr oneK_agg oneK_one nilcK_ptr nilcK_ep fadrK_ptr fadrK_ep fldK_ag iadAK_ptr iadAK_ep iadSK_sl iadSK_vs extK_0 extK_1 extK_2 extK_3 lenK_pl lenK_sl lenK_vs lensK_pl boxK_some minmax1K_int storeK_ptr callvK_fn callvK_pl newsK_nil newsK_vs newsK_sl appK_nil appK_nil0 appK_sl appK_vs bnd1K_int bndK_none bndK_some slsK_vs slsK_nil slsK_sl0 slsK_sl slstrK_pl boolK_some eqsK_ag iop_eqs iop_sls iop_slstr seesK_some seesK_ro mapsK_some MAP_some findK_some findK_none plK_pl nmapK_none nmapK_some iop_mlook iop_mlen iop_mmk iop_mupd iop_mdel iop_mrng itK_none itK_some ptr0K_ptr iop_mnxt iop_ment it1K_some entK_some iop_mov iop_pick iop_bin iop_eqb iop_eqp iop_eqm iop_eqz iop_un capK_pl capK_sl capK_vs iop_cap iop_b2s b2sK_nil b2sK_sl b2sK_vs strK_some iop_idxv idxvK_ag atK_some apzK_nil iop_apz mksK_int iop_mks clrK_sl clrK_vs clrK_nil iop_clr iop_conv iop_build iop_load iop_nilc iop_fadr iop_fld iop_iadA iop_iadS iop_ext iop_mkf iop_len iop_lens iop_minmax iop_al iop_box iop_bsl iop_store iop_call iop_callv iop_app BIN_add BIN_sub BIN_mul BIN_and BIN_or BIN_xor BIN_andNot BIN_eql BIN_neq BIN_lss BIN_leq BIN_gtr BIN_geq BIN_quo BIN_rem BIN_shl BIN_shr BIN_sadd BIN_seql BIN_sneq BIN_slss BIN_sleq BIN_sgtr BIN_sgeq UN_neg UN_xor UN_not MM_nil MM_cons partsA argsA ptrA lessL eqL min2I slotN_int slotP_int slotI_int
attribute [local simp] fd8 m8 sh8 or_nf xor_nf

theorem c36 {H : AH} {K : AV → AH → Prop} {a : AV} {l : List Int} (ha : Rw H a (l.map v32) l.length 1) (hl : l.length ≤ 1000000) (hu : ∀ x ∈ l, U32 x)
    (hk : ∀ out H', Row H H' out ((encR (runsF l)).map v8) (encR (runsF l)).length 1 → K out H') : @AC Tryz.prog 36 [a] H ⟨K⟩ := by
  have la := fun k => Rw.lenK ha (k := k)
  refine AC_of (.forget ?_)
  refine call_c follows cf36_ok (by simp) ?_
  simp
  refine wpc_loop (fun s => ∃ (i : Nat) (o : AV) (done : List (Nat × Int)), s.n = 70 ∧ s.t 0 = a ∧ s.t 3 = o ∧ s.t 4 = vi i ∧ i ≤ l.length ∧ done.length ≤ i ∧ runsF l = done ++ runsF (l.drop i) ∧ Row H s.H o ((encR done).map v8) (encR done).length 1) (fun s => l.length - slotN (s.t 4)) ?_ ?_
  · exact FgK.same ⟨0, vnil, [], by simp, by simp, by simp, by simp, by omega, by simp, by simp, by simpa [encR] using Row.nil H 1⟩
  rintro s ⟨i, o, done, hg, e0, e3, e4, hi, hdl, hd, hrow⟩
  generalize hHeq : s.H = Hs at *
  by_cases hlt : i < l.length
  · have hlt' : (i : Int) < l.length := by omega
    simp (disch := omega) [hg, hHeq, e0, e3, e4, la, hlt']
    have hrl := rlen_le l[i] (l.drop (i + 1)) 254
    rw [List.length_drop] at hrl
    have hHs := hrow.sub
    obtain ⟨p, hp1, hp2⟩ := Rw.at1 ha hlt
    have hdr : l.drop i = l[i] :: l.drop (i + 1) := List.drop_eq_getElem_cons hlt
    have hstop := rlen_stop l[i] (l.drop (i + 1)) 254
    have htake := rlen_take l[i] (l.drop (i + 1)) 254
    have hruns : runsF (l.drop i) = (rlen l[i] (l.drop (i + 1)) 254 + 1, l[i]) :: runsF (l.drop (i + (rlen l[i] (l.drop (i + 1)) 254 + 1))) := by
      have e : i + (rlen l[i] (l.drop (i + 1)) 254 + 1) = (i + 1) + rlen l[i] (l.drop (i + 1)) 254 := by omega
      rw [e, hdr]
      generalize l[i] = x
      conv => lhs; unfold runsF
      rw [List.drop_drop]
    generalize hm : rlen l[i] (l.drop (i + 1)) 254 = m at *
    have hux := hu _ (List.getElem_mem hlt)
    generalize hx : l[i] = x at *
    refine wpc_loop (fun s2 => ∃ (j : Nat), s2.n = 70 ∧ s2.H = Hs ∧ s2.t 0 = a ∧ s2.t 3 = o ∧ s2.t 4 = vi i ∧ s2.t 5 = vi ((j : Int) + 1) ∧ j ≤ m) (fun s2 => 300 - slotN (s2.t 5)) ?_ ?_
    · exact FgK.same ⟨0, by simp [hg], by simp [hHeq], by simp [e0], by simp [e3], by simp [e4], by simp, by omega⟩
    rintro s2 ⟨j, hg2, hH2, f0, f3, f4, f5, hj⟩
    have w1 := IntWalk.i64_in ((i : Int) + ((j : Int) + 1)) (by omega)
    have w2 := IntWalk.i64_in ((j : Int) + 1 + 1) (by omega)
    by_cases hjm : j < m
    · -- one more
      have hin : i + (j + 1) < l.length := by omega
      have hin' : (i : Int) + ((j : Int) + 1) < l.length := by omega
      have h255 : (j : Int) + 1 < 255 := by omega
      obtain ⟨q, hq1, hq2⟩ := Rw.at1 (ha.sub hrow.sub) hin
      have hq1 : ∀ k : AV → Prop, @iadSK 1 a (vi ((i : Int) + ((j : Int) + 1))) ⟨k⟩ = k q := fun k => by have := hq1 k; push_cast at this; exact this
      have hjx : l[i + (j + 1)] = x := by
        have h1 : (l.drop (i + 1))[j]? = some x := by
          have := congrArg (·[j]?) htake
          simp only [List.getElem?_take] at this
          rw [if_pos hjm, List.getElem?_replicate, if_pos hjm] at this
          exact this
        rw [List.getElem?_drop, List.getElem?_eq_some_iff] at h1
        obtain ⟨_, h1⟩ := h1
        rw [← h1]
        congr 1; omega
      rw [hjx] at hq2
      simp (disch := omega) [hg2, hH2, f0, f3, f4, f5, la, w1, hin', h255, hp1, hp2 _ hHs, hq1, hq2 _ (Sub.refl _), w2]
      exact FgK.same ⟨⟨j + 1, by simp [hg2], by simp [hH2], by simp [f0], by simp [f3], by simp [f4], by simp, by omega⟩, by simp [f5]; omega⟩
    · have hje : j = m := by omega
      subst hje
      unfold U32 at hux
      have t1 : Int.tmod x 256 = x % 256 := Int.tmod_eq_emod_of_nonneg hux.1
      have t2 : IntKind.u32.wrap (Int.tdiv x 256) = x / 256 := by rw [Int.tdiv_eq_ediv_of_nonneg hux.1]; exact u32_wrap ⟨by omega, by omega⟩
      have t3 : IntKind.u32.wrap (Int.tdiv x 65536) = x / 65536 := by rw [Int.tdiv_eq_ediv_of_nonneg hux.1]; exact u32_wrap ⟨by omega, by omega⟩
      have t4 : IntKind.u32.wrap (Int.tdiv x 16777216) = x / 16777216 := by rw [Int.tdiv_eq_ediv_of_nonneg hux.1]; exact u32_wrap ⟨by omega, by omega⟩
      have t5 : Int.tmod (x / 256) 256 = x / 256 % 256 := Int.tmod_eq_emod_of_nonneg (by omega)
      have t6 : Int.tmod (x / 65536) 256 = x / 65536 % 256 := Int.tmod_eq_emod_of_nonneg (by omega)
      have hm8 : ((j : Int) + 1) % 256 = j + 1 := Int.emod_eq_of_lt (by omega) (by omega)
      have wv := IntWalk.i64_in ((i : Int) + ((j : Int) + 1)) (by omega)
      have hcase : ¬ (i : Int) + ((j : Int) + 1) < l.length ∨ ((i : Int) + ((j : Int) + 1) < l.length ∧ ¬ (j : Int) + 1 < 255) ∨ ((i : Int) + ((j : Int) + 1) < l.length ∧ (j : Int) + 1 < 255) := by omega
      rcases hcase with c1 | ⟨c1, c2⟩ | ⟨c1, c2⟩
      case' inl => simp (disch := omega) [hg2, hH2, f0, f3, f4, f5, la, w1, c1, hm8, hp1, hp2 _ hHs, t1, t2, t3, t4, t5, t6]
      case' inr.inl => simp (disch := omega) [hg2, hH2, f0, f3, f4, f5, la, w1, c1, c2, hm8, hp1, hp2 _ hHs, t1, t2, t3, t4, t5, t6]
      case' inr.inr =>
        have hin : i + (j + 1) < l.length := by omega
        obtain ⟨q, hq1, hq2⟩ := Rw.at1 (ha.sub hrow.sub) hin
        have hq1 : ∀ k : AV → Prop, @iadSK 1 a (vi ((i : Int) + ((j : Int) + 1))) ⟨k⟩ = k q := fun k => by have := hq1 k; push_cast at this; exact this
        have hjx : ¬ l[i + (j + 1)] = x := by
          refine hstop (by omega) _ ?_
          rw [List.getElem?_drop]
          exact List.getElem?_eq_some_iff.2 ⟨by omega, by congr 1; omega⟩
        generalize l[i + (j + 1)] = y at *
        simp (disch := omega) [hg2, hH2, f0, f3, f4, f5, la, w1, c1, c2, hp1, hp2 _ hHs, hq1, hq2 _ (Sub.refl _), hjx, hm8, t1, t2, t3, t4, t5, t6]
      all_goals
        refine newK_of fun y hy => ?_
        have hb4 : [v8 ((j : Int) + 1), v8 (x % 256), v8 (x / 256 % 256), v8 (x / 65536 % 256), v8 (x / 16777216 % 256)] = v8 ((j : Int) + 1) :: (b4 x).map v8 := rfl
        rw [hb4]
        have hsy : Sub Hs (upd Hs y (.cells (v8 ((j : Int) + 1) :: (b4 x).map v8))) := (Sub.refl Hs).upd hy
        generalize hx4 : AV.sl y 0 5 1 true = x4
        have hnw : ∀ k : Nat → List AV → Prop, @NEWS (upd Hs y (.cells (v8 ((j : Int) + 1) :: (b4 x).map v8))) x4 1 ⟨k⟩ = k 5 (v8 ((j : Int) + 1) :: (b4 x).map v8) := by intro k; rw [← hx4]; simp [b4]
        have hlen := encR_len done
        simp [hnw, f3]
        refine hrow.app hsy (by decide) (by simp [b4]) (by simp) (by omega) fun q2 H' hq hsq => ?_
        simp [f4, f5, w1]
        have hds : (encR (done ++ [(j + 1, x)])).map v8 = (encR done).map v8 ++ (v8 ((j : Int) + 1) :: (b4 x).map v8) := by
          rw [encR_app]
          simp [encR]
        have hln : (encR (done ++ [(j + 1, x)])).length = (encR done).length + 5 := by rw [encR_len, encR_len, List.length_append]; simp; omega
        refine FgK.of _ hsq ⟨⟨i + (j + 1), .sl q2 0 ((encR done).length + 5) 1 false, done ++ [(j + 1, x)], by simp, by simp [f0], by simp, by simp, by omega, by simp; omega, by rw [hd, hruns]; simp, ?_⟩, by simp [e4]; omega⟩
        rw [hds, hln]
        exact Row.mk hq
  · have he : i = l.length := by omega
    subst he
    rw [List.drop_length] at hd
    have hnil : runsF [] = [] := by unfold runsF; rfl
    rw [hnil, List.append_nil] at hd
    subst hd
    simp (disch := omega) [hg, hHeq, e0, e3, e4, la]
    exact ⟨Hs, Sub.refl _, hk _ _ hrow⟩
end Go.Proofs.YtkjkolacnpknoaaGreat
end

/-! The reference's Unruns, walked. Conditions: as each lemma states them. -/
section
namespace Go.Proofs.YtkjkolacnpknoaaGreat
open Go Go.Ab Go.RowKit
set_option linter.unusedSimpArgs false
set_option linter.unusedVariables false
set_option linter.unnecessarySimpa false

attribute [local simp] condK_true condK_false condK_not wpc_skip wpc_ret wpc_exit wpc_seq wpc_reg wpc_regD testA_bool wpc_cond wpc_block thenA_normal thenA_ret thenA_exit blockA_normal blockA_ret blockA_exit blockA_other endA_normal endA_ret ev_tmp' ev_const ev_func ev_global cv_int cv_bool cv_string cv_pointer cv_slice cv_agg cv_map put_some put_none wH_s setE_apply setE_env less_eq env_cons env_nil upd_upd upd_apply del_apply startA_eq cells_ag cells_sl one_sl cells_vs one_vs cells_ep one_ep cells_fn one_fn cells_int one_int cells_bool one_bool cells_string one_string cells_pointer one_pointer cells_slice one_slice cells_map one_map cells_agg resK_one resK_nil resK_two rvK_t rvK_c rvsK_nil rvsK_cons iseq_nil iseq_cons gdA_true gdA_false gdA_undef istep_free istep_guard istepV_free istepV_guard dseq_nil dseq_pu dseq_rd dseq_ef wpc_regT dtree_nil dtree_pu dtree_rd dtree_ef dtree_br chkAll_nil chkAll_cons andK_true pickK_true pickK_false pickK_tb pickK_fb bin2K_pl eqbK_eq eqbK_ne eqpK_eq eqpK_ne eqmK_eq eqmK_ne eqzK_eq eqzK_ne eqzK_sl eqzK_vs un1K_pl convK_int fillK_some fillA_cons fillA_nil cellsK_some needK_true needK_ok seeK_ep seeK_ptr oneK_agg oneK_one nilcK_ptr nilcK_ep fadrK_ptr fadrK_ep fldK_ag iadAK_ptr iadAK_ep iadSK_sl iadSK_vs extK_0 extK_1 extK_2 extK_3 lenK_pl lenK_sl lenK_vs lensK_pl boxK_some minmax1K_int storeK_ptr callvK_fn callvK_pl newsK_nil newsK_vs newsK_sl appK_nil appK_nil0 appK_sl appK_vs bnd1K_int bndK_none bndK_some slsK_vs slsK_nil slsK_sl0 slsK_sl slstrK_pl boolK_some eqsK_ag iop_eqs iop_sls iop_slstr seesK_some seesK_ro mapsK_some MAP_some findK_some findK_none plK_pl nmapK_none nmapK_some iop_mlook iop_mlen iop_mmk iop_mupd iop_mdel iop_mrng itK_none itK_some ptr0K_ptr iop_mnxt iop_ment it1K_some entK_some iop_mov iop_pick iop_bin iop_eqb iop_eqp iop_eqm iop_eqz iop_un capK_pl capK_sl capK_vs iop_cap iop_b2s b2sK_nil b2sK_sl b2sK_vs strK_some iop_idxv idxvK_ag atK_some apzK_nil iop_apz mksK_int iop_mks clrK_sl clrK_vs clrK_nil iop_clr iop_conv iop_build iop_load iop_nilc iop_fadr iop_fld iop_iadA iop_iadS iop_ext iop_mkf iop_len iop_lens iop_minmax iop_al iop_box iop_bsl iop_store iop_call iop_callv iop_app BIN_add BIN_sub BIN_mul BIN_and BIN_or BIN_xor BIN_andNot BIN_eql BIN_neq BIN_lss BIN_leq BIN_gtr BIN_geq BIN_quo BIN_rem BIN_shl BIN_shr BIN_sadd BIN_seql BIN_sneq BIN_slss BIN_sleq BIN_sgtr BIN_sgeq UN_neg UN_xor UN_not MM_nil MM_cons partsA argsA ptrA lessL eqL min2I slotN_int slotP_int slotI_int
attribute [local simp] fd8 m8 sh8 or_nf xor_nf

theorem at_d {H : AH} {a : AV} {l : List Int} (h : Rw H a (l.map v8) l.length 1) {i c : Nat} {j v : Int} (hj : j = (i : Int) + (c : Int)) (hv : l[i + c]? = some v) : ∃ p, (∀ k : AV → Prop, @iadSK 1 a (vi j) ⟨k⟩ = k p) ∧ ∀ H', Sub H H' → ∀ k : List AV → Prop, @SEE H' p 1 ⟨k⟩ = k [v8 v] := by
  obtain ⟨hi, hv⟩ := List.getElem?_eq_some_iff.1 hv
  obtain ⟨p, h1, h2⟩ := Rw.at1 h hi
  have e : j = ((i + c : Nat) : Int) := by rw [hj]; omega
  refine ⟨p, by rw [e]; exact h1, fun H' hs k => ?_⟩
  rw [h2 H' hs, hv]
set_option maxHeartbeats 2000000 in
theorem c27 {H : AH} {K : AV → AH → Prop} {a : AV} {l : List Int} {most : Int} (ha : Rw H a (l.map v8) l.length 1) (hl : l.length ≤ 1000000) (hu : ∀ x ∈ l, U8 x) (hm : -9223372036854775808 ≤ most) (hm2 : most ≤ 9223372036854775807)
    (hk : ∀ out H', Row H H' out ((unrF most l 0 255 []).1.map v32) (unrF most l 0 255 []).1.length 1 → K (.tp [out, vi (unrF most l 0 255 []).2]) H') : @AC Tryz.prog 27 [a, vi most] H ⟨K⟩ := by
  have la := fun k => Rw.lenK ha (k := k)
  refine AC_of (.forget ?_)
  refine call_c follows cf27_ok (by simp) ?_
  simp
  refine wpc_loop (fun s => ∃ (i : Nat) (o : AV) (out : List Int) (last size : Int) (bef : Int), s.n = 95 ∧ s.t 0 = a ∧ s.t 1 = vi most ∧ s.t 6 = o ∧ s.t 7 = vi bef ∧ s.t 8 = vi (i : Int) ∧ i ≤ l.length + 4 ∧ (i ≤ l.length ∨ l.length < i) ∧
      out.length ≤ 51 * i ∧ (out = [] ∨ (out.length : Int) ≤ most) ∧ unrF most l 0 255 [] = unrF most (l.drop i) last size out ∧ (i = 0 → size = 255) ∧ (0 < i → bef = size ∧ out.getLast? = some last) ∧ i % 5 = 0 ∧ Row H s.H o (out.map v32) out.length 1) (fun s => l.length + 10 - slotN (s.t 8)) ?_ ?_
  · exact FgK.same ⟨0, vnil, [], 0, 255, 0, by simp, by simp, by simp, by simp, by simp, by simp, by omega, .inl (by omega), by simp, .inl rfl, by simp, fun _ => rfl, fun h => by omega, rfl, by simpa using Row.nil H 1⟩
  rintro s ⟨i, o, out, last, size, bef, hg, e0, e1, e6, e7, e8, hi4, _, hlen, hmo, hun, hi0, hip, h5m, hrow⟩
  generalize hHeq : s.H = Hs at *
  have hHs := hrow.sub
  have hor := (hrow.rin (by simp)).rd
  have lo := fun k => Rw.lenK hor (k := k)
  by_cases hlt : i < l.length
  case neg =>
    have hlt' : ¬ (i : Int) < l.length := by omega
    rw [List.drop_of_length_le (by omega), unrF] at hun
    rw [hun] at hk
    simp (disch := omega) [hg, hHeq, e0, e1, e6, e7, e8, la, hlt', hlt]
    exact ⟨Hs, Sub.refl _, hk _ _ hrow⟩
  have hlt' : (i : Int) < l.length := by omega
  have wd := IntWalk.i64_in ((l.length : Int) - i) (by omega)
  by_cases h5 : l.length - i < 5
  · have h5' : (l.length : Int) - i < 5 := by omega
    have hsh : unrF most (l.drop i) last size out = ([], 4) := unr_short (by intro h; have := congrArg List.length h; simp at this; omega) (by rw [List.length_drop]; exact h5)
    rw [hun.trans hsh] at hk
    simp (disch := omega) [hg, hHeq, e0, e1, e6, e7, e8, la, hlt', hlt, wd, h5']
    exact ⟨H, hHs, hk _ _ (by simpa using Row.nil H 1)⟩
  have h5' : ¬ (l.length : Int) - i < 5 := by omega
  obtain ⟨n, x1, x2, x3, x4, t, hdr⟩ := len5 (r := l.drop i) (by rw [List.length_drop]; exact h5)
  have hget : ∀ c, l[i + c]? = (n :: x1 :: x2 :: x3 :: x4 :: t)[c]? := fun c => by rw [← hdr, List.getElem?_drop]
  have hmem : ∀ v ∈ (n :: x1 :: x2 :: x3 :: x4 :: t), U8 v := fun v hv => hu v (List.mem_of_mem_drop (i := i) (by rw [hdr]; exact hv))
  have hdr5 : l.drop (i + 5) = t := by rw [← List.drop_drop, hdr]; rfl
  obtain ⟨p0, a0, b0⟩ := at_d (c := 0) (i := i) (j := (i : Int)) (v := n) ha (by simp) (hget 0)
  obtain ⟨p1, a1, b1⟩ := at_d (c := 1) (i := i) (j := (i : Int) + 1) (v := x1) ha (by simp) (hget 1)
  obtain ⟨p2, a2, b2⟩ := at_d (c := 2) (i := i) (j := (i : Int) + 2) (v := x2) ha (by simp) (hget 2)
  obtain ⟨p3, a3, b3⟩ := at_d (c := 3) (i := i) (j := (i : Int) + 3) (v := x3) ha (by simp) (hget 3)
  obtain ⟨p4, a4, b4'⟩ := at_d (c := 4) (i := i) (j := (i : Int) + 4) (v := x4) ha (by simp) (hget 4)
  have hn8 := hmem n (by simp)
  have h18 := hmem x1 (by simp)
  have h28 := hmem x2 (by simp)
  have h38 := hmem x3 (by simp)
  have h48 := hmem x4 (by simp)
  have hv32 := (b4_val h18 h28 h38 h48).2
  have hn8' := hn8
  have h18' := h18
  have h28' := h28
  have h38' := h38
  have h48' := h48
  unfold U8 at hn8' h18' h28' h38' h48'
  have wn := IntWalk.i64_in n (by omega)
  have w1 := IntWalk.i64_in ((i : Int) + 1) (by omega)
  have w2 := IntWalk.i64_in ((i : Int) + 2) (by omega)
  have w3 := IntWalk.i64_in ((i : Int) + 3) (by omega)
  have w4 := IntWalk.i64_in ((i : Int) + 4) (by omega)
  have w5 := IntWalk.i64_in ((i : Int) + 5) (by omega)
  have u1 := u32_wrap (n := x1) ⟨by omega, by omega⟩
  have u2 := u32_wrap (n := x2) ⟨by omega, by omega⟩
  have u3 := u32_wrap (n := x3) ⟨by omega, by omega⟩
  have u4 := u32_wrap (n := x4) ⟨by omega, by omega⟩
  have u5 := u32_wrap (n := 256 * x4) ⟨by omega, by omega⟩
  have u6 := u32_wrap (n := x3 + 256 * x4) ⟨by omega, by omega⟩
  have u7 := u32_wrap (n := 256 * (x3 + 256 * x4)) ⟨by omega, by omega⟩
  have u8 := u32_wrap (n := x2 + 256 * (x3 + 256 * x4)) ⟨by omega, by omega⟩
  have u9 := u32_wrap (n := 256 * (x2 + 256 * (x3 + 256 * x4))) ⟨by omega, by omega⟩
  have u10 : IntKind.u32.wrap (x1 + 256 * (x2 + 256 * (x3 + 256 * x4))) = val4 x1 x2 x3 x4 := u32_wrap (n := val4 x1 x2 x3 x4) hv32
  have hstep : unrF most (l.drop i) last size out = (if n = 0 ∨ (size < 255 ∧ val4 x1 x2 x3 x4 = last) then ([], 3) else if most - out.length < n then ([], 5) else unrF most t (val4 x1 x2 x3 x4) n (out ++ List.replicate n.toNat (val4 x1 x2 x3 x4))) := by
    rw [hdr, unrF]
  rw [hstep] at hun
  clear hstep
  generalize hV : val4 x1 x2 x3 x4 = V at *
  have hkn : ∀ e : Int, unrF most l 0 255 [] = ([], e) → K (.tp [vnil, vi e]) H := fun e he => by
    rw [he] at hk
    exact hk _ _ (by simpa using Row.nil H 1)
  have hcase : n = 0 ∨ (n ≠ 0 ∧ i = 0) ∨ (n ≠ 0 ∧ 0 < i ∧ ¬ bef < 255) ∨ (n ≠ 0 ∧ 0 < i ∧ bef < 255 ∧ last = V) ∨ (n ≠ 0 ∧ 0 < i ∧ bef < 255 ∧ last ≠ V) := by omega
  have hlastp : 0 < i → ∃ (pl : AV), 0 < out.length ∧ (∀ k : AV → Prop, @iadSK 1 o (vi ((out.length : Int) - 1)) ⟨k⟩ = k pl) ∧ ∀ k : List AV → Prop, @SEE Hs pl 1 ⟨k⟩ = k [v32 last] := fun h => by
    have hgl := (hip h).2
    have hne : out ≠ [] := by rintro rfl; simp at hgl
    have hpos : 0 < out.length := by
      cases out with
      | nil => exact absurd rfl hne
      | cons x r => simp
    obtain ⟨pl, q1, q2⟩ := Rw.at1 hor (i := out.length - 1) (by omega)
    have ec : (((out.length - 1 : Nat)) : Int) = (out.length : Int) - 1 := by omega
    rw [ec] at q1
    have el : out[out.length - 1] = last := by
      rw [List.getLast?_eq_getElem?, List.getElem?_eq_getElem (by omega)] at hgl
      exact Option.some.inj hgl
    rw [el] at q2
    exact ⟨pl, hpos, q1, q2 _ (Sub.refl _)⟩
  have wo := IntWalk.i64_in ((out.length : Int) - 1) (by omega)
  rcases hcase with c1 | ⟨c1, c2⟩ | ⟨c1, c2, c3⟩ | ⟨c1, c2, c3, c4⟩ | ⟨c1, c2, c3, c4⟩
  · rw [if_pos (.inl c1)] at hun
    have w0 : IntKind.i64.wrap 0 = 0 := by decide
    subst c1
    simp (disch := omega) [hg, hHeq, e0, e1, e6, e7, e8, la, hlt', hlt, wd, h5', a0, b0 _ hHs, a1, b1 _ hHs, a2, b2 _ hHs, a3, b3 _ hHs, a4, b4' _ hHs, wn, w1, w2, w3, w4, u1, u2, u3, u4, u5, u6, u7, u8, u9, u10, w0]
    exact ⟨H, hHs, hkn _ hun⟩
  case' inr.inl =>
    rw [if_neg (fun h => h.elim c1 (fun h => by have := hi0 c2; omega))] at hun
    have c2' : ¬ (0 : Int) < i := by omega
    have c2n : ¬ 0 < i := by omega
    simp (disch := omega) [hg, hHeq, e0, e1, e6, e7, e8, la, hlt', hlt, wd, h5', a0, b0 _ hHs, a1, b1 _ hHs, a2, b2 _ hHs, a3, b3 _ hHs, a4, b4' _ hHs, wn, w1, w2, w3, w4, u1, u2, u3, u4, u5, u6, u7, u8, u9, u10, c1, c2', c2n, lo]
  case' inr.inr.inl =>
    have hb := (hip c2).1
    rw [if_neg (fun h => h.elim c1 (fun h => by omega))] at hun
    have c2' : (0 : Int) < i := by omega
    simp (disch := omega) [hg, hHeq, e0, e1, e6, e7, e8, la, hlt', hlt, wd, h5', a0, b0 _ hHs, a1, b1 _ hHs, a2, b2 _ hHs, a3, b3 _ hHs, a4, b4' _ hHs, wn, w1, w2, w3, w4, u1, u2, u3, u4, u5, u6, u7, u8, u9, u10, c1, c2, c2', c3, lo]
  case' inr.inr.inr.inl =>
    have hb := (hip c2).1
    obtain ⟨pl, hop, q1, q2⟩ := hlastp c2
    rw [if_pos (.inr ⟨by omega, c4.symm⟩)] at hun
    have c2' : (0 : Int) < i := by omega
    simp (disch := omega) [hg, hHeq, e0, e1, e6, e7, e8, la, hlt', hlt, wd, h5', a0, b0 _ hHs, a1, b1 _ hHs, a2, b2 _ hHs, a3, b3 _ hHs, a4, b4' _ hHs, wn, w1, w2, w3, w4, u1, u2, u3, u4, u5, u6, u7, u8, u9, u10, c1, c2, c2', c3, c4, lo, wo, q1, q2]
    exact ⟨H, hHs, hkn _ hun⟩
  case' inr.inr.inr.inr =>
    have hb := (hip c2).1
    obtain ⟨pl, hop, q1, q2⟩ := hlastp c2
    rw [if_neg (fun h => h.elim c1 (fun h => c4 h.2.symm))] at hun
    have c2' : (0 : Int) < i := by omega
    simp (disch := omega) [hg, hHeq, e0, e1, e6, e7, e8, la, hlt', hlt, wd, h5', a0, b0 _ hHs, a1, b1 _ hHs, a2, b2 _ hHs, a3, b3 _ hHs, a4, b4' _ hHs, wn, w1, w2, w3, w4, u1, u2, u3, u4, u5, u6, u7, u8, u9, u10, c1, c2, c2', c3, c4, lo, wo, q1, q2]
  all_goals
    have wm := IntWalk.i64_in (most - (out.length : Int)) (by rcases hmo with h | h; rw [h]; simp; omega; omega)
    by_cases hlim : most - out.length < n
    · rw [if_pos hlim] at hun
      simp [wm, hlim]
      exact ⟨H, hHs, hkn _ hun⟩
    · rw [if_neg hlim] at hun
      simp [wm, hlim]
      have hrel : Row H Hs o ((out ++ List.replicate 0 V).map v32) (out.length + 0) 1 := by simpa using hrow
      refine wpc_loop (fun s2 => ∃ (j : Nat) (o2 : AV), s2.n = 95 ∧ s2.t 0 = a ∧ s2.t 1 = vi most ∧ s2.t 6 = o2 ∧ s2.t 8 = vi (i : Int) ∧ s2.t 9 = vi n ∧ s2.t 10 = v32 V ∧ s2.t 11 = vi j ∧ j ≤ n.toNat ∧ Row H s2.H o2 ((out ++ List.replicate j V).map v32) (out.length + j) 1) (fun s2 => n.toNat - slotN (s2.t 11)) ?_ ?_
      · exact FgK.same ⟨0, o, by simp, by simp, by simp, by simp, by simp [e8], by simp, by simp, by simp, by omega, hrel⟩
      rintro s2 ⟨j, o2, hg2, f0, f1, f6, f8, f9, f10, f11, hj, hrow2⟩
      generalize hHeq2 : s2.H = Hs2 at *
      by_cases hjn : j < n.toNat
      · have hjn' : (j : Int) < n := by omega
        have wj := IntWalk.i64_in ((j : Int) + 1) (by omega)
        simp (disch := omega) [hg2, hHeq2, f0, f1, f6, f8, f9, f10, f11, hjn']
        refine newK_of fun y hy => ?_
        have hsy : Sub Hs2 (upd Hs2 y (.cells [v32 V])) := (Sub.refl Hs2).upd hy
        generalize hx4 : AV.sl y 0 1 1 true = x4
        have hnw : ∀ k : Nat → List AV → Prop, @NEWS (upd Hs2 y (.cells [v32 V])) x4 1 ⟨k⟩ = k 1 [v32 V] := by intro k; rw [← hx4]; simp
        simp [hnw, f6]
        refine hrow2.app hsy (by decide) rfl (by simp) (by omega) fun q2 H' hq hsq => ?_
        simp [f11, wj]
        refine FgK.of _ hsq ⟨⟨j + 1, .sl q2 0 (out.length + j + 1) 1 false, by simp, by simp [f0], by simp [f1], by simp, by simp [f8], by simp [f9], by simp [f10], by simp, by omega, ?_⟩, by simp [f11]; omega⟩
        have := Row.mk (cs := out.map v32 ++ (List.replicate j V).map v32 ++ [v32 V]) (n := out.length + (j + 1)) (sz := 1) hq
        rw [rep_snoc, ← List.append_assoc]
        simp only [List.map_append, List.map_cons, List.map_nil]
        exact this
      · have hje : j = n.toNat := by omega
        subst hje
        have hnn : ((n.toNat : Nat) : Int) = n := by omega
        rw [hnn] at f11
        simp (disch := omega) [hg2, hHeq2, f0, f1, f6, f8, f9, f10, f11, w5]
        refine FgK.same ⟨⟨i + 5, o2, out ++ List.replicate n.toNat V, V, n, n, by simp, by simp [f0], by simp [f1], by simp [f6], by simp, by simp, by omega, by omega, ?_, .inr ?_, ?_, by omega, fun _ => ⟨rfl, ?_⟩, by omega, ?_⟩, ?_⟩
        · simp; omega
        · simp; omega
        · rw [hdr5]; exact hun
        · have hpn : 0 < n.toNat := by omega
          obtain ⟨m', hm'⟩ : ∃ m', n.toNat = m' + 1 := ⟨n.toNat - 1, by omega⟩
          rw [hm', rep_snoc, ← List.append_assoc, List.getLast?_append]
          simp
        · have := hrow2
          rw [List.length_append, List.length_replicate]
          exact this
        · simp [e8]; omega
end Go.Proofs.YtkjkolacnpknoaaGreat
end

/-! The reference's pixels and buffers, walked: compositorref08, compositorref09. Conditions: as each lemma states them. -/
section
namespace Go.Proofs.YtkjkolacnpknoaaGreat
open Go Go.Ab Go.RowKit
set_option linter.unusedSimpArgs false
set_option linter.unusedVariables false
set_option linter.unnecessarySimpa false

attribute [local simp] condK_true condK_false condK_not wpc_skip wpc_ret wpc_exit wpc_seq wpc_reg wpc_regD testA_bool wpc_cond wpc_block thenA_normal thenA_ret thenA_exit blockA_normal blockA_ret blockA_exit blockA_other endA_normal endA_ret ev_tmp' ev_const ev_func ev_global cv_int cv_bool cv_string cv_pointer cv_slice cv_agg cv_map put_some put_none wH_s setE_apply setE_env less_eq env_cons env_nil upd_upd upd_apply del_apply startA_eq cells_ag cells_sl one_sl cells_vs one_vs cells_ep one_ep cells_fn one_fn cells_int one_int cells_bool one_bool cells_string one_string cells_pointer one_pointer cells_slice one_slice cells_map one_map cells_agg resK_one resK_nil resK_two rvK_t rvK_c rvsK_nil rvsK_cons iseq_nil iseq_cons gdA_true gdA_false gdA_undef istep_free istep_guard istepV_free istepV_guard dseq_nil dseq_pu dseq_rd dseq_ef wpc_regT dtree_nil dtree_pu dtree_rd dtree_ef dtree_br chkAll_nil chkAll_cons andK_true pickK_true pickK_false pickK_tb pickK_fb bin2K_pl eqbK_eq eqbK_ne eqpK_eq eqpK_ne eqmK_eq eqmK_ne eqzK_eq eqzK_ne eqzK_sl eqzK_vs un1K_pl convK_int fillK_some fillA_cons fillA_nil cellsK_some needK_true needK_ok seeK_ep seeK_ptr oneK_agg oneK_one nilcK_ptr nilcK_ep fadrK_ptr fadrK_ep fldK_ag iadAK_ptr iadAK_ep iadSK_sl iadSK_vs extK_0 extK_1 extK_2 extK_3 lenK_pl lenK_sl lenK_vs lensK_pl boxK_some minmax1K_int storeK_ptr callvK_fn callvK_pl newsK_nil newsK_vs newsK_sl appK_nil appK_nil0 appK_sl appK_vs bnd1K_int bndK_none bndK_some slsK_vs slsK_nil slsK_sl0 slsK_sl slstrK_pl boolK_some eqsK_ag iop_eqs iop_sls iop_slstr seesK_some seesK_ro mapsK_some MAP_some findK_some findK_none plK_pl nmapK_none nmapK_some iop_mlook iop_mlen iop_mmk iop_mupd iop_mdel iop_mrng itK_none itK_some ptr0K_ptr iop_mnxt iop_ment it1K_some entK_some iop_mov iop_pick iop_bin iop_eqb iop_eqp iop_eqm iop_eqz iop_un capK_pl capK_sl capK_vs iop_cap iop_b2s b2sK_nil b2sK_sl b2sK_vs strK_some iop_idxv idxvK_ag atK_some apzK_nil iop_apz mksK_int iop_mks clrK_sl clrK_vs clrK_nil iop_clr iop_conv iop_build iop_load iop_nilc iop_fadr iop_fld iop_iadA iop_iadS iop_ext iop_mkf iop_len iop_lens iop_minmax iop_al iop_box iop_bsl iop_store iop_call iop_callv iop_app BIN_add BIN_sub BIN_mul BIN_and BIN_or BIN_xor BIN_andNot BIN_eql BIN_neq BIN_lss BIN_leq BIN_gtr BIN_geq BIN_quo BIN_rem BIN_shl BIN_shr BIN_sadd BIN_seql BIN_sneq BIN_slss BIN_sleq BIN_sgtr BIN_sgeq UN_neg UN_xor UN_not MM_nil MM_cons partsA argsA ptrA lessL eqL min2I slotN_int slotP_int slotI_int
attribute [local simp] rc_len rc_t4 rc_t1 rc_t2 rc_t3 rc_d1 rc_d2 rc_d3 rc_d4 rc_ag rc_one rc_eq min2_t min2_f

theorem u8_wrap' {n : Int} (h : 0 ≤ n ∧ n < 256) : IntKind.u8.wrap n = n := by
  simp only [IntKind.wrap, IntKind.signed, IntKind.bits]
  simp
  omega
theorem szOk_iff' (n : Int) : szOk n = true ↔ 1 ≤ n ∧ n ≤ 256 := by simp [szOk]
theorem c49 (w h : Int) : PC Tryz.prog 49 [vi w, vi h] (vb (szOk w && szOk h)) := by
  refine .tell fun H => ?_
  refine call_c follows cf49_ok (by simp) ?_
  unfold szOk
  by_cases h1 : 1 ≤ w <;> by_cases h2 : w ≤ 256 <;> by_cases h3 : 1 ≤ h <;> by_cases h4 : h ≤ 256 <;> simp [h1, h2, h3, h4]
  all_goals exact Sub.refl _
theorem c54 (p : Px) : PC Tryz.prog 54 [.ag (pxc p)] (.ag (pxc (clp p))) := by
  rw [← clp_eq]
  refine .tell fun H => ?_
  refine call_c follows cf54_ok (by simp) ?_
  repeat' (first | simp [*, pxc, v8] | (with_reducible (refine newK_of fun _ h_ => ?_); have hn_ := free_ne h_; (try simp only [upd_none', ne_eq] at h_)) | (with_reducible (refine condK_of (fun h_ => ?_) (fun h_ => ?_))))
  all_goals ((try with_reducible refine And.intro ?_ ?_) <;> (try (repeat' (first | with_reducible exact Sub.refl _ | with_reducible refine Sub.of_upd (by simp [*]) ?_))))
theorem c50 (x : Px) : PC Tryz.prog 50 [.ag (pxc x)] (vb (pxOk x)) := by
  refine .tell fun H => ?_
  refine call_c follows cf50_ok (by simp) ?_
  have hl : (pxc x).length = 4 := rfl
  simp [hl]
  refine newK_of fun y hy => ?_
  by_cases d1 : x.r ≤ x.a <;> by_cases d2 : x.g ≤ x.a <;> by_cases d3 : x.b ≤ x.a <;> simp [pxc, d1, d2, d3, pxOk]
  all_goals exact (Sub.refl H).upd hy
theorem c53 (p : Px) (hp : PB8 p) : PC Tryz.prog 53 [.ag (pxc p)] (v32 (packF p)) := by
  refine .tell fun H => ?_
  refine call_c follows cf53_ok (by simp) ?_
  have hl : (pxc p).length = 4 := rfl
  have ht : (pxc p).take 4 = pxc p := rfl
  have ho : (pxc p).all AV.one = true := rfl
  simp [hl, ht, ho]
  refine newK_of fun y hy => ?_
  simp [hl, ht, ho]
  refine (c54 p).ac ?_
  have hq := clp_b8 hp
  unfold packF
  generalize clp p = q at *
  have hql : (pxc q).length = 4 := rfl
  have hqo : (pxc q).all AV.one = true := rfl
  have hqt : (pxc q).take 4 = pxc q := rfl
  have hqs : pxc q = [v8 q.r, v8 q.g, v8 q.b, v8 q.a] := rfl
  have hq' := hq
  unfold PB8 U8 at hq'
  have w1 := IntWalk.i64_in q.a (by omega)
  have w2 := IntWalk.i64_in q.r (by omega)
  have w3 := IntWalk.i64_in q.g (by omega)
  have w4 := IntWalk.i64_in q.b (by omega)
  have w5 := IntWalk.i64_in (q.a * 256) (by omega)
  have w6 := IntWalk.i64_in (q.a * 256 + q.r) (by omega)
  have w7 := IntWalk.i64_in ((q.a * 256 + q.r) * 256) (by omega)
  have w8 := IntWalk.i64_in ((q.a * 256 + q.r) * 256 + q.g) (by omega)
  have w9 := IntWalk.i64_in (((q.a * 256 + q.r) * 256 + q.g) * 256) (by omega)
  have w10 := IntWalk.i64_in (((q.a * 256 + q.r) * 256 + q.g) * 256 + q.b) (by omega)
  have w11 := u32_wrap (n := ((q.a * 256 + q.r) * 256 + q.g) * 256 + q.b) ⟨by omega, by omega⟩
  simp [hl, hql, hqt, hqo, hqs, w1, w2, w3, w4, w5, w6, w7, w8, w9, w10, w11]
  exact ⟨(Sub.refl H).upd hy, by unfold rawP; omega⟩
theorem c30 (v : Int) (hv : U32 v) : PC Tryz.prog 30 [v32 v] (.ag (pxc (unpF v))) := by
  refine .tell fun H => ?_
  refine call_c follows cf30_ok (by simp) ?_
  unfold U32 at hv
  have t1 : IntKind.u32.wrap (Int.tdiv v 16777216) = v / 16777216 := by rw [Int.tdiv_eq_ediv_of_nonneg hv.1]; exact u32_wrap ⟨by omega, by omega⟩
  have t2 : IntKind.u32.wrap (Int.tdiv v 65536) = v / 65536 := by rw [Int.tdiv_eq_ediv_of_nonneg hv.1]; exact u32_wrap ⟨by omega, by omega⟩
  have t3 : IntKind.u32.wrap (Int.tdiv v 256) = v / 256 := by rw [Int.tdiv_eq_ediv_of_nonneg hv.1]; exact u32_wrap ⟨by omega, by omega⟩
  have t4 : Int.tmod (v / 65536) 256 = v / 65536 % 256 := Int.tmod_eq_emod_of_nonneg (by omega)
  have t5 : Int.tmod (v / 256) 256 = v / 256 % 256 := Int.tmod_eq_emod_of_nonneg (by omega)
  have t6 : Int.tmod v 256 = v % 256 := Int.tmod_eq_emod_of_nonneg (by omega)
  simp [t1, t2, t3, t4, t5, t6]
  refine newK_of fun y hy => ?_
  have hcl := c54 ⟨v / 65536 % 256, v / 256 % 256, v % 256, v / 16777216⟩
  have u1 := u8_wrap' (n := v / 65536 % 256) (by omega)
  have u2 := u8_wrap' (n := v / 256 % 256) (by omega)
  have u3 := u8_wrap' (n := v % 256) (by omega)
  have u4 := u8_wrap' (n := v / 16777216) (by omega)
  have e4 : v / 16777216 % 256 = v / 16777216 := Int.emod_eq_of_lt (by omega) (by omega)
  simp [t1, t2, t3, t4, t5, t6, u1, u2, u3, u4]
  refine hcl.ac ?_
  unfold unpF unpR
  rw [e4]
  generalize clp _ = q at *
  have hql : (pxc q).length = 4 := rfl
  have hqo : (pxc q).all AV.one = true := rfl
  have hqt : (pxc q).take 4 = pxc q := rfl
  simp [hql, hqo, hqt]
  exact (Sub.refl H).upd hy
theorem c23 {H : AH} {K : AV → AH → Prop} {a : AV} {w h : Int} {l : List Px} (ha : Rw H a (flat pxc l) l.length 4) (hll : l.length ≤ 10000000) (hk : K (vb (bufOk w h l)) H) : @AC Tryz.prog 23 [.ag (bfc w h a)] H ⟨K⟩ := by
  have la := fun k => Rw.lenK ha (k := k)
  have ca := Rw.cells ha
  refine AC_of (.forget ?_)
  refine call_c follows cf23_ok (by simp) ?_
  have hbl : (bfc w h a).length = 3 := rfl
  simp [hbl]
  refine newK_of fun z hz => ?_
  have hzz : upd H z (.cells (bfc w h a)) z = some (.cells [vi w, vi h, a]) := by simp [upd_apply, bfc]
  have hS : Sub H (upd H z (.cells (bfc w h a))) := (Sub.refl H).upd hz
  generalize upd H z (.cells (bfc w h a)) = G at *
  simp [hzz]
  refine (c49 w h).ac ?_
  cases hs : (szOk w && szOk h) with
  | false =>
    have e : bufOk w h l = false := by
      unfold bufOk
      cases h1 : szOk w <;> cases h2 : szOk h <;> simp_all
    rw [e] at hk
    simp
    exact ⟨H, hS, hk⟩
  | true =>
    simp at hs
    obtain ⟨hs1, hs2⟩ := hs
    have r1 := (szOk_iff' w).1 hs1
    have r2 := (szOk_iff' h).1 hs2
    have hmul : 0 ≤ w * h ∧ w * h ≤ 256 * 256 := ⟨Int.mul_nonneg (by omega) (by omega), Int.mul_le_mul (by omega) (by omega) (by omega) (by omega)⟩
    have wm := IntWalk.i64_in (w * h) (by omega)
    by_cases hlen : (l.length : Int) = w * h
    · have e : bufOk w h l = l.all pxOk := by simp [bufOk, hs1, hs2, hlen]
      rw [e] at hk
      simp [hzz, la, wm, hlen]
      refine wpc_loop (fun s => ∃ (i : Nat), s.n = 35 ∧ s.H = G ∧ s.t 1 = pA z ∧ s.t 3 = vi i ∧ i ≤ l.length ∧ (l.take i).all pxOk = true) (fun s => l.length - slotN (s.t 3)) ?_ ?_
      · exact FgK.same ⟨0, by simp, by simp, by simp, by simp, by omega, by simp⟩
      rintro s ⟨i, hn, hH, e1, e3, hi, hall⟩
      by_cases hlt : i < l.length
      · have wr := IntWalk.i64_in ((i : Int) + 1) (by omega)
        obtain ⟨p, hp1, hp2⟩ := fsee pxc_l (ha.sub hS) hlt
        have et := take_snoc' hlt
        have hfa : pxOk l[i] = false → l.all pxOk = false := fun h => List.all_eq_false.2 ⟨l[i], List.getElem_mem hlt, by simp [h]⟩
        generalize l[i] = x at *
        have hlt' : (i : Int) < w * h := by omega
        simp (disch := omega) [hn, hH, e1, e3, hzz, la, hlt, hp1, hp2 _ (Sub.refl _)]
        refine (c50 x).ac ?_
        cases hx : pxOk x with
        | false =>
          simp
          exact ⟨H, hS, by rw [hfa hx] at hk; exact hk⟩
        | true =>
          simp [wr]
          refine FgK.same ⟨⟨i + 1, by simp, by simp, by simp, by simp, by omega, ?_⟩, by simp [e3]; omega⟩
          rw [et, List.all_append, hall]
          simp [hx]
      · rw [List.take_of_length_le (by omega)] at hall
        rw [hall] at hk
        simp (disch := omega) [hn, hH, e1, e3, hzz, la, hlt]
        exact ⟨H, hS, hk⟩
    · have e : bufOk w h l = false := by simp [bufOk, hlen]
      rw [e] at hk
      simp [hzz, la, wm, hlen]
      exact ⟨H, hS, hk⟩
end Go.Proofs.YtkjkolacnpknoaaGreat
end

/-! The reference's small functions, walked: xor, two, at, number; IsCanonical in general. Conditions: as each lemma states them. -/
section
namespace Go.Proofs.YtkjkolacnpknoaaGreat
open Go Go.Ab Go.RowKit
set_option linter.unusedSimpArgs false
set_option linter.unusedVariables false
set_option linter.unnecessarySimpa false

attribute [local simp] condK_true condK_false condK_not wpc_skip wpc_ret wpc_exit wpc_seq wpc_reg wpc_regD testA_bool wpc_cond wpc_block thenA_normal thenA_ret thenA_exit blockA_normal blockA_ret blockA_exit blockA_other endA_normal endA_ret ev_tmp' ev_const ev_func ev_global cv_int cv_bool cv_string cv_pointer cv_slice cv_agg cv_map put_some put_none wH_s setE_apply setE_env less_eq env_cons env_nil upd_upd upd_apply del_apply startA_eq cells_ag cells_sl one_sl cells_vs one_vs cells_ep one_ep cells_fn one_fn cells_int one_int cells_bool one_bool cells_string one_string cells_pointer one_pointer cells_slice one_slice cells_map one_map cells_agg resK_one resK_nil resK_two rvK_t rvK_c rvsK_nil rvsK_cons iseq_nil iseq_cons gdA_true gdA_false gdA_undef istep_free istep_guard istepV_free istepV_guard dseq_nil dseq_pu dseq_rd dseq_ef wpc_regT dtree_nil dtree_pu dtree_rd dtree_ef dtree_br chkAll_nil chkAll_cons andK_true pickK_true pickK_false pickK_tb pickK_fb bin2K_pl eqbK_eq eqbK_ne eqpK_eq eqpK_ne eqmK_eq eqmK_ne eqzK_eq eqzK_ne eqzK_sl eqzK_vs un1K_pl convK_int fillK_some fillA_cons fillA_nil cellsK_some needK_true needK_ok seeK_ep seeK_ptr oneK_agg oneK_one nilcK_ptr nilcK_ep fadrK_ptr fadrK_ep fldK_ag iadAK_ptr iadAK_ep iadSK_sl iadSK_vs extK_0 extK_1 extK_2 extK_3 lenK_pl lenK_sl lenK_vs lensK_pl boxK_some minmax1K_int storeK_ptr callvK_fn callvK_pl newsK_nil newsK_vs newsK_sl appK_nil appK_nil0 appK_sl appK_vs bnd1K_int bndK_none bndK_some slsK_vs slsK_nil slsK_sl0 slsK_sl slstrK_pl boolK_some eqsK_ag iop_eqs iop_sls iop_slstr seesK_some seesK_ro mapsK_some MAP_some findK_some findK_none plK_pl nmapK_none nmapK_some iop_mlook iop_mlen iop_mmk iop_mupd iop_mdel iop_mrng itK_none itK_some ptr0K_ptr iop_mnxt iop_ment it1K_some entK_some iop_mov iop_pick iop_bin iop_eqb iop_eqp iop_eqm iop_eqz iop_un capK_pl capK_sl capK_vs iop_cap iop_b2s b2sK_nil b2sK_sl b2sK_vs strK_some iop_idxv idxvK_ag atK_some apzK_nil iop_apz mksK_int iop_mks clrK_sl clrK_vs clrK_nil iop_clr iop_conv iop_build iop_load iop_nilc iop_fadr iop_fld iop_iadA iop_iadS iop_ext iop_mkf iop_len iop_lens iop_minmax iop_al iop_box iop_bsl iop_store iop_call iop_callv iop_app BIN_add BIN_sub BIN_mul BIN_and BIN_or BIN_xor BIN_andNot BIN_eql BIN_neq BIN_lss BIN_leq BIN_gtr BIN_geq BIN_quo BIN_rem BIN_shl BIN_shr BIN_sadd BIN_seql BIN_sneq BIN_slss BIN_sleq BIN_sgtr BIN_sgeq UN_neg UN_xor UN_not MM_nil MM_cons partsA argsA ptrA lessL eqL min2I slotN_int slotP_int slotI_int
attribute [local simp] rc_len rc_t4 rc_t1 rc_t2 rc_t3 rc_d1 rc_d2 rc_d3 rc_d4 rc_ag rc_one rc_eq fd8 m8 sh8 or_nf xor_nf

theorem c28 (a b : Int) : PC Tryz.prog 28 [v32 a, v32 b] (v32 (xorI a b)) := by
  refine .tell fun H => ?_
  refine call_c follows cf28_ok (by simp) ?_
  simp
  exact Sub.refl _
theorem c35 {B H : AH} {K : AV → AH → Prop} {a : AV} {cs : List AV} {n : Nat} {v : Int} (hr : Row B H a cs n 1) (hl : cs.length = n) (hn : n ≤ 1000000000) (hv : 0 ≤ v ∧ v ≤ 1000000000000)
    (hk : ∀ out H', Row B H' out (cs ++ (le2 v).map v8) (n + 2) 1 → K out H') : @AC Tryz.prog 35 [a, vi v] H ⟨K⟩ := by
  have co := Row.one hr
  refine AC_of (.forget ?_)
  refine call_c follows cf35_ok (by simp) ?_
  have t1 : Int.tmod v 256 = v % 256 := Int.tmod_eq_emod_of_nonneg hv.1
  have t2 : IntKind.i64.wrap (Int.tdiv v 256) = v / 256 := by rw [Int.tdiv_eq_ediv_of_nonneg hv.1]; exact IntWalk.i64_in _ (by omega)
  simp [t1, t2]
  refine newK_of fun y hy => ?_
  have hb : [v8 (v % 256), v8 (v / 256 % 256)] = (le2 v).map v8 := rfl
  rw [hb]
  have hsy : Sub H (upd H y (.cells ((le2 v).map v8))) := (Sub.refl H).upd hy
  generalize hx4 : AV.sl y 0 2 1 true = x4
  have hnw : ∀ k : Nat → List AV → Prop, @NEWS (upd H y (.cells ((le2 v).map v8))) x4 1 ⟨k⟩ = k 2 ((le2 v).map v8) := by intro k; rw [← hx4]; simp [le2]
  simp [hnw]
  refine hr.app hsy (by decide) (by simp) (by simp [hl]) (by omega) fun q2 H' hq hsq => ?_
  simp
  exact ⟨_, hsq, hk _ _ (Row.mk hq)⟩
theorem c29 {H : AH} {K : AV → AH → Prop} {a : AV} {w h x y : Int} {l : List Px} {k : Nat} (ha : Rw H a (flat pxc l) l.length 4) (hw : 0 ≤ w ∧ w ≤ 256) (hx : 0 ≤ x ∧ x ≤ 256) (hy : 0 ≤ y ∧ y ≤ 256) (he : y * w + x = (k : Int)) (hk1 : k < l.length) (hb : ∀ p ∈ l, PB8 p)
    (hk : K (v32 (packF (getP l k))) H) : @AC Tryz.prog 29 [.ag (bfc w h a), vi x, vi y] H ⟨K⟩ := by
  have oa := Rw.one ha
  refine AC_of (.forget ?_)
  refine call_c follows cf29_ok (by simp) ?_
  have bl : (bfc w h a).length = 3 := rfl
  have d0 : (bfc w h a).take 1 = [vi w] := rfl
  have d2 : ((bfc w h a).drop 2).take 1 = [a] := rfl
  simp [bl]
  refine newK_of fun z hz => ?_
  have hS : Sub H (upd H z (.cells (bfc w h a))) := (Sub.refl H).upd hz
  have kz : upd H z (.cells (bfc w h a)) z = some (.cells (bfc w h a)) := by simp [upd_apply]
  generalize upd H z (.cells (bfc w h a)) = G at *
  have hm : 0 ≤ y * w ∧ y * w ≤ 256 * 256 := ⟨Int.mul_nonneg (by omega) (by omega), Int.mul_le_mul (by omega) (by omega) (by omega) (by omega)⟩
  have w1 := IntWalk.i64_in (y * w) (by omega)
  have w2 := IntWalk.i64_in (k : Int) (by omega)
  obtain ⟨p, hp1, hp2⟩ := fsee pxc_l (ha.sub hS) hk1
  have hg : getP l k = l[k] := by
    unfold getP
    rw [Int.toNat_natCast, List.getD_eq_getElem?_getD, List.getElem?_eq_getElem hk1]
    rfl
  rw [hg] at hk
  have hpb := hb _ (List.getElem_mem hk1)
  generalize l[k] = px at *
  simp [kz, bl, d0, d2, w1, he, w2, hp1, hp2 _ (Sub.refl _)]
  refine (c53 px hpb).ac ?_
  simp
  exact ⟨H, hS, hk⟩
theorem c24 {H : AH} {K : AV → AH → Prop} {a : AV} {l : List Int} {i : Nat} (ha : Rw H a (l.map v8) l.length 1) (hl : l.length ≤ 10000000) (hu : ∀ x ∈ l, U8 x) (hi : i + 1 < l.length) (hk : K (vi (at2 l i)) H) : @AC Tryz.prog 24 [a, vi i] H ⟨K⟩ := by
  obtain ⟨p, a0, b0⟩ := at_d (c := 0) (i := i) (j := (i : Int)) (v := l[i]) ha (by simp) (List.getElem?_eq_getElem (by omega))
  obtain ⟨q, a1, b1⟩ := at_d (c := 1) (i := i) (j := (i : Int) + 1) (v := l[i + 1]) ha (by simp) (List.getElem?_eq_getElem (by omega))
  have hg : at2 l i = l[i] + 256 * l[i + 1] := by
    unfold at2 v2
    rw [List.getD_eq_getElem?_getD, List.getElem?_eq_getElem (by omega : i < l.length), List.getD_eq_getElem?_getD, List.getElem?_eq_getElem (by omega : i + 1 < l.length)]
    rfl
  rw [hg] at hk
  have h1 := hu _ (List.getElem_mem (by omega : i < l.length))
  have h2 := hu _ (List.getElem_mem (by omega : i + 1 < l.length))
  generalize l[i] = x at *
  generalize l[i + 1] = y at *
  unfold U8 at h1 h2
  have w1 := IntWalk.i64_in x (by omega)
  have w2 := IntWalk.i64_in y (by omega)
  have w3 := IntWalk.i64_in (256 * y) (by omega)
  have w4 := IntWalk.i64_in (x + 256 * y) (by omega)
  have w5 := IntWalk.i64_in ((i : Int) + 1) (by omega)
  refine AC_of (.forget ?_)
  refine call_c follows cf24_ok (by simp) ?_
  simp [a0, b0 _ (Sub.refl _), a1, b1 _ (Sub.refl _), w1, w2, w3, w4, w5]
  exact ⟨H, Sub.refl _, hk⟩
theorem same_gen {H : AH} {K : AV → AH → Prop} {a b : AV} {l m : List R} (ha : Rr H a l) (hb : Rr H b m) (hl : l.length ≤ 1000000) (hk : K (vb (decide (l = m))) H) : @AC Tryz.prog 51 [a, b] H ⟨K⟩ := by
  have l1 := fun k => Rw.lenK ha (k := k)
  have l2 := fun k => Rw.lenK hb (k := k)
  refine AC_of (.forget ?_)
  refine call_c follows cf51_ok (by simp) ?_
  by_cases hlm : l.length = m.length
  case neg =>
    have hne : ¬ l = m := fun h => hlm (by rw [h])
    have hlm' : ¬ (l.length : Int) = m.length := by omega
    rw [decide_eq_false hne] at hk
    simp [l1, l2, hlm, hlm']
    exact ⟨H, Sub.refl _, hk⟩
  have hlm' : (l.length : Int) = m.length := by omega
  simp [l1, l2, hlm, hlm']
  refine wpc_loop (fun s => ∃ (i : Nat), s.n = 26 ∧ s.H = H ∧ s.t 0 = a ∧ s.t 1 = b ∧ s.t 5 = vi i ∧ i ≤ l.length ∧ l.take i = m.take i) (fun s => l.length - slotN (s.t 5)) ?_ ?_
  · exact FgK.same ⟨0, by simp, by simp, by simp, by simp, by simp, by omega, by simp⟩
  rintro s ⟨i, hn, hH, e0, e1, e5, hi, heq⟩
  by_cases hlt : i < l.length
  · have wr := IntWalk.i64_in ((i : Int) + 1) (by omega)
    obtain ⟨p, hp1, hp2⟩ := fsee rc_l ha hlt
    obtain ⟨q, hq1, hq2⟩ := fsee rc_l hb (by omega : i < m.length)
    have t1 := take_snoc' hlt
    have t2 := take_snoc' (by omega : i < m.length)
    have hxe : l = m → l[i] = m[i] := fun h => by subst h; rfl
    generalize l[i] = x at *
    generalize m[i] = y at *
    have hltm : i < m.length := by omega
    have hltm' : (i : Int) < m.length := by omega
    cases hx : req x y with
    | true =>
      have hxy := (req_iff x y).1 hx
      simp (disch := omega) [hn, hH, e0, e1, e5, l1, hlt, hlm, hltm, hltm', hp1, hp2 _ (Sub.refl _), hq1, hq2 _ (Sub.refl _), hx, wr]
      exact FgK.same ⟨⟨i + 1, by simp, by simp [hH], by simp [e0], by simp [e1], by simp, by omega, by rw [t1, t2, heq, hxy]⟩, by simp [e5]; omega⟩
    | false =>
      have hne : ¬ l = m := fun h => by
        have := hxe h
        rw [(req_iff x y).2 this] at hx
        cases hx
      rw [decide_eq_false hne] at hk
      simp (disch := omega) [hn, hH, e0, e1, e5, l1, hlt, hlm, hltm, hltm', hp1, hp2 _ (Sub.refl _), hq1, hq2 _ (Sub.refl _), hx, wr]
      exact ⟨H, Sub.refl _, hk⟩
  · have hie : i = l.length := by omega
    subst hie
    rw [List.take_length, hlm, List.take_length] at heq
    rw [decide_eq_true heq] at hk
    simp (disch := omega) [hn, hH, e0, e1, e5, l1, hlm]
    exact ⟨H, Sub.refl _, hk⟩
theorem canon_gen {H : AH} {K : AV → AH → Prop} {a : AV} {l : List R} (ha : Rr H a l) (hl : l.length ≤ 256) (hk : K (vb (decide (canonF l = l))) H) : @AC Tryz.prog 25 [a] H ⟨K⟩ := by
  have l1 := fun k => Rw.lenK ha (k := k)
  have h' : (l.length : Int) ≤ 256 := by omega
  refine AC_of (.forget ?_)
  refine call_c follows cf25_ok (by simp) ?_
  simp [l1, h']
  refine c52 (lb := []) ha (Rw.nil _ _) (by omega) (by simp) fun out H' hro => ?_
  rw [kM1] at hro
  have hro : Row H H' out (flat rc (canonF l)) (canonF l).length 4 := hro
  simp
  have hd : decide (canonF l = l) = decide (l = canonF l) := by
    by_cases h : canonF l = l
    · rw [decide_eq_true h, decide_eq_true h.symm]
    · rw [decide_eq_false h, decide_eq_false fun g => h g.symm]
  rw [hd] at hk
  refine same_gen (Rw.sub ha hro.sub) ((hro.rin (flat_len rc_l _)).rd) (by omega) ?_
  simp
  exact ⟨H, hro.sub, hk⟩
end Go.Proofs.YtkjkolacnpknoaaGreat
end

/-! The reference's Encode, walked. Conditions: as each lemma states them. -/
section
namespace Go.Proofs.YtkjkolacnpknoaaGreat
open Go Go.Ab Go.RowKit
set_option linter.unusedSimpArgs false
set_option linter.unusedVariables false
set_option linter.unnecessarySimpa false

attribute [local simp] condK_true condK_false condK_not wpc_skip wpc_ret wpc_exit wpc_seq wpc_reg wpc_regD testA_bool wpc_cond wpc_block thenA_normal thenA_ret thenA_exit blockA_normal blockA_ret blockA_exit blockA_other endA_normal endA_ret ev_tmp' ev_const ev_func ev_global cv_int cv_bool cv_string cv_pointer cv_slice cv_agg cv_map put_some put_none wH_s setE_apply setE_env less_eq env_cons env_nil upd_upd upd_apply del_apply startA_eq cells_ag cells_sl one_sl cells_vs one_vs cells_ep one_ep cells_fn one_fn cells_int one_int cells_bool one_bool cells_string one_string cells_pointer one_pointer cells_slice one_slice cells_map one_map cells_agg resK_one resK_nil resK_two rvK_t rvK_c rvsK_nil rvsK_cons iseq_nil iseq_cons gdA_true gdA_false gdA_undef istep_free istep_guard istepV_free istepV_guard dseq_nil dseq_pu dseq_rd dseq_ef wpc_regT dtree_nil dtree_pu dtree_rd dtree_ef dtree_br chkAll_nil chkAll_cons andK_true pickK_true pickK_false pickK_tb pickK_fb bin2K_pl eqbK_eq eqbK_ne eqpK_eq eqpK_ne eqmK_eq eqmK_ne eqzK_eq eqzK_ne eqzK_sl eqzK_vs un1K_pl convK_int fillK_some fillA_cons fillA_nil cellsK_some needK_true needK_ok seeK_ep seeK_ptr oneK_agg oneK_one nilcK_ptr nilcK_ep fadrK_ptr fadrK_ep fldK_ag iadAK_ptr iadAK_ep iadSK_sl iadSK_vs extK_0 extK_1 extK_2 extK_3 lenK_pl lenK_sl lenK_vs lensK_pl boxK_some minmax1K_int storeK_ptr callvK_fn callvK_pl newsK_nil newsK_vs newsK_sl appK_nil appK_nil0 appK_sl appK_vs bnd1K_int bndK_none bndK_some slsK_vs slsK_nil slsK_sl0 slsK_sl slstrK_pl boolK_some eqsK_ag iop_eqs iop_sls iop_slstr seesK_some seesK_ro mapsK_some MAP_some findK_some findK_none plK_pl nmapK_none nmapK_some iop_mlook iop_mlen iop_mmk iop_mupd iop_mdel iop_mrng itK_none itK_some ptr0K_ptr iop_mnxt iop_ment it1K_some entK_some iop_mov iop_pick iop_bin iop_eqb iop_eqp iop_eqm iop_eqz iop_un capK_pl capK_sl capK_vs iop_cap iop_b2s b2sK_nil b2sK_sl b2sK_vs strK_some iop_idxv idxvK_ag atK_some apzK_nil iop_apz mksK_int iop_mks clrK_sl clrK_vs clrK_nil iop_clr iop_conv iop_build iop_load iop_nilc iop_fadr iop_fld iop_iadA iop_iadS iop_ext iop_mkf iop_len iop_lens iop_minmax iop_al iop_box iop_bsl iop_store iop_call iop_callv iop_app BIN_add BIN_sub BIN_mul BIN_and BIN_or BIN_xor BIN_andNot BIN_eql BIN_neq BIN_lss BIN_leq BIN_gtr BIN_geq BIN_quo BIN_rem BIN_shl BIN_shr BIN_sadd BIN_seql BIN_sneq BIN_slss BIN_sleq BIN_sgtr BIN_sgeq UN_neg UN_xor UN_not MM_nil MM_cons partsA argsA ptrA lessL eqL min2I slotN_int slotP_int slotI_int
attribute [local simp] rc_len rc_t4 rc_t1 rc_t2 rc_t3 rc_d1 rc_d2 rc_d3 rc_d4 rc_ag rc_one rc_eq fd8 m8 sh8 or_nf xor_nf

theorem two2 {G H : AH} {K : AV → AH → Prop} {b : AV} {ra n m : Nat} {cs ds : List AV} {v : Int} (hra : G ra = none) (hr : Row (upd G ra (.cells cs)) H b ds m 1) (hl : cs.length = n) (hn : n ≤ 1000000000) (hv : 0 ≤ v ∧ v ≤ 1000000000000)
    (hk : ∀ r' H', G r' = none → Row (upd G r' (.cells (cs ++ (le2 v).map v8))) H' b ds m 1 → K (.sl r' 0 (n + 2) 1 false) H') : @AC Tryz.prog 35 [.sl ra 0 n 1 false, vi v] H ⟨K⟩ := by
  rcases hr with ⟨rfl, rfl, rfl, rfl⟩ | ⟨rb, rfl, hrb, rfl⟩
  · refine c35 (B := G) (Row.mk hra) hl hn hv fun out H' ho => ?_
    rcases ho with ⟨_, h, _, _⟩ | ⟨r', rfl, hr', rfl⟩
    · simp [le2] at h
    · exact hk _ _ hr' (Row.nil _ 1)
  · obtain ⟨h1, h2, h3⟩ := upd_none'.1 hrb
    have hB : upd G rb (.cells ds) ra = none := by simp only [upd_apply]; rw [if_neg h2]; exact hra
    rw [upd_comm h2]
    refine c35 (B := upd G rb (.cells ds)) (Row.mk hB) hl hn hv fun out H' ho => ?_
    rcases ho with ⟨_, h, _, _⟩ | ⟨r', rfl, hr', rfl⟩
    · simp [le2] at h
    · obtain ⟨g1, g2, g3⟩ := upd_none'.1 hr'
      rw [upd_comm g2]
      refine hk _ _ g3 (Row.mk ?_)
      simp only [upd_apply]
      rw [if_neg g2]
      exact h3
theorem getP_get {l : List Px} {k : Nat} (h : k < l.length) : getP l k = l[k] := by
  unfold getP
  rw [Int.toNat_natCast, List.getD_eq_getElem?_getD, List.getElem?_eq_getElem h]
  rfl
theorem pack_same {o n : Bf} (ho : bOk o = true) (hn : bOk n = true) (bo : BB o) (bn : BB n) {k : Nat} (h1 : k < o.px.length) (h2 : k < n.px.length) : packF (getP o.px k) = packF (getP n.px k) ↔ o.px[k]? = n.px[k]? := by
  rw [getP_get h1, getP_get h2, List.getElem?_eq_getElem h1, List.getElem?_eq_getElem h2]
  have po := (bOk_iff.1 ho).2.2.2 _ (List.getElem_mem h1)
  have pn := (bOk_iff.1 hn).2.2.2 _ (List.getElem_mem h2)
  constructor
  · intro h
    rw [pack_inj po pn (bo _ (List.getElem_mem h1)) (bn _ (List.getElem_mem h2)) h]
  · intro h
    rw [Option.some.inj h]
set_option maxHeartbeats 4000000 in
set_option maxRecDepth 20000 in
theorem c11 {H : AH} {K : AV → AH → Prop} {ap an ad : AV} {o n : Bf} {dam : List R} (ho : Rw H ap (flat pxc o.px) o.px.length 4) (hn : Rw H an (flat pxc n.px) n.px.length 4) (hd : Rr H ad dam)
    (bo : BB o) (bn : BB n) (lo : o.px.length ≤ 10000000) (ln : n.px.length ≤ 10000000) (ld : dam.length ≤ 1000)
    (hk : ∀ out H', Row H H' out ((encM o n dam).1.map v8) (encM o n dam).1.length 1 → K (.tp [out, vi (encM o n dam).2]) H') :
    @AC Tryz.prog 11 [.ag (bfc o.w o.h ap), .ag (bfc n.w n.h an), ad] H ⟨K⟩ := by
  have oap := Rw.one ho
  have oan := Rw.one hn
  have cap := Rw.cells ho
  have can := Rw.cells hn
  have cad := Rw.cells hd
  have hnil : ∀ e : Int, encM o n dam = ([], e) → K (.tp [vnil, vi e]) H := fun e he => by
    have := hk vnil H (by rw [he]; exact Row.nil H 1)
    rw [he] at this
    exact this
  refine AC_of (.forget ?_)
  refine call_c follows cf11_ok (by simp) ?_
  have bl1 : (bfc o.w o.h ap).length = 3 := rfl
  have bl2 : (bfc n.w n.h an).length = 3 := rfl
  simp [bl1, bl2]
  refine newK_of fun z3 hz3 => ?_
  have hs3 : Sub H (upd H z3 (.cells (bfc o.w o.h ap))) := (Sub.refl H).upd hz3
  have k3 : upd H z3 (.cells (bfc o.w o.h ap)) z3 = some (.cells (bfc o.w o.h ap)) := by simp [upd_apply]
  simp [bl1, bl2]
  generalize upd H z3 (.cells (bfc o.w o.h ap)) = Ha at *
  refine newK_of fun z4 hz4 => ?_
  have hs4 : Sub H (upd Ha z4 (.cells (bfc n.w n.h an))) := hs3.trans ((Sub.refl Ha).upd hz4)
  have k4 : upd Ha z4 (.cells (bfc n.w n.h an)) z4 = some (.cells (bfc n.w n.h an)) := by simp [upd_apply]
  have k3' : upd Ha z4 (.cells (bfc n.w n.h an)) z3 = some (.cells (bfc o.w o.h ap)) := ((Sub.refl Ha).upd hz4) _ _ k3
  generalize upd Ha z4 (.cells (bfc n.w n.h an)) = H2 at *
  have t3 : ∀ (w h : Int) (a : AV), (bfc w h a).take 3 = bfc w h a := fun _ _ _ => rfl
  have d0 : ∀ (w h : Int) (a : AV), (bfc w h a).take 1 = [vi w] := fun _ _ _ => rfl
  have d1 : ∀ (w h : Int) (a : AV), ((bfc w h a).drop 1).take 1 = [vi h] := fun _ _ _ => rfl
  have d1' : ∀ (w h : Int) (a : AV), (bfc w h a).tail.take 1 = [vi h] := fun _ _ _ => rfl
  have d2 : ∀ (w h : Int) (a : AV), ((bfc w h a).drop 2).take 1 = [a] := fun _ _ _ => rfl
  have bl : ∀ (w h : Int) (a : AV), (bfc w h a).length = 3 := fun _ _ _ => rfl
  simp [k3', k4, t3, bl]
  refine c23 (ho.sub hs4) lo ?_
  have hm0 : encM o n dam = if (bOk o && bOk n) = true then (if o.w = n.w ∧ o.h = n.h then
    (if 256 < (modF 2 dam [fr o.w o.h]).length then ([], 5) else if covB o n (modF 2 dam [fr o.w o.h]) = true then (encL o n (modF 2 dam [fr o.w o.h]), 0) else ([], 2))
  else ([], 2)) else ([], 15) := rfl
  cases hv1 : bufOk o.w o.h o.px with
  | false =>
    rw [if_neg (by rw [show bOk o = false from hv1]; simp)] at hm0
    simp
    exact ⟨H, hs4, hnil _ hm0⟩
  | true =>
  simp [k3', k4, t3, bl]
  refine c23 (hn.sub hs4) ln ?_
  cases hv2 : bufOk n.w n.h n.px with
  | false =>
    rw [if_neg (by rw [show bOk n = false from hv2]; simp)] at hm0
    simp
    exact ⟨H, hs4, hnil _ hm0⟩
  | true =>
  rw [if_pos (by rw [show bOk o = true from hv1, show bOk n = true from hv2]; rfl)] at hm0
  by_cases hwh : o.w = n.w ∧ o.h = n.h
  case neg =>
    rw [if_neg hwh] at hm0
    have hc : o.w ≠ n.w ∨ (o.w = n.w ∧ o.h ≠ n.h) := by omega
    rcases hc with hc | ⟨hc, hc2⟩
    · simp [k3', k4, bl, d0, d1, d1', hc]
      exact ⟨H, hs4, hnil _ hm0⟩
    · simp [k3', k4, bl, d0, d1, d1', hc, hc2]
      exact ⟨H, hs4, hnil _ hm0⟩
  case pos =>
  rw [if_pos hwh] at hm0
  obtain ⟨bw, bh, blen, bpx⟩ := bufOk_iff.1 hv1
  obtain ⟨bw2, bh2, blen2, bpx2⟩ := bufOk_iff.1 hv2
  have hll : o.px.length = n.px.length := by rw [← hwh.1, ← hwh.2] at blen2; omega
  have hN : o.px.length ≤ 65536 := by
    have : o.w * o.h ≤ 256 * 256 := Int.mul_le_mul (by omega) (by omega) (by omega) (by omega)
    omega
  have hw' : n.w = o.w := hwh.1.symm
  have hh' : n.h = o.h := hwh.2.symm
  simp [k3', k4, bl, d0, d1, d1', hw', hh', t3, cad]
  refine newK_of fun z5 hz5 => ?_
  have hfr : rc ⟨0, 0, o.w, o.h⟩ = rc (fr o.w o.h) := rfl
  rw [hfr]
  have hs5 : Sub H (upd H2 z5 (.cells (rc (fr o.w o.h)))) := hs4.trans ((Sub.refl H2).upd hz5)
  have hs25 : Sub H2 (upd H2 z5 (.cells (rc (fr o.w o.h)))) := (Sub.refl H2).upd hz5
  have hr5 : Rr (upd H2 z5 (.cells (rc (fr o.w o.h)))) (.sl z5 0 1 4 true) [fr o.w o.h] := Rw.sl rfl (by simp [upd_apply, flat])
  generalize upd H2 z5 (.cells (rc (fr o.w o.h))) = H3 at *
  generalize AV.sl z5 0 1 4 true = a5 at *
  have ca5 := Rw.cells hr5
  simp [cad, ca5]
  obtain ⟨L, hL⟩ : ∃ L, modF 2 dam [fr o.w o.h] = L := ⟨_, rfl⟩
  have hcut := mod_cut bw bh dam
  rw [hL] at hm0 hcut
  refine c33 (hd.sub hs5) hr5 (by omega) (by simp) (fun h256 out5 H4 hro => ?_) fun h256 => ?_
  case refine_2 =>
    rw [hL] at h256
    rw [if_pos h256] at hm0
    simp
    exact ⟨H, hs5, hnil _ hm0⟩
  rw [hL] at h256 hro
  rw [if_neg (by omega)] at hm0
  have hLr : Rr H4 out5 L := (hro.rin (flat_len rc_l _)).rd
  have hs34 := hro.sub
  have hs44 : Sub H H4 := hs5.trans hs34
  have hs24 : Sub H2 H4 := hs25.trans hs34
  have k34 := hs24 _ _ k3'
  have k44 := hs24 _ _ k4
  have cL := Rw.cells hLr
  have lL := fun k => Rw.lenK hLr (k := k)
  have hoG := ho.sub hs44
  have hnG := hn.sub hs44
  have hlen4 : L.length ≤ 256 := by omega
  have hclL : cl L = L := cl_self (canon_nemp hcut.can)
  simp [cL]
  -- the difference lies in the region
  have hstep : ∀ (y : Nat), ((y + 1 : Nat) : Int) * o.w = y * o.w + o.w := fun y => by push_cast; rw [Int.add_mul, Int.one_mul]
  have hP : ∀ k : Nat, k < o.px.length → ((k : Int) ∈ posF L o.w ↔ ptF (cl L) ((k : Int) % o.w) ((k : Int) / o.w) = true) := fun k hk1 => by
    rw [posF_mem hcut.fr, hclL]
    constructor
    · exact fun h => h.2
    · exact fun h => ⟨by omega, h⟩
  refine wpc_loop (fun s => ∃ (y : Nat), s.n = 157 ∧ s.H = H4 ∧ s.t 3 = pA z3 ∧ s.t 4 = pA z4 ∧ s.t 8 = out5 ∧ s.t 10 = vi y ∧ (y : Int) ≤ o.h ∧ ∀ k : Nat, (k : Int) < y * o.w → (k : Int) ∈ posF L o.w ∨ o.px[k]? = n.px[k]?) (fun s => o.h.toNat - slotN (s.t 10)) ?_ ?_
  · exact FgK.same ⟨0, by simp, by simp, by simp, by simp, by simp, by simp, by omega, fun k h => by simp at h; omega⟩
  rintro s ⟨y, hg, hH, e3, e4, e8, e10, hy, hcv⟩
  by_cases hyl : (y : Int) < o.h
  · have wy := IntWalk.i64_in ((y : Int) + 1) (by omega)
    simp (disch := omega) [hg, hH, e3, e4, e8, e10, k34, k44, bl, d0, d1, d1', hyl]
    refine wpc_loop (fun s2 => ∃ (x : Nat), s2.n = 157 ∧ s2.H = H4 ∧ s2.t 3 = pA z3 ∧ s2.t 4 = pA z4 ∧ s2.t 8 = out5 ∧ s2.t 10 = vi y ∧ s2.t 11 = vi x ∧ (x : Int) ≤ o.w ∧ ∀ k : Nat, (k : Int) < y * o.w + x → (k : Int) ∈ posF L o.w ∨ o.px[k]? = n.px[k]?) (fun s2 => o.w.toNat - slotN (s2.t 11)) ?_ ?_
    · exact FgK.same ⟨0, by simp, by simp, by simp, by simp, by simp, by simp, by simp, by omega, fun k h => hcv k (by simpa using h)⟩
    rintro s2 ⟨x, hg2, hH2, f3, f4, f8, f10, f11, hx, hcv2⟩
    by_cases hxl : (x : Int) < o.w
    · have wx := IntWalk.i64_in ((x : Int) + 1) (by omega)
      have hrng := co_rng (w := o.w) (h := o.h) (x := x) (y := y) (by omega) hxl (by omega) hyl
      obtain ⟨hdv, hmd⟩ := co_eq (w := o.w) (x := x) (y := y) (by omega) hxl
      obtain ⟨k, hke⟩ : ∃ k : Nat, (y : Int) * o.w + x = k := ⟨((y : Int) * o.w + x).toNat, by omega⟩
      have hko : k < o.px.length := by omega
      have hkn : k < n.px.length := by omega
      have hps := pack_same hv1 hv2 bo bn hko hkn
      rw [hke] at hdv hmd
      have hPk := hP k hko
      rw [hdv, hmd] at hPk
      simp (disch := omega) [hg2, hH2, f3, f4, f8, f10, f11, k34, k44, bl, t3, d0, d1, d1', hxl]
      refine c29 hoG (by omega) (by omega) (by omega) hke hko bo ?_
      simp (disch := omega) [k34, k44, bl, t3]
      refine c29 hnG (by omega) (by omega) (by omega) (by rw [hw']; exact hke) hkn bn ?_
      by_cases hpk : packF (getP o.px k) = packF (getP n.px k)
      · simp (disch := omega) [hpk, wx, f11]
        refine FgK.same ⟨⟨x + 1, by simp [hg2], by simp [hH2], by simp [f3], by simp [f4], by simp [f8], by simp [f10], by simp, by omega, fun j hj => ?_⟩, by simp [f11]; omega⟩
        by_cases hjk : j = k
        · subst hjk; exact .inr (hps.1 hpk)
        · exact hcv2 j (by push_cast at hj; omega)
      · simp (disch := omega) [hpk, f8, f10, f11]
        refine c34 hLr (by omega) ?_
        cases hpt : ptF (cl L) (x : Int) (y : Int) with
        | true =>
          simp (disch := omega) [wx, f11]
          refine FgK.same ⟨⟨x + 1, by simp [hg2], by simp [hH2], by simp [f3], by simp [f4], by simp [f8], by simp [f10], by simp, by omega, fun j hj => ?_⟩, by simp [f11]; omega⟩
          by_cases hjk : j = k
          · subst hjk; exact .inl (hPk.2 hpt)
          · exact hcv2 j (by push_cast at hj; omega)
        | false =>
          have hcn : ¬ covB o n L = true := fun hc => by
            rcases cov_iff.1 hc k hko with h | h
            · rw [hPk.1 h] at hpt; cases hpt
            · exact hpk (hps.2 h)
          rw [if_neg hcn] at hm0
          simp
          exact ⟨H, hs44, hnil _ hm0⟩
    · have hxe : (x : Int) = o.w := by omega
      simp (disch := omega) [hg2, hH2, f3, f4, f8, f10, f11, k34, k44, bl, t3, d0, d1, d1', hxl, wy]
      refine FgK.same ⟨⟨y + 1, by simp [hg2], by simp [hH2], by simp [f3], by simp [f4], by simp [f8], by simp, by omega, fun j hj => hcv2 j ?_⟩, by simp [e10]; omega⟩
      rw [hstep] at hj
      omega
  have hye : (y : Int) = o.h := by omega
  have hcov : covB o n L = true := cov_iff.2 fun k hk1 => hcv k (by rw [hye, Int.mul_comm]; omega)
  rw [if_pos hcov] at hm0
  simp (disch := omega) [hg, hH, e3, e4, e8, e10, k34, k44, bl, d0, d1, d1', hyl, lL]
  refine c35 (B := H4) (Row.nil H4 1) rfl (by omega) (by omega) fun out H5 ho5 => ?_
  rcases ho5 with ⟨_, hbad, _, _⟩ | ⟨ra, rfl, hra, rfl⟩
  · simp [le2] at hbad
  simp
  have hH4 : ∀ {ra : Nat} {c : AO}, H4 ra = none → Sub H4 (upd H4 ra c) := fun h => (Sub.refl H4).upd h
  have hfit : ∀ p ∈ posF L o.w, 0 ≤ p ∧ p < o.px.length := fun p hp => by have := posF_in hcut.fr hp; omega
  have hplen := nodup_len _ _ (posF_nodup hcut.fr hcut.ap) hfit
  refine wpc_loop (fun s => ∃ (i ra : Nat) (al : AV) (cs ps : List Int), s.n = 157 ∧ s.t 3 = pA z3 ∧ s.t 4 = pA z4 ∧ s.t 8 = out5 ∧ s.t 12 = .sl ra 0 cs.length 1 false ∧ s.t 13 = al ∧ s.t 14 = vi i ∧ i ≤ L.length ∧ H4 ra = none ∧
      Row (upd H4 ra (.cells (cs.map v8))) s.H al ((diffF o.px n.px ps).map v32) ps.length 1 ∧ cs ++ (L.drop i).flatMap rb = hdr L ∧ ps ++ posF (L.drop i) o.w = posF L o.w) (fun s => L.length - slotN (s.t 14)) ?_ ?_
  · refine FgK.same ⟨0, ra, vnil, le2 L.length, [], by simp, by simp [e3], by simp [e4], by simp [e8], by simp [le2], by simp, by simp, by omega, hra, ?_, rfl, rfl⟩
    simpa [diffF] using Row.nil (upd H4 ra (.cells ((le2 L.length).map v8))) 1
  clear hyl hcv hy e3 e4 e8 e10 hg hH
  rintro s ⟨i, ra, al, cs, ps, hg, e3, e4, e8, e12, e13, e14, hi, hra, hrow, hcs, hps⟩
  generalize hHeq : s.H = Hs at *
  have hsb : Sub H4 Hs := (hH4 hra).trans hrow.sub
  by_cases hil : i < L.length
  · have wi := IntWalk.i64_in ((i : Int) + 1) (by omega)
    obtain ⟨p, hp1, hp2, hpf⟩ := fat rc_l hLr hil
    have hdrop : L.drop i = L[i] :: L.drop (i + 1) := List.drop_eq_getElem_cons hil
    have hrf := hcut.fr _ (List.getElem_mem hil)
    have hrne := rempty_ok _ (canon_nemp hcut.can _ (List.getElem_mem hil))
    rw [hdrop] at hcs hps
    generalize L[i] = r at *
    obtain ⟨q0, f0, g0⟩ := hpf 0 (vi r.x0) rfl
    obtain ⟨q1, f1, g1⟩ := hpf 1 (vi r.y0) rfl
    obtain ⟨q2, f2, g2⟩ := hpf 2 (vi r.x1) rfl
    obtain ⟨q3, f3, g3⟩ := hpf 3 (vi r.y1) rfl
    have hcl : cs.length ≤ 1000000 := by
      have := congrArg List.length hcs
      rw [List.length_append, hdr_len] at this
      omega
    simp (disch := omega) [hg, hHeq, e3, e4, e8, e12, e13, e14, lL, hil, hp1, f0, f1, f2, f3, g0 _ hsb, g1 _ hsb, g2 _ hsb, g3 _ hsb]
    refine two2 hra hrow (by simp) (by omega) (by omega) fun ra1 H51 hra1 hrow1 => ?_
    have hsb1 : Sub H4 H51 := (hH4 hra1).trans hrow1.sub
    simp (disch := omega) [g1 _ hsb1, g2 _ hsb1, g3 _ hsb1]
    refine two2 hra1 hrow1 (by simp [le2]) (by omega) (by omega) fun ra2 H52 hra2 hrow2 => ?_
    have hsb2 : Sub H4 H52 := (hH4 hra2).trans hrow2.sub
    simp (disch := omega) [g2 _ hsb2, g3 _ hsb2]
    refine two2 hra2 hrow2 (by simp [le2]) (by omega) (by omega) fun ra3 H53 hra3 hrow3 => ?_
    have hsb3 : Sub H4 H53 := (hH4 hra3).trans hrow3.sub
    simp (disch := omega) [g3 _ hsb3]
    refine two2 hra3 hrow3 (by simp [le2]) (by omega) (by omega) fun ra4 H54 hra4 hrow4 => ?_
    have hsb4 : Sub H4 H54 := (hH4 hra4).trans hrow4.sub
    have hce : cs.map v8 ++ (le2 r.x0).map v8 ++ (le2 r.y0).map v8 ++ (le2 r.x1).map v8 ++ (le2 r.y1).map v8 = (cs ++ rb r).map v8 := by simp [rb]
    have hle : cs.length + 2 + 2 + 2 + 2 = (cs ++ rb r).length := by rw [List.length_append, rb_len]
    rw [hce] at hrow4
    rw [hle]
    have hcs' : (cs ++ rb r) ++ (L.drop (i + 1)).flatMap rb = hdr L := by rw [← hcs]; simp
    generalize cs ++ rb r = cs1 at *
    clear hrow1 hrow2 hrow3 hsb1 hsb2 hsb3 hra1 hra2 hra3 hce hle
    simp (disch := omega) [hp1, f1, g1 _ hsb4, e8, e14]
    obtain ⟨Gb, hGb⟩ : ∃ Gb, upd H4 ra4 (.cells (cs1.map v8)) = Gb := ⟨_, rfl⟩
    rw [hGb] at hrow4
    have hgb : Sub H4 Gb := by rw [← hGb]; exact hH4 hra4
    refine wpc_loop (fun s2 => ∃ (y : Int) (al : AV) (ps : List Int), s2.n = 157 ∧ s2.t 3 = pA z3 ∧ s2.t 4 = pA z4 ∧ s2.t 8 = out5 ∧ s2.t 12 = .sl ra4 0 cs1.length 1 false ∧ s2.t 13 = al ∧ s2.t 14 = vi i ∧ s2.t 15 = vi y ∧ (r.y0 ≤ y ∧ y ≤ r.y1) ∧
        Row Gb s2.H al ((diffF o.px n.px ps).map v32) ps.length 1 ∧ ps ++ (((rngI y r.y1).flatMap fun y => rowP o.w y r.x0 r.x1) ++ posF (L.drop (i + 1)) o.w) = posF L o.w) (fun s2 => (r.y1 - slotI (s2.t 15)).toNat) ?_ ?_
    · exact FgK.same ⟨r.y0, al, ps, by simp [hg], by simp [e3], by simp [e4], by simp [e8], by simp, by simp [e13], by simp [e14], by simp, by omega, hrow4, by rw [← hps]; rfl⟩
    clear hrow4 hrow hps hra hcs
    rintro s2 ⟨y, al, ps, hg2, a3, a4, a8, a12, a13, a14, a15, hy, hrow, hps⟩
    generalize hHeq2 : s2.H = Hs2 at *
    have hsb2 : Sub H4 Hs2 := hgb.trans hrow.sub
    by_cases hyl : y < r.y1
    · have wy := IntWalk.i64_in (y + 1) (by omega)
      rw [rngI_cons hyl, List.flatMap_cons, List.append_assoc] at hps
      simp (disch := omega) [hg2, hHeq2, a3, a4, a8, a12, a13, a14, a15, hp1, f3, g3 _ hsb2, f0, g0 _ hsb2, hyl]
      generalize hR : ((rngI (y + 1) r.y1).flatMap fun y => rowP o.w y r.x0 r.x1) ++ posF (L.drop (i + 1)) o.w = R at *
      refine wpc_loop (fun s3 => ∃ (x : Int) (al : AV) (ps : List Int), s3.n = 157 ∧ s3.t 3 = pA z3 ∧ s3.t 4 = pA z4 ∧ s3.t 8 = out5 ∧ s3.t 12 = .sl ra4 0 cs1.length 1 false ∧ s3.t 13 = al ∧ s3.t 14 = vi i ∧ s3.t 15 = vi y ∧ s3.t 16 = vi x ∧ (r.x0 ≤ x ∧ x ≤ r.x1) ∧
        Row Gb s3.H al ((diffF o.px n.px ps).map v32) ps.length 1 ∧ ps ++ (rowP o.w y x r.x1 ++ R) = posF L o.w) (fun s3 => (r.x1 - slotI (s3.t 16)).toNat) ?_ ?_
      · exact FgK.same ⟨r.x0, al, ps, by simp, by simp [a3], by simp [a4], by simp [a8], by simp [a12], by simp [a13], by simp [a14], by simp [a15], by simp, by omega, hrow, hps⟩
      clear hrow hps
      rintro s3 ⟨x, al, ps, hg3, b3, b4', b8, b12, b13, b14, b15, b16, hx, hrow, hps⟩
      generalize hHeq3 : s3.H = Hs3 at *
      have hsb3 : Sub H4 Hs3 := hgb.trans hrow.sub
      by_cases hxl : x < r.x1
      · have wx := IntWalk.i64_in (x + 1) (by omega)
        rw [rowP_cons hxl] at hps
        have hmem : y * o.w + x ∈ posF L o.w := by rw [← hps]; simp
        obtain ⟨hk0, hk1⟩ := hfit _ hmem
        obtain ⟨k, hke⟩ : ∃ k : Nat, y * o.w + x = k := ⟨(y * o.w + x).toNat, by omega⟩
        have hko : k < o.px.length := by omega
        have hkn : k < n.px.length := by omega
        have hpl : ps.length ≤ 65536 := by
          have := congrArg List.length hps
          rw [List.length_append] at this
          omega
        have k35 := hsb3 _ _ k34
        have k45 := hsb3 _ _ k44
        simp (disch := omega) [hg3, hHeq3, b3, b4', b8, b12, b13, b14, b15, b16, hp1, f2, g2 _ hsb3, hxl, k35, k45, bl, t3]
        refine c29 (hoG.sub hsb3) (by omega) (by omega) (by omega) hke hko bo ?_
        simp (disch := omega) [k35, k45, bl, t3]
        refine c29 (hnG.sub hsb3) (by omega) (by omega) (by omega) (by rw [hw']; exact hke) hkn bn ?_
        simp
        refine (c28 _ _).ac ?_
        generalize hX : xorI (packF (getP o.px k)) (packF (getP n.px k)) = X
        simp
        refine newK_of fun yb hyb => ?_
        have hsy : Sub Hs3 (upd Hs3 yb (.cells [v32 X])) := (Sub.refl Hs3).upd hyb
        generalize hx4 : AV.sl yb 0 1 1 true = x4
        have hnw : ∀ k : Nat → List AV → Prop, @NEWS (upd Hs3 yb (.cells [v32 X])) x4 1 ⟨k⟩ = k 1 [v32 X] := by intro k; rw [← hx4]; simp
        simp [hnw, b13]
        refine hrow.app hsy (by decide) rfl (by simp [diff_len]) (by omega) fun rq H' hq hsq => ?_
        simp [b16, wx]
        refine FgK.of _ hsq ⟨⟨x + 1, .sl rq 0 (ps.length + 1) 1 false, ps ++ [(k : Int)], by simp [hg3], by simp [b3], by simp [b4'], by simp [b8], by simp [b12], by simp, by simp [b14], by simp [b15], by simp, by omega, ?_, by rw [← hps, hke]; simp⟩, by simp [b16]; omega⟩
        have := Row.mk (cs := (diffF o.px n.px ps).map v32 ++ [v32 X]) (n := ps.length + 1) (sz := 1) hq
        rw [List.length_append, List.length_singleton]
        have e : (diffF o.px n.px (ps ++ [(k : Int)])).map v32 = (diffF o.px n.px ps).map v32 ++ [v32 X] := by rw [← hX]; simp [diffF]
        rw [e]
        exact this
      · rw [rowP_nil (by omega), List.nil_append] at hps
        simp (disch := omega) [hg3, hHeq3, b3, b4', b8, b12, b13, b14, b15, b16, hp1, f2, g2 _ hsb3, hxl, wy]
        exact FgK.same ⟨⟨y + 1, al, ps, by simp [hg3], by simp [b3], by simp [b4'], by simp [b8], by simp [b12], by simp [b13], by simp [b14], by simp, by omega, hrow, by rw [hR]; exact hps⟩, by simp [a15]; omega⟩
    · rw [rngI_nil (by omega), List.flatMap_nil, List.nil_append] at hps
      simp (disch := omega) [hg2, hHeq2, a3, a4, a8, a12, a13, a14, a15, hp1, f3, g3 _ hsb2, f0, g0 _ hsb2, hyl, wi]
      refine FgK.same ⟨⟨i + 1, ra4, al, cs1, ps, by simp [hg2], by simp [a3], by simp [a4], by simp [a8], by simp [a12], by simp [a13], by simp, by omega, hra4, by rw [hGb]; exact hrow, hcs', hps⟩, by simp [e14]; omega⟩
  · have hie : i = L.length := by omega
    subst hie
    rw [List.drop_length] at hcs hps
    simp only [List.flatMap_nil, posF, List.append_nil] at hcs hps
    have hps : ps = posF L o.w := hps
    subst hcs
    subst hps
    have hal : Rw Hs al ((diffF o.px n.px (posF L o.w)).map v32) (diffF o.px n.px (posF L o.w)).length 1 := by
      have := (hrow.rin (by simp [diff_len])).rd
      rw [diff_len]
      exact this
    have cal := Rw.cells hal
    simp (disch := omega) [hg, hHeq, e3, e4, e8, e12, e13, e14, lL, cal]
    refine c36 hal (by rw [diff_len]; omega) (diff_u32 _ _ _) fun xr H6 hxr => ?_
    have hrl := runs_len (diffF o.px n.px (posF L o.w))
    rw [diff_len] at hrl
    have hel := encR_len (runsF (diffF o.px n.px (posF L o.w)))
    have hxw : Rw H6 xr ((encR (runsF (diffF o.px n.px (posF L o.w)))).map v8) (encR (runsF (diffF o.px n.px (posF L o.w)))).length 1 := (hxr.rin (by simp)).rd
    have hnx := fun k => Rw.news hxw (k := k)
    have hhl := hdr_len L
    have hsH : Sub (upd H ra (.cells ((hdr L).map v8))) H6 := (hs44.cong.trans hrow.sub).trans hxr.sub
    generalize hox : AV.sl ra 0 (hdr L).length 1 false = ox at *
    simp [hnx, e12]
    rw [← hox]
    refine sl_app (hs44.none_of hra) hsH (by simp) (by simp) (by omega) fun r' H' h1 h2 => ?_
    simp
    refine ⟨_, h2, ?_⟩
    have := hk (.sl r' 0 ((hdr L).length + (encR (runsF (diffF o.px n.px (posF L o.w)))).length) 1 false) (upd H r' (.cells ((hdr L).map v8 ++ (encR (runsF (diffF o.px n.px (posF L o.w)))).map v8)))
    rw [hm0] at this
    simp only [encL, List.map_append, List.length_append] at this
    exact this (Row.mk h1)
end Go.Proofs.YtkjkolacnpknoaaGreat
end
