/-
  Several texts in one: C11; C12; C29; C30. Conditions: as each lemma states them.
-/
import Derived.Test.YtkjkolacnpknoaaMC
import Derived.Test.YtkjkolacnpknoaaMD
import Derived.Test.YtkjkolacnpknoaaXRow
import Derived.Test.YtkjkolacnpknoaaRows
import Derived.WalkKit
import Derived.ProofKit
/-! The reference's Runs, walked. Conditions: as each lemma states them. -/
section
namespace Go.Proofs.Ytkjkolacnpknoaa
open Go Go.Ab Go.RowKit
set_option linter.unusedSimpArgs false
set_option linter.unusedVariables false
set_option linter.unnecessarySimpa false

attribute [local simp] condK_true condK_false condK_not wpc_skip wpc_ret wpc_exit wpc_seq wpc_reg wpc_regD testA_bool wpc_cond wpc_block thenA_normal thenA_ret thenA_exit blockA_normal blockA_ret blockA_exit blockA_other endA_normal endA_ret ev_tmp' ev_const ev_func ev_global cv_int cv_bool cv_string cv_pointer cv_slice cv_agg cv_map put_some put_none wH_s setE_apply setE_env less_eq env_cons env_nil upd_upd upd_apply del_apply startA_eq cells_ag cells_sl one_sl cells_vs one_vs cells_ep one_ep cells_fn one_fn cells_int one_int cells_bool one_bool cells_string one_string cells_pointer one_pointer cells_slice one_slice cells_map one_map cells_agg resK_one resK_nil resK_two rvK_t rvK_c rvsK_nil rvsK_cons iseq_nil iseq_cons gdA_true gdA_false gdA_undef istep_free istep_guard istepV_free istepV_guard dseq_nil dseq_pu dseq_rd dseq_ef wpc_regT dtree_nil dtree_pu dtree_rd dtree_ef dtree_br chkAll_nil chkAll_cons andK_true pickK_true pickK_false pickK_tb pickK_fb bin2K_pl eqbK_eq eqbK_ne eqpK_eq eqpK_ne eqmK_eq eqmK_ne eqzK_eq eqzK_ne eqzK_sl eqzK_vs un1K_pl convK_int fillK_some fillA_cons fillA_nil cellsK_some needK_true needK_ok seeK_ep seeK_ptr oneK_agg oneK_one nilcK_ptr nilcK_ep fadrK_ptr fadrK_ep fldK_ag iadAK_ptr iadAK_ep iadSK_sl iadSK_vs extK_0 extK_1 extK_2 extK_3 lenK_pl lenK_sl lenK_vs lensK_pl boxK_some minmax1K_int storeK_ptr callvK_fn callvK_pl newsK_nil newsK_vs newsK_sl appK_nil appK_nil0 appK_sl appK_vs bnd1K_int bndK_none bndK_some slsK_vs slsK_nil slsK_sl0 slsK_sl slstrK_pl boolK_some eqsK_ag iop_eqs iop_sls iop_slstr seesK_some seesK_ro mapsK_some MAP_some findK_some findK_none plK_pl nmapK_none nmapK_some iop_mlook iop_mlen iop_mmk iop_mupd iop_mdel iop_mrng itK_none itK_some ptr0K_ptr iop_mnxt iop_ment it1K_some entK_some iop_mov iop_pick iop_bin iop_eqb iop_eqp iop_eqm iop_eqz iop_un capK_pl capK_sl capK_vs iop_cap iop_b2s b2sK_nil b2sK_sl b2sK_vs strK_some iop_idxv idxvK_ag atK_some apzK_nil iop_apz mksK_int iop_mks clrK_sl clrK_vs clrK_nil iop_clr iop_conv iop_build iop_load iop_nilc iop_fadr iop_fld iop_iadA iop_iadS iop_ext iop_mkf iop_len iop_lens iop_minmax iop_al iop_box iop_bsl iop_store iop_call iop_callv iop_app BIN_add BIN_sub BIN_mul BIN_and BIN_or BIN_xor BIN_andNot BIN_eql BIN_neq BIN_lss BIN_leq BIN_gtr BIN_geq BIN_quo BIN_rem BIN_shl BIN_shr BIN_sadd BIN_seql BIN_sneq BIN_slss BIN_sleq BIN_sgtr BIN_sgeq UN_neg UN_xor UN_not MM_nil MM_cons partsA argsA ptrA lessL eqL min2I slotN_int slotP_int slotI_int
attribute [local simp] fd8 m8 sh8 or_nf xor_nf

theorem c12 {H : AH} {K : AV → AH → Prop} {a : AV} {l : List Int} (ha : Rw H a (l.map v32) l.length 1) (hl : l.length ≤ 1000000) (hu : ∀ x ∈ l, U32 x)
    (hk : ∀ out H', Row H H' out ((encR (runsF l)).map v8) (encR (runsF l)).length 1 → K out H') : @AC Try.prog 12 [a] H ⟨K⟩ := by
  have la := fun k => Rw.lenK ha (k := k)
  refine AC_of (.forget ?_)
  refine call_c follows cf12_ok (by simp) ?_
  simp
  refine wpc_loop (fun s => ∃ (i : Nat) (o : AV) (done : List (Nat × Int)), s.n = 70 ∧ s.t 0 = a ∧ s.t 3 = o ∧ s.t 4 = vi i ∧ i ≤ l.length ∧ done.length ≤ i ∧ runsF l = done ++ runsF (l.drop i) ∧ Row H s.H o ((encR done).map v8) (encR done).length 1) (fun s => l.length - slotN (s.t 4)) ?_ ?_
  · exact FgK.same ⟨0, vnil, [], by simp, by simp, by simp, by simp, by omega, by simp, by simp, by simpa [encR] using Row.nil H 1⟩
  rintro s ⟨i, o, done, hg, e0, e3, e4, hi, hdl, hd, hrow⟩
  generalize hHeq : s.H = Hs at *
  by_cases hlt : i < l.length
  · have hlt' : (i : Int) < l.length := by omega
    simp (disch := omega) [hg, hHeq, e0, e3, e4, la, hlt']
    have hrl := rlen_le l[i] (l.drop (i + 1)) 254
    rw [List.length_drop] at hrl
    have hHs := hrow.sub
    obtain ⟨p, hp1, hp2⟩ := Rw.at1 ha hlt
    have hdr : l.drop i = l[i] :: l.drop (i + 1) := List.drop_eq_getElem_cons hlt
    have hstop := rlen_stop l[i] (l.drop (i + 1)) 254
    have htake := rlen_take l[i] (l.drop (i + 1)) 254
    have hruns : runsF (l.drop i) = (rlen l[i] (l.drop (i + 1)) 254 + 1, l[i]) :: runsF (l.drop (i + (rlen l[i] (l.drop (i + 1)) 254 + 1))) := by
      have e : i + (rlen l[i] (l.drop (i + 1)) 254 + 1) = (i + 1) + rlen l[i] (l.drop (i + 1)) 254 := by omega
      rw [e, hdr]
      generalize l[i] = x
      conv => lhs; unfold runsF
      rw [List.drop_drop]
    generalize hm : rlen l[i] (l.drop (i + 1)) 254 = m at *
    have hux := hu _ (List.getElem_mem hlt)
    generalize hx : l[i] = x at *
    refine wpc_loop (fun s2 => ∃ (j : Nat), s2.n = 70 ∧ s2.H = Hs ∧ s2.t 0 = a ∧ s2.t 3 = o ∧ s2.t 4 = vi i ∧ s2.t 5 = vi ((j : Int) + 1) ∧ j ≤ m) (fun s2 => 300 - slotN (s2.t 5)) ?_ ?_
    · exact FgK.same ⟨0, by simp [hg], by simp [hHeq], by simp [e0], by simp [e3], by simp [e4], by simp, by omega⟩
    rintro s2 ⟨j, hg2, hH2, f0, f3, f4, f5, hj⟩
    have w1 := IntWalk.i64_in ((i : Int) + ((j : Int) + 1)) (by omega)
    have w2 := IntWalk.i64_in ((j : Int) + 1 + 1) (by omega)
    by_cases hjm : j < m
    · -- one more
      have hin : i + (j + 1) < l.length := by omega
      have hin' : (i : Int) + ((j : Int) + 1) < l.length := by omega
      have h255 : (j : Int) + 1 < 255 := by omega
      obtain ⟨q, hq1, hq2⟩ := Rw.at1 (ha.sub hrow.sub) hin
      have hq1 : ∀ k : AV → Prop, @iadSK 1 a (vi ((i : Int) + ((j : Int) + 1))) ⟨k⟩ = k q := fun k => by have := hq1 k; push_cast at this; exact this
      have hjx : l[i + (j + 1)] = x := by
        have h1 : (l.drop (i + 1))[j]? = some x := by
          have := congrArg (·[j]?) htake
          simp only [List.getElem?_take] at this
          rw [if_pos hjm, List.getElem?_replicate, if_pos hjm] at this
          exact this
        rw [List.getElem?_drop, List.getElem?_eq_some_iff] at h1
        obtain ⟨_, h1⟩ := h1
        rw [← h1]
        congr 1; omega
      rw [hjx] at hq2
      simp (disch := omega) [hg2, hH2, f0, f3, f4, f5, la, w1, hin', h255, hp1, hp2 _ hHs, hq1, hq2 _ (Sub.refl _), w2]
      exact FgK.same ⟨⟨j + 1, by simp [hg2], by simp [hH2], by simp [f0], by simp [f3], by simp [f4], by simp, by omega⟩, by simp [f5]; omega⟩
    · have hje : j = m := by omega
      subst hje
      unfold U32 at hux
      have t1 : Int.tmod x 256 = x % 256 := Int.tmod_eq_emod_of_nonneg hux.1
      have t2 : IntKind.u32.wrap (Int.tdiv x 256) = x / 256 := by rw [Int.tdiv_eq_ediv_of_nonneg hux.1]; exact u32_wrap ⟨by omega, by omega⟩
      have t3 : IntKind.u32.wrap (Int.tdiv x 65536) = x / 65536 := by rw [Int.tdiv_eq_ediv_of_nonneg hux.1]; exact u32_wrap ⟨by omega, by omega⟩
      have t4 : IntKind.u32.wrap (Int.tdiv x 16777216) = x / 16777216 := by rw [Int.tdiv_eq_ediv_of_nonneg hux.1]; exact u32_wrap ⟨by omega, by omega⟩
      have t5 : Int.tmod (x / 256) 256 = x / 256 % 256 := Int.tmod_eq_emod_of_nonneg (by omega)
      have t6 : Int.tmod (x / 65536) 256 = x / 65536 % 256 := Int.tmod_eq_emod_of_nonneg (by omega)
      have hm8 : ((j : Int) + 1) % 256 = j + 1 := Int.emod_eq_of_lt (by omega) (by omega)
      have wv := IntWalk.i64_in ((i : Int) + ((j : Int) + 1)) (by omega)
      have hcase : ¬ (i : Int) + ((j : Int) + 1) < l.length ∨ ((i : Int) + ((j : Int) + 1) < l.length ∧ ¬ (j : Int) + 1 < 255) ∨ ((i : Int) + ((j : Int) + 1) < l.length ∧ (j : Int) + 1 < 255) := by omega
      rcases hcase with c1 | ⟨c1, c2⟩ | ⟨c1, c2⟩
      case' inl => simp (disch := omega) [hg2, hH2, f0, f3, f4, f5, la, w1, c1, hm8, hp1, hp2 _ hHs, t1, t2, t3, t4, t5, t6]
      case' inr.inl => simp (disch := omega) [hg2, hH2, f0, f3, f4, f5, la, w1, c1, c2, hm8, hp1, hp2 _ hHs, t1, t2, t3, t4, t5, t6]
      case' inr.inr =>
        have hin : i + (j + 1) < l.length := by omega
        obtain ⟨q, hq1, hq2⟩ := Rw.at1 (ha.sub hrow.sub) hin
        have hq1 : ∀ k : AV → Prop, @iadSK 1 a (vi ((i : Int) + ((j : Int) + 1))) ⟨k⟩ = k q := fun k => by have := hq1 k; push_cast at this; exact this
        have hjx : ¬ l[i + (j + 1)] = x := by
          refine hstop (by omega) _ ?_
          rw [List.getElem?_drop]
          exact List.getElem?_eq_some_iff.2 ⟨by omega, by congr 1; omega⟩
        generalize l[i + (j + 1)] = y at *
        simp (disch := omega) [hg2, hH2, f0, f3, f4, f5, la, w1, c1, c2, hp1, hp2 _ hHs, hq1, hq2 _ (Sub.refl _), hjx, hm8, t1, t2, t3, t4, t5, t6]
      all_goals
        refine newK_of fun y hy => ?_
        have hb4 : [v8 ((j : Int) + 1), v8 (x % 256), v8 (x / 256 % 256), v8 (x / 65536 % 256), v8 (x / 16777216 % 256)] = v8 ((j : Int) + 1) :: (b4 x).map v8 := rfl
        rw [hb4]
        have hsy : Sub Hs (upd Hs y (.cells (v8 ((j : Int) + 1) :: (b4 x).map v8))) := (Sub.refl Hs).upd hy
        generalize hx4 : AV.sl y 0 5 1 true = x4
        have hnw : ∀ k : Nat → List AV → Prop, @NEWS (upd Hs y (.cells (v8 ((j : Int) + 1) :: (b4 x).map v8))) x4 1 ⟨k⟩ = k 5 (v8 ((j : Int) + 1) :: (b4 x).map v8) := by intro k; rw [← hx4]; simp [b4]
        have hlen := encR_len done
        simp [hnw, f3]
        refine hrow.app hsy (by decide) (by simp [b4]) (by simp) (by omega) fun q2 H' hq hsq => ?_
        simp [f4, f5, w1]
        have hds : (encR (done ++ [(j + 1, x)])).map v8 = (encR done).map v8 ++ (v8 ((j : Int) + 1) :: (b4 x).map v8) := by
          rw [encR_app]
          simp [encR]
        have hln : (encR (done ++ [(j + 1, x)])).length = (encR done).length + 5 := by rw [encR_len, encR_len, List.length_append]; simp; omega
        refine FgK.of _ hsq ⟨⟨i + (j + 1), .sl q2 0 ((encR done).length + 5) 1 false, done ++ [(j + 1, x)], by simp, by simp [f0], by simp, by simp, by omega, by simp; omega, by rw [hd, hruns]; simp, ?_⟩, by simp [e4]; omega⟩
        rw [hds, hln]
        exact Row.mk hq
  · have he : i = l.length := by omega
    subst he
    rw [List.drop_length] at hd
    have hnil : runsF [] = [] := by unfold runsF; rfl
    rw [hnil, List.append_nil] at hd
    subst hd
    simp (disch := omega) [hg, hHeq, e0, e3, e4, la]
    exact ⟨Hs, Sub.refl _, hk _ _ hrow⟩
end Go.Proofs.Ytkjkolacnpknoaa
end

/-! The reference's Unruns, walked. Conditions: as each lemma states them. -/
section
namespace Go.Proofs.Ytkjkolacnpknoaa
open Go Go.Ab Go.RowKit
set_option linter.unusedSimpArgs false
set_option linter.unusedVariables false
set_option linter.unnecessarySimpa false

attribute [local simp] condK_true condK_false condK_not wpc_skip wpc_ret wpc_exit wpc_seq wpc_reg wpc_regD testA_bool wpc_cond wpc_block thenA_normal thenA_ret thenA_exit blockA_normal blockA_ret blockA_exit blockA_other endA_normal endA_ret ev_tmp' ev_const ev_func ev_global cv_int cv_bool cv_string cv_pointer cv_slice cv_agg cv_map put_some put_none wH_s setE_apply setE_env less_eq env_cons env_nil upd_upd upd_apply del_apply startA_eq cells_ag cells_sl one_sl cells_vs one_vs cells_ep one_ep cells_fn one_fn cells_int one_int cells_bool one_bool cells_string one_string cells_pointer one_pointer cells_slice one_slice cells_map one_map cells_agg resK_one resK_nil resK_two rvK_t rvK_c rvsK_nil rvsK_cons iseq_nil iseq_cons gdA_true gdA_false gdA_undef istep_free istep_guard istepV_free istepV_guard dseq_nil dseq_pu dseq_rd dseq_ef wpc_regT dtree_nil dtree_pu dtree_rd dtree_ef dtree_br chkAll_nil chkAll_cons andK_true pickK_true pickK_false pickK_tb pickK_fb bin2K_pl eqbK_eq eqbK_ne eqpK_eq eqpK_ne eqmK_eq eqmK_ne eqzK_eq eqzK_ne eqzK_sl eqzK_vs un1K_pl convK_int fillK_some fillA_cons fillA_nil cellsK_some needK_true needK_ok seeK_ep seeK_ptr oneK_agg oneK_one nilcK_ptr nilcK_ep fadrK_ptr fadrK_ep fldK_ag iadAK_ptr iadAK_ep iadSK_sl iadSK_vs extK_0 extK_1 extK_2 extK_3 lenK_pl lenK_sl lenK_vs lensK_pl boxK_some minmax1K_int storeK_ptr callvK_fn callvK_pl newsK_nil newsK_vs newsK_sl appK_nil appK_nil0 appK_sl appK_vs bnd1K_int bndK_none bndK_some slsK_vs slsK_nil slsK_sl0 slsK_sl slstrK_pl boolK_some eqsK_ag iop_eqs iop_sls iop_slstr seesK_some seesK_ro mapsK_some MAP_some findK_some findK_none plK_pl nmapK_none nmapK_some iop_mlook iop_mlen iop_mmk iop_mupd iop_mdel iop_mrng itK_none itK_some ptr0K_ptr iop_mnxt iop_ment it1K_some entK_some iop_mov iop_pick iop_bin iop_eqb iop_eqp iop_eqm iop_eqz iop_un capK_pl capK_sl capK_vs iop_cap iop_b2s b2sK_nil b2sK_sl b2sK_vs strK_some iop_idxv idxvK_ag atK_some apzK_nil iop_apz mksK_int iop_mks clrK_sl clrK_vs clrK_nil iop_clr iop_conv iop_build iop_load iop_nilc iop_fadr iop_fld iop_iadA iop_iadS iop_ext iop_mkf iop_len iop_lens iop_minmax iop_al iop_box iop_bsl iop_store iop_call iop_callv iop_app BIN_add BIN_sub BIN_mul BIN_and BIN_or BIN_xor BIN_andNot BIN_eql BIN_neq BIN_lss BIN_leq BIN_gtr BIN_geq BIN_quo BIN_rem BIN_shl BIN_shr BIN_sadd BIN_seql BIN_sneq BIN_slss BIN_sleq BIN_sgtr BIN_sgeq UN_neg UN_xor UN_not MM_nil MM_cons partsA argsA ptrA lessL eqL min2I slotN_int slotP_int slotI_int
attribute [local simp] fd8 m8 sh8 or_nf xor_nf

theorem at_d {H : AH} {a : AV} {l : List Int} (h : Rw H a (l.map v8) l.length 1) {i c : Nat} {j v : Int} (hj : j = (i : Int) + (c : Int)) (hv : l[i + c]? = some v) : ∃ p, (∀ k : AV → Prop, @iadSK 1 a (vi j) ⟨k⟩ = k p) ∧ ∀ H', Sub H H' → ∀ k : List AV → Prop, @SEE H' p 1 ⟨k⟩ = k [v8 v] := by
  obtain ⟨hi, hv⟩ := List.getElem?_eq_some_iff.1 hv
  obtain ⟨p, h1, h2⟩ := Rw.at1 h hi
  have e : j = ((i + c : Nat) : Int) := by rw [hj]; omega
  refine ⟨p, by rw [e]; exact h1, fun H' hs k => ?_⟩
  rw [h2 H' hs, hv]
set_option maxHeartbeats 2000000 in
theorem c10 {H : AH} {K : AV → AH → Prop} {a : AV} {l : List Int} {most : Int} (ha : Rw H a (l.map v8) l.length 1) (hl : l.length ≤ 1000000) (hu : ∀ x ∈ l, U8 x) (hm : -9223372036854775808 ≤ most) (hm2 : most ≤ 9223372036854775807)
    (hk : ∀ out H', Row H H' out ((unrF most l 0 255 []).1.map v32) (unrF most l 0 255 []).1.length 1 → K (.tp [out, vi (unrF most l 0 255 []).2]) H') : @AC Try.prog 10 [a, vi most] H ⟨K⟩ := by
  have la := fun k => Rw.lenK ha (k := k)
  refine AC_of (.forget ?_)
  refine call_c follows cf10_ok (by simp) ?_
  simp
  refine wpc_loop (fun s => ∃ (i : Nat) (o : AV) (out : List Int) (last size : Int) (bef : Int), s.n = 95 ∧ s.t 0 = a ∧ s.t 1 = vi most ∧ s.t 6 = o ∧ s.t 7 = vi bef ∧ s.t 8 = vi (i : Int) ∧ i ≤ l.length + 4 ∧ (i ≤ l.length ∨ l.length < i) ∧
      out.length ≤ 51 * i ∧ (out = [] ∨ (out.length : Int) ≤ most) ∧ unrF most l 0 255 [] = unrF most (l.drop i) last size out ∧ (i = 0 → size = 255) ∧ (0 < i → bef = size ∧ out.getLast? = some last) ∧ i % 5 = 0 ∧ Row H s.H o (out.map v32) out.length 1) (fun s => l.length + 10 - slotN (s.t 8)) ?_ ?_
  · exact FgK.same ⟨0, vnil, [], 0, 255, 0, by simp, by simp, by simp, by simp, by simp, by simp, by omega, .inl (by omega), by simp, .inl rfl, by simp, fun _ => rfl, fun h => by omega, rfl, by simpa using Row.nil H 1⟩
  rintro s ⟨i, o, out, last, size, bef, hg, e0, e1, e6, e7, e8, hi4, _, hlen, hmo, hun, hi0, hip, h5m, hrow⟩
  generalize hHeq : s.H = Hs at *
  have hHs := hrow.sub
  have hor := (hrow.rin (by simp)).rd
  have lo := fun k => Rw.lenK hor (k := k)
  by_cases hlt : i < l.length
  case neg =>
    have hlt' : ¬ (i : Int) < l.length := by omega
    rw [List.drop_of_length_le (by omega), unrF] at hun
    rw [hun] at hk
    simp (disch := omega) [hg, hHeq, e0, e1, e6, e7, e8, la, hlt', hlt]
    exact ⟨Hs, Sub.refl _, hk _ _ hrow⟩
  have hlt' : (i : Int) < l.length := by omega
  have wd := IntWalk.i64_in ((l.length : Int) - i) (by omega)
  by_cases h5 : l.length - i < 5
  · have h5' : (l.length : Int) - i < 5 := by omega
    have hsh : unrF most (l.drop i) last size out = ([], 4) := unr_short (by intro h; have := congrArg List.length h; simp at this; omega) (by rw [List.length_drop]; exact h5)
    rw [hun.trans hsh] at hk
    simp (disch := omega) [hg, hHeq, e0, e1, e6, e7, e8, la, hlt', hlt, wd, h5']
    exact ⟨H, hHs, hk _ _ (by simpa using Row.nil H 1)⟩
  have h5' : ¬ (l.length : Int) - i < 5 := by omega
  obtain ⟨n, x1, x2, x3, x4, t, hdr⟩ := len5 (r := l.drop i) (by rw [List.length_drop]; exact h5)
  have hget : ∀ c, l[i + c]? = (n :: x1 :: x2 :: x3 :: x4 :: t)[c]? := fun c => by rw [← hdr, List.getElem?_drop]
  have hmem : ∀ v ∈ (n :: x1 :: x2 :: x3 :: x4 :: t), U8 v := fun v hv => hu v (List.mem_of_mem_drop (i := i) (by rw [hdr]; exact hv))
  have hdr5 : l.drop (i + 5) = t := by rw [← List.drop_drop, hdr]; rfl
  obtain ⟨p0, a0, b0⟩ := at_d (c := 0) (i := i) (j := (i : Int)) (v := n) ha (by simp) (hget 0)
  obtain ⟨p1, a1, b1⟩ := at_d (c := 1) (i := i) (j := (i : Int) + 1) (v := x1) ha (by simp) (hget 1)
  obtain ⟨p2, a2, b2⟩ := at_d (c := 2) (i := i) (j := (i : Int) + 2) (v := x2) ha (by simp) (hget 2)
  obtain ⟨p3, a3, b3⟩ := at_d (c := 3) (i := i) (j := (i : Int) + 3) (v := x3) ha (by simp) (hget 3)
  obtain ⟨p4, a4, b4'⟩ := at_d (c := 4) (i := i) (j := (i : Int) + 4) (v := x4) ha (by simp) (hget 4)
  have hn8 := hmem n (by simp)
  have h18 := hmem x1 (by simp)
  have h28 := hmem x2 (by simp)
  have h38 := hmem x3 (by simp)
  have h48 := hmem x4 (by simp)
  have hv32 := (b4_val h18 h28 h38 h48).2
  have hn8' := hn8
  have h18' := h18
  have h28' := h28
  have h38' := h38
  have h48' := h48
  unfold U8 at hn8' h18' h28' h38' h48'
  have wn := IntWalk.i64_in n (by omega)
  have w1 := IntWalk.i64_in ((i : Int) + 1) (by omega)
  have w2 := IntWalk.i64_in ((i : Int) + 2) (by omega)
  have w3 := IntWalk.i64_in ((i : Int) + 3) (by omega)
  have w4 := IntWalk.i64_in ((i : Int) + 4) (by omega)
  have w5 := IntWalk.i64_in ((i : Int) + 5) (by omega)
  have u1 := u32_wrap (n := x1) ⟨by omega, by omega⟩
  have u2 := u32_wrap (n := x2) ⟨by omega, by omega⟩
  have u3 := u32_wrap (n := x3) ⟨by omega, by omega⟩
  have u4 := u32_wrap (n := x4) ⟨by omega, by omega⟩
  have u5 := u32_wrap (n := 256 * x4) ⟨by omega, by omega⟩
  have u6 := u32_wrap (n := x3 + 256 * x4) ⟨by omega, by omega⟩
  have u7 := u32_wrap (n := 256 * (x3 + 256 * x4)) ⟨by omega, by omega⟩
  have u8 := u32_wrap (n := x2 + 256 * (x3 + 256 * x4)) ⟨by omega, by omega⟩
  have u9 := u32_wrap (n := 256 * (x2 + 256 * (x3 + 256 * x4))) ⟨by omega, by omega⟩
  have u10 : IntKind.u32.wrap (x1 + 256 * (x2 + 256 * (x3 + 256 * x4))) = val4 x1 x2 x3 x4 := u32_wrap (n := val4 x1 x2 x3 x4) hv32
  have hstep : unrF most (l.drop i) last size out = (if n = 0 ∨ (size < 255 ∧ val4 x1 x2 x3 x4 = last) then ([], 3) else if most - out.length < n then ([], 5) else unrF most t (val4 x1 x2 x3 x4) n (out ++ List.replicate n.toNat (val4 x1 x2 x3 x4))) := by
    rw [hdr, unrF]
  rw [hstep] at hun
  clear hstep
  generalize hV : val4 x1 x2 x3 x4 = V at *
  have hkn : ∀ e : Int, unrF most l 0 255 [] = ([], e) → K (.tp [vnil, vi e]) H := fun e he => by
    rw [he] at hk
    exact hk _ _ (by simpa using Row.nil H 1)
  have hcase : n = 0 ∨ (n ≠ 0 ∧ i = 0) ∨ (n ≠ 0 ∧ 0 < i ∧ ¬ bef < 255) ∨ (n ≠ 0 ∧ 0 < i ∧ bef < 255 ∧ last = V) ∨ (n ≠ 0 ∧ 0 < i ∧ bef < 255 ∧ last ≠ V) := by omega
  have hlastp : 0 < i → ∃ (pl : AV), 0 < out.length ∧ (∀ k : AV → Prop, @iadSK 1 o (vi ((out.length : Int) - 1)) ⟨k⟩ = k pl) ∧ ∀ k : List AV → Prop, @SEE Hs pl 1 ⟨k⟩ = k [v32 last] := fun h => by
    have hgl := (hip h).2
    have hne : out ≠ [] := by rintro rfl; simp at hgl
    have hpos : 0 < out.length := by
      cases out with
      | nil => exact absurd rfl hne
      | cons x r => simp
    obtain ⟨pl, q1, q2⟩ := Rw.at1 hor (i := out.length - 1) (by omega)
    have ec : (((out.length - 1 : Nat)) : Int) = (out.length : Int) - 1 := by omega
    rw [ec] at q1
    have el : out[out.length - 1] = last := by
      rw [List.getLast?_eq_getElem?, List.getElem?_eq_getElem (by omega)] at hgl
      exact Option.some.inj hgl
    rw [el] at q2
    exact ⟨pl, hpos, q1, q2 _ (Sub.refl _)⟩
  have wo := IntWalk.i64_in ((out.length : Int) - 1) (by omega)
  rcases hcase with c1 | ⟨c1, c2⟩ | ⟨c1, c2, c3⟩ | ⟨c1, c2, c3, c4⟩ | ⟨c1, c2, c3, c4⟩
  · rw [if_pos (.inl c1)] at hun
    have w0 : IntKind.i64.wrap 0 = 0 := by decide
    subst c1
    simp (disch := omega) [hg, hHeq, e0, e1, e6, e7, e8, la, hlt', hlt, wd, h5', a0, b0 _ hHs, a1, b1 _ hHs, a2, b2 _ hHs, a3, b3 _ hHs, a4, b4' _ hHs, wn, w1, w2, w3, w4, u1, u2, u3, u4, u5, u6, u7, u8, u9, u10, w0]
    exact ⟨H, hHs, hkn _ hun⟩
  case' inr.inl =>
    rw [if_neg (fun h => h.elim c1 (fun h => by have := hi0 c2; omega))] at hun
    have c2' : ¬ (0 : Int) < i := by omega
    have c2n : ¬ 0 < i := by omega
    simp (disch := omega) [hg, hHeq, e0, e1, e6, e7, e8, la, hlt', hlt, wd, h5', a0, b0 _ hHs, a1, b1 _ hHs, a2, b2 _ hHs, a3, b3 _ hHs, a4, b4' _ hHs, wn, w1, w2, w3, w4, u1, u2, u3, u4, u5, u6, u7, u8, u9, u10, c1, c2', c2n, lo]
  case' inr.inr.inl =>
    have hb := (hip c2).1
    rw [if_neg (fun h => h.elim c1 (fun h => by omega))] at hun
    have c2' : (0 : Int) < i := by omega
    simp (disch := omega) [hg, hHeq, e0, e1, e6, e7, e8, la, hlt', hlt, wd, h5', a0, b0 _ hHs, a1, b1 _ hHs, a2, b2 _ hHs, a3, b3 _ hHs, a4, b4' _ hHs, wn, w1, w2, w3, w4, u1, u2, u3, u4, u5, u6, u7, u8, u9, u10, c1, c2, c2', c3, lo]
  case' inr.inr.inr.inl =>
    have hb := (hip c2).1
    obtain ⟨pl, hop, q1, q2⟩ := hlastp c2
    rw [if_pos (.inr ⟨by omega, c4.symm⟩)] at hun
    have c2' : (0 : Int) < i := by omega
    simp (disch := omega) [hg, hHeq, e0, e1, e6, e7, e8, la, hlt', hlt, wd, h5', a0, b0 _ hHs, a1, b1 _ hHs, a2, b2 _ hHs, a3, b3 _ hHs, a4, b4' _ hHs, wn, w1, w2, w3, w4, u1, u2, u3, u4, u5, u6, u7, u8, u9, u10, c1, c2, c2', c3, c4, lo, wo, q1, q2]
    exact ⟨H, hHs, hkn _ hun⟩
  case' inr.inr.inr.inr =>
    have hb := (hip c2).1
    obtain ⟨pl, hop, q1, q2⟩ := hlastp c2
    rw [if_neg (fun h => h.elim c1 (fun h => c4 h.2.symm))] at hun
    have c2' : (0 : Int) < i := by omega
    simp (disch := omega) [hg, hHeq, e0, e1, e6, e7, e8, la, hlt', hlt, wd, h5', a0, b0 _ hHs, a1, b1 _ hHs, a2, b2 _ hHs, a3, b3 _ hHs, a4, b4' _ hHs, wn, w1, w2, w3, w4, u1, u2, u3, u4, u5, u6, u7, u8, u9, u10, c1, c2, c2', c3, c4, lo, wo, q1, q2]
  all_goals
    have wm := IntWalk.i64_in (most - (out.length : Int)) (by rcases hmo with h | h; rw [h]; simp; omega; omega)
    by_cases hlim : most - out.length < n
    · rw [if_pos hlim] at hun
      simp [wm, hlim]
      exact ⟨H, hHs, hkn _ hun⟩
    · rw [if_neg hlim] at hun
      simp [wm, hlim]
      have hrel : Row H Hs o ((out ++ List.replicate 0 V).map v32) (out.length + 0) 1 := by simpa using hrow
      refine wpc_loop (fun s2 => ∃ (j : Nat) (o2 : AV), s2.n = 95 ∧ s2.t 0 = a ∧ s2.t 1 = vi most ∧ s2.t 6 = o2 ∧ s2.t 8 = vi (i : Int) ∧ s2.t 9 = vi n ∧ s2.t 10 = v32 V ∧ s2.t 11 = vi j ∧ j ≤ n.toNat ∧ Row H s2.H o2 ((out ++ List.replicate j V).map v32) (out.length + j) 1) (fun s2 => n.toNat - slotN (s2.t 11)) ?_ ?_
      · exact FgK.same ⟨0, o, by simp, by simp, by simp, by simp, by simp [e8], by simp, by simp, by simp, by omega, hrel⟩
      rintro s2 ⟨j, o2, hg2, f0, f1, f6, f8, f9, f10, f11, hj, hrow2⟩
      generalize hHeq2 : s2.H = Hs2 at *
      by_cases hjn : j < n.toNat
      · have hjn' : (j : Int) < n := by omega
        have wj := IntWalk.i64_in ((j : Int) + 1) (by omega)
        simp (disch := omega) [hg2, hHeq2, f0, f1, f6, f8, f9, f10, f11, hjn']
        refine newK_of fun y hy => ?_
        have hsy : Sub Hs2 (upd Hs2 y (.cells [v32 V])) := (Sub.refl Hs2).upd hy
        generalize hx4 : AV.sl y 0 1 1 true = x4
        have hnw : ∀ k : Nat → List AV → Prop, @NEWS (upd Hs2 y (.cells [v32 V])) x4 1 ⟨k⟩ = k 1 [v32 V] := by intro k; rw [← hx4]; simp
        simp [hnw, f6]
        refine hrow2.app hsy (by decide) rfl (by simp) (by omega) fun q2 H' hq hsq => ?_
        simp [f11, wj]
        refine FgK.of _ hsq ⟨⟨j + 1, .sl q2 0 (out.length + j + 1) 1 false, by simp, by simp [f0], by simp [f1], by simp, by simp [f8], by simp [f9], by simp [f10], by simp, by omega, ?_⟩, by simp [f11]; omega⟩
        have := Row.mk (cs := out.map v32 ++ (List.replicate j V).map v32 ++ [v32 V]) (n := out.length + (j + 1)) (sz := 1) hq
        rw [rep_snoc, ← List.append_assoc]
        simp only [List.map_append, List.map_cons, List.map_nil]
        exact this
      · have hje : j = n.toNat := by omega
        subst hje
        have hnn : ((n.toNat : Nat) : Int) = n := by omega
        rw [hnn] at f11
        simp (disch := omega) [hg2, hHeq2, f0, f1, f6, f8, f9, f10, f11, w5]
        refine FgK.same ⟨⟨i + 5, o2, out ++ List.replicate n.toNat V, V, n, n, by simp, by simp [f0], by simp [f1], by simp [f6], by simp, by simp, by omega, by omega, ?_, .inr ?_, ?_, by omega, fun _ => ⟨rfl, ?_⟩, by omega, ?_⟩, ?_⟩
        · simp; omega
        · simp; omega
        · rw [hdr5]; exact hun
        · have hpn : 0 < n.toNat := by omega
          obtain ⟨m', hm'⟩ : ∃ m', n.toNat = m' + 1 := ⟨n.toNat - 1, by omega⟩
          rw [hm', rep_snoc, ← List.append_assoc, List.getLast?_append]
          simp
        · have := hrow2
          rw [List.length_append, List.length_replicate]
          exact this
        · simp [e8]; omega
end Go.Proofs.Ytkjkolacnpknoaa
end

/-! CodecRuns, walked. Conditions: as each lemma states them. -/
section
namespace Go.Proofs.Ytkjkolacnpknoaa
open Go Go.Ab Go.RowKit
set_option linter.unusedSimpArgs false
set_option linter.unusedVariables false
set_option linter.unnecessarySimpa false

attribute [local simp] condK_true condK_false condK_not wpc_skip wpc_ret wpc_exit wpc_seq wpc_reg wpc_regD testA_bool wpc_cond wpc_block thenA_normal thenA_ret thenA_exit blockA_normal blockA_ret blockA_exit blockA_other endA_normal endA_ret ev_tmp' ev_const ev_func ev_global cv_int cv_bool cv_string cv_pointer cv_slice cv_agg cv_map put_some put_none wH_s setE_apply setE_env less_eq env_cons env_nil upd_upd upd_apply del_apply startA_eq cells_ag cells_sl one_sl cells_vs one_vs cells_ep one_ep cells_fn one_fn cells_int one_int cells_bool one_bool cells_string one_string cells_pointer one_pointer cells_slice one_slice cells_map one_map cells_agg resK_one resK_nil resK_two rvK_t rvK_c rvsK_nil rvsK_cons iseq_nil iseq_cons gdA_true gdA_false gdA_undef istep_free istep_guard istepV_free istepV_guard dseq_nil dseq_pu dseq_rd dseq_ef wpc_regT dtree_nil dtree_pu dtree_rd dtree_ef dtree_br chkAll_nil chkAll_cons andK_true pickK_true pickK_false pickK_tb pickK_fb bin2K_pl eqbK_eq eqbK_ne eqpK_eq eqpK_ne eqmK_eq eqmK_ne eqzK_eq eqzK_ne eqzK_sl eqzK_vs un1K_pl convK_int fillK_some fillA_cons fillA_nil cellsK_some needK_true needK_ok seeK_ep seeK_ptr oneK_agg oneK_one nilcK_ptr nilcK_ep fadrK_ptr fadrK_ep fldK_ag iadAK_ptr iadAK_ep iadSK_sl iadSK_vs extK_0 extK_1 extK_2 extK_3 lenK_pl lenK_sl lenK_vs lensK_pl boxK_some minmax1K_int storeK_ptr callvK_fn callvK_pl newsK_nil newsK_vs newsK_sl appK_nil appK_nil0 appK_sl appK_vs bnd1K_int bndK_none bndK_some slsK_vs slsK_nil slsK_sl0 slsK_sl slstrK_pl boolK_some eqsK_ag iop_eqs iop_sls iop_slstr seesK_some seesK_ro mapsK_some MAP_some findK_some findK_none plK_pl nmapK_none nmapK_some iop_mlook iop_mlen iop_mmk iop_mupd iop_mdel iop_mrng itK_none itK_some ptr0K_ptr iop_mnxt iop_ment it1K_some entK_some iop_mov iop_pick iop_bin iop_eqb iop_eqp iop_eqm iop_eqz iop_un capK_pl capK_sl capK_vs iop_cap iop_b2s b2sK_nil b2sK_sl b2sK_vs strK_some iop_idxv idxvK_ag atK_some apzK_nil iop_apz mksK_int iop_mks clrK_sl clrK_vs clrK_nil iop_clr iop_conv iop_build iop_load iop_nilc iop_fadr iop_fld iop_iadA iop_iadS iop_ext iop_mkf iop_len iop_lens iop_minmax iop_al iop_box iop_bsl iop_store iop_call iop_callv iop_app BIN_add BIN_sub BIN_mul BIN_and BIN_or BIN_xor BIN_andNot BIN_eql BIN_neq BIN_lss BIN_leq BIN_gtr BIN_geq BIN_quo BIN_rem BIN_shl BIN_shr BIN_sadd BIN_seql BIN_sneq BIN_slss BIN_sleq BIN_sgtr BIN_sgeq UN_neg UN_xor UN_not MM_nil MM_cons partsA argsA ptrA lessL eqL min2I slotN_int slotP_int slotI_int
attribute [local simp] rc_len rc_t4 rc_t1 rc_t2 rc_t3 rc_d1 rc_d2 rc_d3 rc_d4 rc_ag rc_one rc_eq

theorem unr_len' (most : Int) : ∀ (b : List Int) (last size : Int) (out u : List Int) (e : Int), out.length + 51 * b.length ≤ 100000000 → unrF most b last size out = (u, e) → (∀ x ∈ b, U8 x) → u.length ≤ 100000000
  | [], _, _, out, u, _, ho, h, _ => by rw [unrF] at h; injection h with h1 _; subst h1; simp at ho; omega
  | [a], _, _, _, _, _, _, h, _ => by rw [unr_short (by simp) (by simp)] at h; injection h with h1 h2; subst h1; simp
  | [a, b], _, _, _, _, _, _, h, _ => by rw [unr_short (by simp) (by simp)] at h; injection h with h1 h2; subst h1; simp
  | [a, b, c], _, _, _, _, _, _, h, _ => by rw [unr_short (by simp) (by simp)] at h; injection h with h1 h2; subst h1; simp
  | [a, b, c, d], _, _, _, _, _, _, h, _ => by rw [unr_short (by simp) (by simp)] at h; injection h with h1 h2; subst h1; simp
  | n :: a :: b :: c :: d :: r, last, size, out, u, e, ho, h, hb => by
    rw [unrF] at h
    have hn := hb n (by simp)
    unfold U8 at hn
    by_cases h1 : n = 0 ∨ (size < 255 ∧ val4 a b c d = last)
    · rw [if_pos h1] at h; injection h with h1 h2; subst h1; simp
    · rw [if_neg h1] at h
      by_cases h2 : most - out.length < n
      · rw [if_pos h2] at h; injection h with h1 h2; subst h1; simp
      · rw [if_neg h2] at h
        exact unr_len' most r _ _ _ _ _ (by simp at ho ⊢; omega) h fun x hx => hb x (by simp [hx])
set_option maxHeartbeats 1000000 in
theorem c3 {H : AH} {K : AV → AH → Prop} {a b : AV} {l bs : List Int} {most : Int} (ha : Rw H a (l.map v32) l.length 1) (hb : Rw H b (bs.map v8) bs.length 1) (h32 : ∀ x ∈ l, U32 x) (h8 : ∀ x ∈ bs, U8 x) (hm : -9223372036854775808 ≤ most) (hm2 : most ≤ 9223372036854775807) (hk : K (vb true) H) :
    @AC Try.prog 3 [a, b, vi most] H ⟨K⟩ := by
  have la := fun k => Rw.lenK ha (k := k)
  have lb := fun k => Rw.lenK hb (k := k)
  have ca := Rw.cells ha
  have cb := Rw.cells hb
  refine AC_of (.forget ?_)
  refine call_c follows cf3_ok (by simp) ?_
  by_cases h1 : 2000 < l.length
  · have h1' : (2000 : Int) < l.length := by omega
    simp [la, h1, h1']
    refine c8 ?_
    simp
    exact ⟨H, Sub.refl _, hk⟩
  by_cases h2 : 4000 < bs.length
  · have h2' : (4000 : Int) < bs.length := by omega
    have h1' : ¬ (2000 : Int) < l.length := by omega
    simp [la, lb, h1, h1', h2, h2']
    refine c8 ?_
    simp
    exact ⟨H, Sub.refl _, hk⟩
  have h1' : ¬ (2000 : Int) < l.length := by omega
  have h2' : ¬ (4000 : Int) < bs.length := by omega
  simp [la, lb, h1, h1', h2, h2', ca, cb]
  refine c9 (most := most) hb (by omega) h8 hm hm2 fun u H1 hu => ?_
  have hur : Rw H1 u ((unrF most bs 0 255 []).1.map v32) (unrF most bs 0 255 []).1.length 1 := (hu.rin (by simp)).rd
  obtain ⟨⟨U, e⟩, hU⟩ : ∃ q, unrF most bs 0 255 [] = q := ⟨_, rfl⟩
  have hlu : U.length ≤ 100000000 := unr_len' most bs 0 255 [] U e (by simp; omega) hU h8
  rw [hU] at hur hu ⊢
  simp only at hur hu ⊢
  have cu := Rw.cells hur
  have hs1 := hu.sub
  simp [cu, cb]
  refine c10 (most := most) (hb.sub hs1) (by omega) h8 hm hm2 fun w H2 hw => ?_
  have hwr : Rw H2 w ((unrF most bs 0 255 []).1.map v32) (unrF most bs 0 255 []).1.length 1 := (hw.rin (by simp)).rd
  rw [hU] at hwr hw ⊢
  simp only at hwr hw ⊢
  have cw := Rw.cells hwr
  have hs2 := hs1.trans hw.sub
  simp [cw, ca]
  refine c11 (ha.sub hs2) (by omega) fun x H3 hx => ?_
  have hxr : Rw H3 x ((encR (runsF l)).map v8) (encR (runsF l)).length 1 := (hx.rin (by simp)).rd
  have cx := Rw.cells hxr
  have hs3 := hs2.trans hx.sub
  have hstx := fun k => Rw.str hxr (k := k)
  simp [cx, ca, hstx]
  refine c12 (ha.sub hs3) (by omega) h32 fun y H4 hy => ?_
  have hyr : Rw H4 y ((encR (runsF l)).map v8) (encR (runsF l)).length 1 := (hy.rin (by simp)).rd
  have cy := Rw.cells hyr
  have hs4 := hs3.trans hy.sub
  have hsty := fun k => Rw.str hyr (k := k)
  have hu4 := (hur.sub hw.sub).sub (hx.sub.trans hy.sub)
  have hw4 := hwr.sub (hx.sub.trans hy.sub)
  have cu4 := Rw.cells hu4
  have cw4 := Rw.cells hw4
  have hstx4 := fun k => Rw.str (hxr.sub hy.sub) (k := k)
  simp [cy, hsty, cu4, cw4, hstx4]
  refine c13 hu4 hw4 hlu ?_
  simp
  refine c8 ?_
  simp
  exact ⟨H, hs4, hk⟩
end Go.Proofs.Ytkjkolacnpknoaa
end

/-! CodecRuns: for every numbers, bytes and limit the law returns true, and its arguments read as they did. No conditions: every input that the row admits. -/
section
namespace Go.Proofs.Ytkjkolacnpknoaa
open Go Go.Ab Go.RowKit Go.ChangeShapes Go.WideShapes Go.ChangeAt
set_option linter.unusedSimpArgs false
set_option linter.unusedVariables false
set_option linter.unnecessarySimpa false

attribute [local simp] condK_true condK_false condK_not wpc_skip wpc_ret wpc_exit wpc_seq wpc_reg wpc_regD testA_bool wpc_cond wpc_block thenA_normal thenA_ret thenA_exit blockA_normal blockA_ret blockA_exit blockA_other endA_normal endA_ret ev_tmp' ev_const ev_func ev_global cv_int cv_bool cv_string cv_pointer cv_slice cv_agg cv_map put_some put_none wH_s setE_apply setE_env less_eq env_cons env_nil upd_upd upd_apply del_apply startA_eq cells_ag cells_sl one_sl cells_vs one_vs cells_ep one_ep cells_fn one_fn cells_int one_int cells_bool one_bool cells_string one_string cells_pointer one_pointer cells_slice one_slice cells_map one_map cells_agg resK_one resK_nil resK_two rvK_t rvK_c rvsK_nil rvsK_cons iseq_nil iseq_cons gdA_true gdA_false gdA_undef istep_free istep_guard istepV_free istepV_guard dseq_nil dseq_pu dseq_rd dseq_ef wpc_regT dtree_nil dtree_pu dtree_rd dtree_ef dtree_br chkAll_nil chkAll_cons andK_true pickK_true pickK_false pickK_tb pickK_fb bin2K_pl eqbK_eq eqbK_ne eqpK_eq eqpK_ne eqmK_eq eqmK_ne eqzK_eq eqzK_ne eqzK_sl eqzK_vs un1K_pl convK_int fillK_some fillA_cons fillA_nil cellsK_some needK_true needK_ok seeK_ep seeK_ptr oneK_agg oneK_one nilcK_ptr nilcK_ep fadrK_ptr fadrK_ep fldK_ag iadAK_ptr iadAK_ep iadSK_sl iadSK_vs extK_0 extK_1 extK_2 extK_3 lenK_pl lenK_sl lenK_vs lensK_pl boxK_some minmax1K_int storeK_ptr callvK_fn callvK_pl newsK_nil newsK_vs newsK_sl appK_nil appK_nil0 appK_sl appK_vs bnd1K_int bndK_none bndK_some slsK_vs slsK_nil slsK_sl0 slsK_sl slstrK_pl boolK_some eqsK_ag iop_eqs iop_sls iop_slstr seesK_some seesK_ro mapsK_some MAP_some findK_some findK_none plK_pl nmapK_none nmapK_some iop_mlook iop_mlen iop_mmk iop_mupd iop_mdel iop_mrng itK_none itK_some ptr0K_ptr iop_mnxt iop_ment it1K_some entK_some iop_mov iop_pick iop_bin iop_eqb iop_eqp iop_eqm iop_eqz iop_un capK_pl capK_sl capK_vs iop_cap iop_b2s b2sK_nil b2sK_sl b2sK_vs strK_some iop_idxv idxvK_ag atK_some apzK_nil iop_apz mksK_int iop_mks clrK_sl clrK_vs clrK_nil iop_clr iop_conv iop_build iop_load iop_nilc iop_fadr iop_fld iop_iadA iop_iadS iop_ext iop_mkf iop_len iop_lens iop_minmax iop_al iop_box iop_bsl iop_store iop_call iop_callv iop_app BIN_add BIN_sub BIN_mul BIN_and BIN_or BIN_xor BIN_andNot BIN_eql BIN_neq BIN_lss BIN_leq BIN_gtr BIN_geq BIN_quo BIN_rem BIN_shl BIN_shr BIN_sadd BIN_seql BIN_sneq BIN_slss BIN_sleq BIN_sgtr BIN_sgeq UN_neg UN_xor UN_not MM_nil MM_cons partsA argsA ptrA lessL eqL min2I slotN_int slotP_int slotI_int

theorem i64_of {n : Int} (h : (Lit.int .i64 n).wf = true) : -9223372036854775808 ≤ n ∧ n ≤ 9223372036854775807 := by
  simpa [Lit.wf, IntKind.signed, IntKind.min, IntKind.max, IntKind.bits] using h
theorem law_CodecRuns (xs : List AV) (hf : FitsT [(false, [.sl [.i .u32]]), (false, [.sl [.i .u8]]), (false, [.i .i64])] xs) : ACall Try.prog 3 xs (fun _ => none) (fun v _ => v = vb true) := by
  obtain ⟨a, r, rfl, h1, hf⟩ := hf.cons
  obtain ⟨b, r, rfl, h2, hf⟩ := hf.cons
  obtain ⟨m, rfl, h3⟩ := hf.one
  obtain ⟨l, g1, g2, _⟩ := fitU (P := U32) (fun n h => u32_of h) (fitOne (ls := []) h1)
  obtain ⟨bs, g3, g4, _⟩ := fitU (P := U8) (fun n h => u8_of h) (fitOne (ls := []) h2)
  obtain ⟨n, rfl, w⟩ := (fitOne (ls := []) h3).i_inv
  have := i64_of w
  exact c3 (g1 _) (g3 _) g2 g4 this.1 this.2 rfl
set_option maxRecDepth 100000

theorem codecRuns_lifted (os : Os) (started : os.Started) (H : Type) (enc : TypeId × Value → H) :
    ReturnsInHanded {} Try.checked os 3 .any (Rows.codecRunsSpec.pre6 enc Try.prog Try.f3 Rows.codecRunsRow.domain false) (Rows.codecRunsSpec.post enc Try.prog Try.f3 false true false false) := by
  refine returnsInHanded_of_change_sized (C := Try.checked) own started (by kernel_rfl) Try.func3
    (ChangeSpec.witness6 (enc := enc) (C := Try.checked) false ⟨#[], #[.slice none 0 0, .slice none 0 0, .int .i64 0], []⟩ 8 (by kernel_rfl) (by kernel_rfl) (by kernel_rfl) (by kernel_rfl)) ?_
  intro W base args ds gs before hval hW _ _ _
  refine law_contract (L := [(false, [.sl [.i .u32]]), (false, [.sl [.i .u8]]), (false, [.i .i64])]) laidOut (by kernel_rfl) rfl (fun ds hd => ?_) ⟨_, rfl, by kernel_rfl⟩ ?_ (fun xs hf => law_CodecRuns xs hf) W base args ds gs before hval hW
  · match ds, hd with
    | [d0, d1, d2], _ => exact ⟨rfl, rfl, rfl⟩
  · exact of_decide_eq_true (by kernel_rfl)

theorem codecRuns_holds : Rows.CodecRunsSaid :=
  OpenClaim.holds_of_wide 3 Try.f3 rfl rfl rfl rfl rfl rfl rfl ⟨rfl, rfl, rfl, rfl, rfl⟩ rfl rfl rfl rfl rfl (by kernel_rfl) Try.func3 (by kernel_rfl)
    (of_decide_eq_true (by kernel_rfl)) (by unfold Func.isWrapper; first | (rw [if_pos (by decide +kernel)]; kernel_rfl) | (rw [if_neg (by decide +kernel)]; exact ⟨rfl, rfl⟩))
    (fun os started H enc _ => codecRuns_lifted os started H enc)
end Go.Proofs.Ytkjkolacnpknoaa
end
