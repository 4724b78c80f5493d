/-
  The reference's roles: Role, Active, Of, New, Assign, Release, Destroy, and the law's calls. Conditions: as each lemma states them.
-/
import Derived.Test.YtnlckmkjhpaloaaQ12
namespace Go.Proofs.Ytnlckmkjhpaloaa
open Go Go.Ab Go.RowKit
set_option linter.unusedSimpArgs false
set_option linter.unusedVariables false
set_option linter.unnecessarySimpa false

attribute [local simp] condK_true condK_false condK_not wpc_skip wpc_ret wpc_exit wpc_seq wpc_reg wpc_regD testA_bool wpc_cond wpc_block thenA_normal thenA_ret thenA_exit blockA_normal blockA_ret blockA_exit blockA_other endA_normal endA_ret ev_tmp' ev_const ev_func ev_global cv_int cv_bool cv_string cv_pointer cv_slice cv_agg put_some put_none wH_s setE_apply setE_env less_eq env_cons env_nil upd_upd upd_apply del_apply startA_eq cells_ag cells_sl one_sl cells_vs one_vs cells_ep one_ep cells_fn one_fn cells_int one_int cells_bool one_bool cells_string one_string cells_pointer one_pointer cells_slice one_slice cells_map one_map cells_agg resK_one resK_nil resK_two rvK_t rvK_c rvsK_nil rvsK_cons iseq_nil iseq_cons gdA_true gdA_false gdA_undef istep_free istep_guard istepV_free istepV_guard dseq_nil dseq_pu dseq_rd dseq_ef chkAll_nil chkAll_cons andK_true pickK_true pickK_false pickK_tb pickK_fb bin2K_pl eqbK_eq eqbK_ne eqpK_eq eqpK_ne un1K_pl convK_int fillK_some fillA_cons fillA_nil cellsK_some needK_true needK_ok seeK_ep seeK_ptr oneK_agg oneK_one nilcK_ptr nilcK_ep fadrK_ptr fadrK_ep fldK_ag iadAK_ptr iadAK_ep iadSK_sl iadSK_vs extK_0 extK_1 extK_2 extK_3 lenK_pl lenK_sl lenK_vs lensK_pl boxK_some minmax1K_int storeK_ptr callvK_fn callvK_pl newsK_nil newsK_vs newsK_sl appK_nil appK_nil0 appK_sl appK_vs bnd1K_int bndK_none bndK_some slsK_vs slsK_nil slsK_sl0 slsK_sl slstrK_pl boolK_some eqsK_ag iop_eqs iop_sls iop_slstr seesK_some seesK_ro mapsK_some MAP_some findK_some findK_none plK_pl nmapK_none nmapK_some iop_mlook iop_mlen iop_mmk iop_mupd iop_mdel iop_mrng itK_none itK_some ptr0K_ptr iop_mnxt iop_ment it1K_some entK_some iop_mov iop_pick iop_bin iop_eqb iop_eqp iop_un iop_conv iop_build iop_load iop_nilc iop_fadr iop_fld iop_iadA iop_iadS iop_ext iop_mkf iop_len iop_lens iop_minmax iop_al iop_box iop_bsl iop_store iop_call iop_callv iop_app BIN_add BIN_sub BIN_mul BIN_and BIN_or BIN_xor BIN_andNot BIN_eql BIN_neq BIN_lss BIN_leq BIN_gtr BIN_geq BIN_quo BIN_rem BIN_shl BIN_shr BIN_sadd BIN_seql BIN_sneq BIN_slss BIN_sleq BIN_sgtr BIN_sgeq UN_neg UN_xor UN_not MM_nil MM_cons partsA argsA ptrA lessL eqL min2I slotN_int slotP_int slotI_int
attribute [local simp] en_len en_tt en_dd en_one en_ag en_t1 en_t2 en_d1 en_d2 opc_len opc_tt opc_dd opc_one opc_ag opc_t1 opc_t2 opc_d1 opc_d2

theorem c15 {H : AH} {K : AV → AH → Prop} {x : AV} (L : List En) (s : Int) (hx : RowIn H x (flat en L) L.length 3) (hl : L.length ≤ 1000000) (hk : K (vi (rfind L s).r) H) : @AC Try.prog 15 [.ag [x], vi s] H ⟨K⟩ := by
  have ox := hx.one
  refine AC_of (.forget ?_)
  refine call_c follows cf15_ok (by simp) ?_
  simp [ox]
  refine newK_of fun z hz => ?_
  have hS := (Sub.refl H).upd hz (o := .cells [x])
  simp [ox]
  refine c28 L s (hx.sub hS) hl ?_
  simp
  exact ⟨H, hS, hk⟩
theorem c17 {H : AH} {K : AV → AH → Prop} {x : AV} (L : List En) (s : Int) (hx : RowIn H x (flat en L) L.length 3) (hl : L.length ≤ 1000000) (hk : K (vb (rfind L s).a) H) : @AC Try.prog 17 [.ag [x], vi s] H ⟨K⟩ := by
  have ox := hx.one
  refine AC_of (.forget ?_)
  refine call_c follows cf17_ok (by simp) ?_
  simp [ox]
  refine newK_of fun z hz => ?_
  have hS := (Sub.refl H).upd hz (o := .cells [x])
  simp [ox]
  refine c28 L s (hx.sub hS) hl ?_
  simp
  exact ⟨H, hS, hk⟩
theorem c32 (n : Int) : PC Try.prog 32 [vi n] (vb (isR n)) := by
  refine .tell fun H => ?_
  refine call_c follows cf32_ok (by simp) ?_
  repeat' (first | simp [*] | (with_reducible (refine newK_of fun _ h_ => ?_); have hn_ := free_ne h_; (try simp only [upd_none', ne_eq] at h_)) | (with_reducible (refine condK_of (fun h_ => ?_) (fun h_ => ?_))))
  all_goals ((try with_reducible refine And.intro ?_ ?_) <;> (try (repeat' (first | with_reducible exact Sub.refl _ | with_reducible refine Sub.of_upd (by simp [*]) ?_))))
  all_goals (simp_all [isR] <;> omega)
theorem c11 {H : AH} {K : AV → AH → Prop} (hk : K (.ag [vnil]) H) : @AC Try.prog 11 [] H ⟨K⟩ := by
  refine AC_of (.forget ?_)
  refine call_c follows cf11_ok (by simp) ?_
  simp
  refine newK_of fun z hz => ?_
  simp
  exact ⟨H, (Sub.refl H).upd hz, hk⟩
def wasgE (L : List En) (s r : Int) : Int := if s < 1 ∨ isR r = false then 2 else if (rfind L s).r ≠ 0 ∧ ((rfind L s).r ≠ r ∨ (rfind L s).a = true) then 12 else 0
def wasgL (L : List En) (s r : Int) : List En := if wasgE L s r = 0 then rwith L ⟨s, r, true⟩ else L
def wrelE (L : List En) (s : Int) : Int := if (rfind L s).a = true then 0 else 14
def wrelL (L : List En) (s : Int) : List En := if (rfind L s).a = true then rwith L ⟨s, (rfind L s).r, false⟩ else L
def wdstE (L : List En) (s : Int) : Int := if s < 1 then 2 else if (rfind L s).a = true then 14 else 0
def wdstL (L : List En) (s : Int) : List En := if wdstE L s = 0 then rout L s else L
/-- What a call of the reference hands back. -/
def Back (H : AH) (L : List En) (E : Int) (K : AV → AH → Prop) : Prop := ∀ out H', Sub H H' → RowIn H' out (flat en L) L.length 3 → K (.tp [.ag [out], vi E]) H'
theorem c24 {H : AH} {K : AV → AH → Prop} {x : AV} (L : List En) (s r : Int) (hx : RowIn H x (flat en L) L.length 3) (hl : L.length ≤ 1000000)
    (hk : Back H (wasgL L s r) (wasgE L s r) K) : @AC Try.prog 24 [.ag [x], vi s, vi r] H ⟨K⟩ := by
  have ox := hx.one
  refine AC_of (.forget ?_)
  refine call_c follows cf24_ok (by simp) ?_
  simp [ox]
  refine newK_of fun z hz => ?_
  simp
  refine newK_of fun v hv => ?_
  obtain ⟨n1, n2, hv'⟩ := upd_none'.1 hv
  simp [n2]
  have hS : Sub H (upd (upd H z (.cells [x])) v (.cells [vnil])) := ((Sub.refl H).upd hz).upd hv'
  have h2z : (upd (upd H z (.cells [x])) v (.cells [vnil])) z = some (.cells [x]) := by simp [upd_apply, n2]
  have h2v : (upd (upd H z (.cells [x])) v (.cells [vnil])) v = some (.cells [vnil]) := by simp [upd_apply]
  generalize upd (upd H z (.cells [x])) v (.cells [vnil]) = H2 at *
  have hx2 := hx.sub hS
  have bad : ∀ {E}, wasgE L s r = E → E ≠ 0 → ∀ {H'}, Sub H H' → ∃ H1, Sub H1 H' ∧ K (.tp [.ag [x], vi E]) H1 := by
    intro E e1 e2 H' hs
    have := hk x H (Sub.refl H) (by rw [wasgL, if_neg (by rw [e1]; exact e2)]; exact hx)
    rw [e1] at this
    exact ⟨H, hs, this⟩
  by_cases c1 : s < 1
  · have e1 : wasgE L s r = 2 := if_pos (.inl c1)
    simp [c1, h2z, h2v, ox]
    exact bad e1 (by decide) (hS.upd hv')
  cases c2 : isR r with
  | false =>
    have e1 : wasgE L s r = 2 := if_pos (.inr c2)
    simp [c1, h2z, h2v, ox]
    refine (c32 r).ac ?_
    simp [c2, h2z, h2v, ox]
    exact bad e1 (by decide) (hS.upd hv')
  | true =>
    simp [c1, h2z, h2v, ox]
    refine (c32 r).ac ?_
    simp [c2, h2z, h2v, ox]
    refine c28 L s hx2 hl ?_
    simp
    have hE : wasgE L s r = if (rfind L s).r ≠ 0 ∧ ((rfind L s).r ≠ r ∨ (rfind L s).a = true) then 12 else 0 := by rw [wasgE, if_neg (by simp [c1, c2])]
    generalize rfind L s = e at *
    obtain ⟨es, er, ea⟩ := e
    simp only at hE
    refine newK_of fun y hy => ?_
    have ny1 := free_ne hy v (by simp [h2v])
    have ny2 := free_ne hy z (by simp [h2z])
    simp [ny1, ny2]
    have hyH := hS.none_of hy
    have hS3 : Sub H2 (upd H2 y (.cells (en ⟨es, er, ea⟩))) := (Sub.refl H2).upd hy
    have h3z := hS3.at h2z
    have h3v := hS3.at h2v
    have h3y : (upd H2 y (.cells (en ⟨es, er, ea⟩))) y = some (.cells (en ⟨es, er, ea⟩)) := by simp [upd_apply]
    generalize upd H2 y (.cells (en ⟨es, er, ea⟩)) = H3 at *
    have good : wasgE L s r = 0 → @AC Try.prog 33 [.ag [x], .ag (en ⟨s, r, true⟩)] H3 ⟨fun w H' => ∃ out H1, w = .ag [out] ∧ Sub H1 (upd H' v (.cells [out])) ∧ K (.tp [.ag [out], vi 0]) H1 ∧ H' v = some (.cells [vnil]) ∧ out.one = true⟩ := by
      intro e0
      refine c33 L _ (hx2.sub hS3) hl fun out H' hrow => ?_
      obtain ⟨H1, h1, h2⟩ := hrow.out2 (H := H) (hS.trans hS3) hv' h3v (.cells [out])
      have := hk out H1 h2.sub (by rw [wasgL, if_pos e0]; exact h2.rin (en_flat_len _))
      rw [e0] at this
      exact ⟨out, H1, rfl, h1, this, hrow.sub.at h3v, hrow.one⟩
    have fin := fun (e0 : wasgE L s r = 0) => good e0
    by_cases c3 : er = 0
    · have e1 : wasgE L s r = 0 := by rw [hE, if_neg (by simp [c3])]
      simp [h3y, c3, h3z, ox]
      refine (good e1).mono ?_
      rintro w H' ⟨out, H1, rfl, h1, h2, h3, h4⟩
      simp [h3, h4]
      exact ⟨H1, h1, h2⟩
    · by_cases c4 : er = r
      · cases c5 : ea with
        | true =>
          have e1 : wasgE L s r = 12 := by rw [hE, if_pos ⟨c3, .inr c5⟩]
          simp [h3y, c3, c4, c5, h3z, h3v, ox]
          simp [show ¬ r = 0 from c4 ▸ c3, h3y, c3, c4, c5, h3z, h3v, ox]
          exact bad e1 (by decide) ((hS.trans hS3).upd hv')
        | false =>
          have e1 : wasgE L s r = 0 := by rw [hE, if_neg (by simp [c4, c5])]
          simp [show ¬ r = 0 from c4 ▸ c3, h3y, c3, c4, c5, h3z, h3v, ox]
          refine (good e1).mono ?_
          rintro w H' ⟨out, H1, rfl, h1, h2, h3, h4⟩
          simp [h3, h4]
          exact ⟨H1, h1, h2⟩
      · have e1 : wasgE L s r = 12 := by rw [hE, if_pos ⟨c3, .inl c4⟩]
        simp [h3y, c3, c4, h3z, h3v, ox]
        exact bad e1 (by decide) ((hS.trans hS3).upd hv')
end Go.Proofs.Ytnlckmkjhpaloaa
