/-
  The calls of a run; two lists of numbers compared; a Roles that is none. Conditions: as each lemma states them.
-/
import Derived.Test.YtnlckmkjhpaloaaQ3
namespace Go.Proofs.Ytnlckmkjhpaloaa
open Go Go.Ab Go.RowKit
set_option linter.unusedSimpArgs false
set_option linter.unusedVariables false
set_option linter.unnecessarySimpa false

attribute [local simp] condK_true condK_false condK_not wpc_skip wpc_ret wpc_exit wpc_seq wpc_reg wpc_regD testA_bool wpc_cond wpc_block thenA_normal thenA_ret thenA_exit blockA_normal blockA_ret blockA_exit blockA_other endA_normal endA_ret ev_tmp' ev_const ev_func ev_global cv_int cv_bool cv_string cv_pointer cv_slice cv_agg put_some put_none wH_s setE_apply setE_env less_eq env_cons env_nil upd_upd upd_apply del_apply startA_eq cells_ag cells_sl one_sl cells_vs one_vs cells_ep one_ep cells_fn one_fn cells_int one_int cells_bool one_bool cells_string one_string cells_pointer one_pointer cells_slice one_slice cells_map one_map cells_agg resK_one resK_nil resK_two rvK_t rvK_c rvsK_nil rvsK_cons iseq_nil iseq_cons gdA_true gdA_false gdA_undef istep_free istep_guard istepV_free istepV_guard dseq_nil dseq_pu dseq_rd dseq_ef chkAll_nil chkAll_cons andK_true pickK_true pickK_false pickK_tb pickK_fb bin2K_pl eqbK_eq eqbK_ne eqpK_eq eqpK_ne un1K_pl convK_int fillK_some fillA_cons fillA_nil cellsK_some needK_true needK_ok seeK_ep seeK_ptr oneK_agg oneK_one nilcK_ptr nilcK_ep fadrK_ptr fadrK_ep fldK_ag iadAK_ptr iadAK_ep iadSK_sl iadSK_vs extK_0 extK_1 extK_2 extK_3 lenK_pl lenK_sl lenK_vs lensK_pl boxK_some minmax1K_int storeK_ptr callvK_fn callvK_pl newsK_nil newsK_vs newsK_sl appK_nil appK_nil0 appK_sl appK_vs bnd1K_int bndK_none bndK_some slsK_vs slsK_nil slsK_sl0 slsK_sl slstrK_pl boolK_some eqsK_ag iop_eqs iop_sls iop_slstr seesK_some seesK_ro mapsK_some MAP_some findK_some findK_none plK_pl nmapK_none nmapK_some iop_mlook iop_mlen iop_mmk iop_mupd iop_mdel iop_mrng itK_none itK_some ptr0K_ptr iop_mnxt iop_ment it1K_some entK_some iop_mov iop_pick iop_bin iop_eqb iop_eqp iop_un iop_conv iop_build iop_load iop_nilc iop_fadr iop_fld iop_iadA iop_iadS iop_ext iop_mkf iop_len iop_lens iop_minmax iop_al iop_box iop_bsl iop_store iop_call iop_callv iop_app BIN_add BIN_sub BIN_mul BIN_and BIN_or BIN_xor BIN_andNot BIN_eql BIN_neq BIN_lss BIN_leq BIN_gtr BIN_geq BIN_quo BIN_rem BIN_shl BIN_shr BIN_sadd BIN_seql BIN_sneq BIN_slss BIN_sleq BIN_sgtr BIN_sgeq UN_neg UN_xor UN_not MM_nil MM_cons partsA argsA ptrA lessL eqL min2I slotN_int slotP_int slotI_int
attribute [local simp] ent_len ent_tt ent_dd ent_one ent_ag ent_t1 ent_d1 ent_eq

structure Op where
  k : Int
  s : Int
  r : Int
  deriving DecidableEq
def opc (r : Op) : List AV := [vi r.k, vi r.s, vi r.r]
theorem opc_len (r : Op) : (opc r).length = 3 := rfl
theorem opc_tt (r : Op) : (opc r).take 3 = opc r := rfl
theorem opc_dd (r : Op) : (opc r).drop 3 = [] := rfl
theorem opc_one (r : Op) : (opc r).all AV.one = true := rfl
theorem opc_t1 (r : Op) : (opc r).take 1 = [vi r.k] := rfl
theorem opc_d1 (r : Op) : (opc r).tail = [vi r.s, vi r.r] := rfl
theorem opc_t2 (r : Op) : (opc r).take 2 = [vi r.k, vi r.s] := rfl
theorem opc_d2 (r : Op) : (opc r).drop 2 = [vi r.r] := rfl
theorem opc_ag (c0 : Int) (c1 : Int) (c2 : Int) : AV.ag [vi c0, vi c1, vi c2] = .ag (opc ⟨c0, c1, c2⟩) := rfl
attribute [local simp] opc_len opc_tt opc_dd opc_one opc_ag opc_t1 opc_t2 opc_d1 opc_d2
theorem RG.sub {H H' : AH} {p b : Nat} {g : Int → Ent} {m : Es} {st : List Nat} {cl : Nat} (h : RG H p b g m st cl) (hs : Sub H H') : RG H' p b g m st cl := ⟨h.rs.sub hs, h.g⟩
theorem RG.move {H H1 : AH} {p b : Nat} {g g' : Int → Ent} {m m' : Es} {st st' : List Nat} {cl cl' : Nat} (h0 : RG H p b g m st cl) (h : RG (upm H1 b m' st' cl') p b g' m' st' cl') : RG (upm H b m' st' cl') p b g' m' st' cl' :=
  ⟨h0.rs.new h.rs.nd h.rs.stp, h.g⟩
theorem upm_sub {H H1 : AH} (hs : Sub H H1) (b : Nat) (m : Es) (st : List Nat) (cl : Nat) : Sub (upm H b m st cl) (upm H1 b m st cl) := hs.cong
def opE (g : Int → Ent) (x : Op) : Int := if x.k = 0 then asgE g x.s x.r else if x.k = 1 then relE g x.s else dstE g x.s
def opG (g : Int → Ent) (x : Op) : Int → Ent := if x.k = 0 then asgG g x.s x.r else if x.k = 1 then relG g x.s else dstG g x.s
theorem c13 {H : AH} {K : AV → AH → Prop} {p b : Nat} {g : Int → Ent} {m : Es} {st : List Nat} {cl : Nat} (x : Op) (h : RG H p b g m st cl)
    (hk : ∀ m' st' cl', m'.length ≤ m.length + 1 → RG (upm H b m' st' cl') p b (opG g x) m' st' cl' → K (vi (opE g x)) (upm H b m' st' cl')) : @AC Try.prog 13 [pA p, .ag (opc x)] H ⟨K⟩ := by
  refine AC_of (.forget ?_)
  refine call_c follows cf13_ok (by simp) ?_
  simp
  refine newK_of fun z hz => ?_
  have hs : Sub H (upd H z (.cells (opc x))) := (Sub.refl H).upd hz
  have h1 := h.sub hs
  simp
  by_cases c1 : x.k = 0
  · simp [c1]
    refine c21 _ _ h1 fun m' st' cl' hl hg => ?_
    have := hk m' st' cl' hl (h.move (by rw [opG, if_pos c1]; exact hg))
    rw [opE, if_pos c1] at this
    simp
    exact ⟨_, upm_sub hs b m' st' cl', this⟩
  · by_cases c2 : x.k = 1
    · simp [c2]
      refine c22 _ h1 fun m' st' cl' hl hg => ?_
      have := hk m' st' cl' hl (h.move (by rw [opG, if_neg c1, if_pos c2]; exact hg))
      rw [opE, if_neg c1, if_pos c2] at this
      simp
      exact ⟨_, upm_sub hs b m' st' cl', this⟩
    · simp [c1, c2]
      refine c23 _ h1 fun m' st' cl' hl hg => ?_
      have := hk m' st' cl' hl (h.move (by rw [opG, if_neg c1, if_neg c2]; exact hg))
      rw [opE, if_neg c1, if_neg c2] at this
      simp
      exact ⟨_, upm_sub hs b m' st' cl', this⟩
theorem c18 {H : AH} {K : AV → AH → Prop} {x y : AV} {a c : List Int} (hx : RowIn H x (a.map vi) a.length 1) (hy : RowIn H y (c.map vi) c.length 1) (ha : a.length ≤ 1000000)
    (hk : K (vb (decide (a = c))) H) : @AC Try.prog 18 [x, y] H ⟨K⟩ := by
  have lx := fun k => hx.lenK (k := k)
  have ly := fun k => hy.lenK (k := k)
  refine AC_of ?_
  refine call_c follows cf18_ok (by simp) ?_
  simp [lx, ly]
  by_cases hl : a.length = c.length
  · simp [hl]
    refine wpc_loop (fun s => ∃ i : Nat, s.n = 26 ∧ s.H = H ∧ s.t 0 = x ∧ s.t 1 = y ∧ s.t 5 = vi i ∧ i ≤ a.length ∧ a.take i = c.take i) (fun s => a.length - slotN (s.t 5)) ?_ ?_
    · exact FgK.same ⟨0, by simp, by simp, by simp, by simp, by simp, by omega, by simp⟩
    rintro s ⟨i, hn, hH, e0, e1, e5, hi, ht⟩
    simp [*]
    by_cases h1 : i < a.length
    · have h2 : i < c.length := by omega
      obtain ⟨q1, f1, rfl, g1⟩ := hx.sl (by omega)
      obtain ⟨q2, f2, rfl, g2⟩ := hy.sl (by omega)
      have k1 := viat h1
      have k2 := viat h2
      have w := IntWalk.i64_in ((i : Int) + 1) (by omega)
      have z1 : i < c.length := by omega
      simp (disch := omega) [*]
      by_cases h3 : a[i] = c[i]
      · simp [*]
        refine FgK.same ⟨⟨i + 1, by simp [*], by simp [*], by simp [*], by simp [*], by simp, by omega, ?_⟩, by simp [*]; omega⟩
        rw [List.take_succ_eq_append_getElem h1, List.take_succ_eq_append_getElem h2, ht, h3]
      · simp [*]
        have : ¬ a = c := fun e => h3 (by subst e; rfl)
        simpa [this] using hk
    · have z1 : ¬ i < c.length := by omega
      simp [*]
      have : a = c := by
        have e1 : a.take i = a := List.take_of_length_le (by omega)
        have e2 : c.take i = c := List.take_of_length_le (by omega)
        rw [e1, e2] at ht; exact ht
      simpa [this] using hk
  · have : ¬ a = c := fun e => hl (by rw [e])
    have hl' : ¬ (a.length : Int) = c.length := by omega
    simp [*]
    simpa [this] using hk
/-- A Roles that New did not return: nil, or a zero one. -/
def Bad (H : AH) (x : AV) : Prop := x = .pl (.pointer none) ∨ ∃ p, x = pA p ∧ H p = some (.cells [vb false, .pl (.map none)])
theorem Bad.sub {H H' : AH} {x : AV} (h : Bad H x) (hs : Sub H H') : Bad H' x := by
  rcases h with h | ⟨p, h1, h2⟩
  · exact .inl h
  · exact .inr ⟨p, h1, hs _ _ h2⟩
theorem c29n {H : AH} {K : AV → AH → Prop} {x : AV} (h : Bad H x) (hk : K (vb false) H) : @AC Try.prog 29 [x] H ⟨K⟩ := by
  refine call_c follows cf29_ok (by simp) ?_
  rcases h with rfl | ⟨p, rfl, h⟩ <;> simp [*]
theorem c27n {H : AH} {K : AV → AH → Prop} {x : AV} (s : Int) (h : Bad H x) (hk : K (.ag (ent ⟨0, false⟩)) H) : @AC Try.prog 27 [x, vi s] H ⟨K⟩ := by
  have e0 : AV.ag [vi 0, vb false] = .ag (ent ⟨0, false⟩) := rfl
  refine AC_of (.forget ?_)
  refine call_c follows cf27_ok (by simp) ?_
  rcases h with rfl | ⟨p, rfl, h⟩
  · repeat' (first | simp [*] | (with_reducible (refine newK_of fun _ h_ => ?_); have hn_ := free_ne h_; (try simp only [upd_none', ne_eq] at h_)) | (with_reducible (refine condK_of (fun h_ => ?_) (fun h_ => ?_))))
    exact ⟨H, by (first | exact Sub.refl _ | (repeat' (first | exact Sub.refl _ | (refine Sub.of_upd (by simp [*]) ?_)))), hk⟩
  · repeat' (first | simp [*] | (with_reducible (refine newK_of fun _ h_ => ?_); have hn_ := free_ne h_; (try simp only [upd_none', ne_eq] at h_)) | (with_reducible (refine condK_of (fun h_ => ?_) (fun h_ => ?_))))
    exact ⟨H, by (first | exact Sub.refl _ | (repeat' (first | exact Sub.refl _ | (refine Sub.of_upd (by simp [*]) ?_)))), hk⟩
theorem c21n {H : AH} {K : AV → AH → Prop} {x : AV} (s r : Int) (h : Bad H x) (hk : K (vi 1) H) : @AC Try.prog 21 [x, vi s, vi r] H ⟨K⟩ := by
  refine AC_of (.forget ?_)
  refine call_c follows cf21_ok (by simp) ?_
  repeat' (first | simp [*] | (with_reducible (refine newK_of fun _ h_ => ?_); have hn_ := free_ne h_; (try simp only [upd_none', ne_eq] at h_)) | (with_reducible (refine condK_of (fun h_ => ?_) (fun h_ => ?_))) | with_reducible (refine c29n h ?_) | with_reducible (refine c27n _ h ?_))
  exact ⟨H, by (first | exact Sub.refl _ | (repeat' (first | exact Sub.refl _ | (refine Sub.of_upd (by simp [*]) ?_)))), hk⟩
theorem c22n {H : AH} {K : AV → AH → Prop} {x : AV} (s : Int) (h : Bad H x) (hk : K (vi 1) H) : @AC Try.prog 22 [x, vi s] H ⟨K⟩ := by
  refine AC_of (.forget ?_)
  refine call_c follows cf22_ok (by simp) ?_
  repeat' (first | simp [*] | (with_reducible (refine newK_of fun _ h_ => ?_); have hn_ := free_ne h_; (try simp only [upd_none', ne_eq] at h_)) | (with_reducible (refine condK_of (fun h_ => ?_) (fun h_ => ?_))) | with_reducible (refine c29n h ?_) | with_reducible (refine c27n _ h ?_))
  exact ⟨H, by (first | exact Sub.refl _ | (repeat' (first | exact Sub.refl _ | (refine Sub.of_upd (by simp [*]) ?_)))), hk⟩
theorem c23n {H : AH} {K : AV → AH → Prop} {x : AV} (s : Int) (h : Bad H x) (hk : K (vi 1) H) : @AC Try.prog 23 [x, vi s] H ⟨K⟩ := by
  refine AC_of (.forget ?_)
  refine call_c follows cf23_ok (by simp) ?_
  repeat' (first | simp [*] | (with_reducible (refine newK_of fun _ h_ => ?_); have hn_ := free_ne h_; (try simp only [upd_none', ne_eq] at h_)) | (with_reducible (refine condK_of (fun h_ => ?_) (fun h_ => ?_))) | with_reducible (refine c29n h ?_) | with_reducible (refine c27n _ h ?_))
  exact ⟨H, by (first | exact Sub.refl _ | (repeat' (first | exact Sub.refl _ | (refine Sub.of_upd (by simp [*]) ?_)))), hk⟩
theorem c14n {H : AH} {K : AV → AH → Prop} {x : AV} (s : Int) (h : Bad H x) (hk : K (vi 0) H) : @AC Try.prog 14 [x, vi s] H ⟨K⟩ := by
  refine AC_of (.forget ?_)
  refine call_c follows cf14_ok (by simp) ?_
  repeat' (first | simp [*] | (with_reducible (refine newK_of fun _ h_ => ?_); have hn_ := free_ne h_; (try simp only [upd_none', ne_eq] at h_)) | (with_reducible (refine condK_of (fun h_ => ?_) (fun h_ => ?_))) | with_reducible (refine c29n h ?_) | with_reducible (refine c27n _ h ?_))
  exact ⟨H, by (first | exact Sub.refl _ | (repeat' (first | exact Sub.refl _ | (refine Sub.of_upd (by simp [*]) ?_)))), hk⟩
theorem c16n {H : AH} {K : AV → AH → Prop} {x : AV} (s : Int) (h : Bad H x) (hk : K (vb false) H) : @AC Try.prog 16 [x, vi s] H ⟨K⟩ := by
  refine AC_of (.forget ?_)
  refine call_c follows cf16_ok (by simp) ?_
  repeat' (first | simp [*] | (with_reducible (refine newK_of fun _ h_ => ?_); have hn_ := free_ne h_; (try simp only [upd_none', ne_eq] at h_)) | (with_reducible (refine condK_of (fun h_ => ?_) (fun h_ => ?_))) | with_reducible (refine c29n h ?_) | with_reducible (refine c27n _ h ?_))
  exact ⟨H, by (first | exact Sub.refl _ | (repeat' (first | exact Sub.refl _ | (refine Sub.of_upd (by simp [*]) ?_)))), hk⟩
theorem c19n {H : AH} {K : AV → AH → Prop} {x : AV} (r : Int) (h : Bad H x) (hk : K vnil H) : @AC Try.prog 19 [x, vi r] H ⟨K⟩ := by
  refine AC_of (.forget ?_)
  refine call_c follows cf19_ok (by simp) ?_
  repeat' (first | simp [*] | (with_reducible (refine newK_of fun _ h_ => ?_); have hn_ := free_ne h_; (try simp only [upd_none', ne_eq] at h_)) | (with_reducible (refine condK_of (fun h_ => ?_) (fun h_ => ?_))) | with_reducible (refine c29n h ?_) | with_reducible (refine c27n _ h ?_))
  exact ⟨H, by (first | exact Sub.refl _ | (repeat' (first | exact Sub.refl _ | (refine Sub.of_upd (by simp [*]) ?_)))), hk⟩
end Go.Proofs.Ytnlckmkjhpaloaa
