/-
  The roles of surfaces: Assign, Release, Destroy, Role, Active, New. Conditions: as each lemma states them.
-/
import Derived.Test.YtnlckmkjhpaloaaQ1
namespace Go.Proofs.Ytnlckmkjhpaloaa
open Go Go.Ab Go.RowKit
set_option linter.unusedSimpArgs false
set_option linter.unusedVariables false
set_option linter.unnecessarySimpa false

attribute [local simp] condK_true condK_false condK_not wpc_skip wpc_ret wpc_exit wpc_seq wpc_reg wpc_regD testA_bool wpc_cond wpc_block thenA_normal thenA_ret thenA_exit blockA_normal blockA_ret blockA_exit blockA_other endA_normal endA_ret ev_tmp' ev_const ev_func ev_global cv_int cv_bool cv_string cv_pointer cv_slice cv_agg put_some put_none wH_s setE_apply setE_env less_eq env_cons env_nil upd_upd upd_apply del_apply startA_eq cells_ag cells_sl one_sl cells_vs one_vs cells_ep one_ep cells_fn one_fn cells_int one_int cells_bool one_bool cells_string one_string cells_pointer one_pointer cells_slice one_slice cells_map one_map cells_agg resK_one resK_nil resK_two rvK_t rvK_c rvsK_nil rvsK_cons iseq_nil iseq_cons gdA_true gdA_false gdA_undef istep_free istep_guard istepV_free istepV_guard dseq_nil dseq_pu dseq_rd dseq_ef chkAll_nil chkAll_cons andK_true pickK_true pickK_false pickK_tb pickK_fb bin2K_pl eqbK_eq eqbK_ne eqpK_eq eqpK_ne un1K_pl convK_int fillK_some fillA_cons fillA_nil cellsK_some needK_true needK_ok seeK_ep seeK_ptr oneK_agg oneK_one nilcK_ptr nilcK_ep fadrK_ptr fadrK_ep fldK_ag iadAK_ptr iadAK_ep iadSK_sl iadSK_vs extK_0 extK_1 extK_2 extK_3 lenK_pl lenK_sl lenK_vs lensK_pl boxK_some minmax1K_int storeK_ptr callvK_fn callvK_pl newsK_nil newsK_vs newsK_sl appK_nil appK_nil0 appK_sl appK_vs bnd1K_int bndK_none bndK_some slsK_vs slsK_nil slsK_sl0 slsK_sl slstrK_pl boolK_some eqsK_ag iop_eqs iop_sls iop_slstr seesK_some seesK_ro mapsK_some MAP_some findK_some findK_none plK_pl nmapK_none nmapK_some iop_mlook iop_mlen iop_mmk iop_mupd iop_mdel iop_mrng itK_none itK_some ptr0K_ptr iop_mnxt iop_ment it1K_some entK_some iop_mov iop_pick iop_bin iop_eqb iop_eqp iop_un iop_conv iop_build iop_load iop_nilc iop_fadr iop_fld iop_iadA iop_iadS iop_ext iop_mkf iop_len iop_lens iop_minmax iop_al iop_box iop_bsl iop_store iop_call iop_callv iop_app BIN_add BIN_sub BIN_mul BIN_and BIN_or BIN_xor BIN_andNot BIN_eql BIN_neq BIN_lss BIN_leq BIN_gtr BIN_geq BIN_quo BIN_rem BIN_shl BIN_shr BIN_sadd BIN_seql BIN_sneq BIN_slss BIN_sleq BIN_sgtr BIN_sgeq UN_neg UN_xor UN_not MM_nil MM_cons partsA argsA ptrA lessL eqL min2I slotN_int slotP_int slotI_int
attribute [local simp] ent_len ent_tt ent_dd ent_one ent_ag ent_t1 ent_d1 ent_eq

/-- A Roles in which surface s has the entry g s. -/
structure RG (H : AH) (p b : Nat) (g : Int → Ent) (m : Es) (st : List Nat) (cl : Nat) : Prop where
  rs : RS H p b m st cl
  g : ∀ s, get m s = g s
def gset (g : Int → Ent) (s : Int) (e : Ent) : Int → Ent := fun t => if t = s then e else g t
def e0 : Ent := ⟨0, false⟩
/-- What becomes of the view. -/
def upm (H : AH) (b : Nat) (m : Es) (st : List Nat) (cl : Nat) : AH := upd H b (.map (mI ek ev m) st cl)
theorem RG.self {H : AH} {p b : Nat} {g : Int → Ent} {m : Es} {st : List Nat} {cl : Nat} (h : RG H p b g m st cl) : upm H b m st cl = H := upd_self h.rs.mp
theorem nodup_mid {m1 m2 : Es} {x : Int × Ent} (h : ((m1 ++ x :: m2).map ek).Nodup) : (∀ y ∈ m1, ek y ≠ ek x) ∧ (∀ y ∈ m2, ek y ≠ ek x) ∧ ((m1 ++ m2).map ek).Nodup := by
  simp only [List.map_append, List.map_cons] at h
  rw [List.nodup_append] at h
  obtain ⟨h1, h2, h3⟩ := h
  rw [List.nodup_cons] at h2
  refine ⟨fun y hy e => h3 _ (List.mem_map.2 ⟨y, hy, rfl⟩) (ek x) (by simp) e, fun y hy e => h2.1 (List.mem_map.2 ⟨y, hy, e⟩), ?_⟩
  rw [List.map_append, List.nodup_append]
  exact ⟨h1, h2.2, fun a ha b hb => h3 a ha b (by simp [hb])⟩
theorem get_set {m1 m2 : Es} {x : Int × Ent} {s : Int} {e : Ent} (hx : ek x = s) (h : ((m1 ++ x :: m2).map ek).Nodup) (t : Int) : get (m1 ++ (s, e) :: m2) t = gset (get (m1 ++ x :: m2)) s e t := by
  obtain ⟨h1, h2, _⟩ := nodup_mid h
  unfold gset
  split
  · rename_i e1; subst e1; exact get_some (x := (t, e)) (fun y hy => hx ▸ h1 y hy) rfl
  · rename_i e1
    have hx' : ¬ x.1 = t := by simp only [ek] at hx; omega
    have hs' : ¬ s = t := fun e => e1 e.symm
    simp only [get, List.find?_append, List.find?_cons]
    have g1 : ((s, e).1 == t) = false := by simpa using hs'
    have g2 : (x.1 == t) = false := by simpa using hx'
    simp only [g1, g2]
theorem get_push {m : Es} {s : Int} {e : Ent} (h : ∀ x ∈ m, ek x ≠ s) (t : Int) : get (m ++ [(s, e)]) t = gset (get m) s e t := by
  unfold gset
  split
  · rename_i e1; subst e1; exact get_some (x := (t, e)) (m2 := []) h rfl
  · rename_i e1
    have g1 : ((s, e).1 == t) = false := by simpa using fun e => e1 e.symm
    simp only [get, List.find?_append, List.find?_cons, g1, List.find?_nil, Option.or_none]
theorem get_del {m1 m2 : Es} {x : Int × Ent} {s : Int} (hx : ek x = s) (h : ((m1 ++ x :: m2).map ek).Nodup) (t : Int) : get (m1 ++ m2) t = gset (get (m1 ++ x :: m2)) s e0 t := by
  obtain ⟨h1, h2, _⟩ := nodup_mid h
  unfold gset
  split
  · rename_i e1; subst e1
    refine get_none fun y hy => ?_
    rcases List.mem_append.1 hy with hy | hy
    · exact hx ▸ h1 y hy
    · exact hx ▸ h2 y hy
  · rename_i e1
    have hx' : (x.1 == t) = false := by simp only [ek] at hx; simpa using fun e => e1 (by omega)
    simp only [get, List.find?_append, List.find?_cons, hx']
theorem get_same {m : Es} {s : Int} (h : ∀ x ∈ m, ek x ≠ s) (t : Int) : get m t = gset (get m) s e0 t := by
  unfold gset
  split
  · rename_i e1; subst e1; exact get_none h
  · rfl
def asgE (g : Int → Ent) (s r : Int) : Int := if s < 1 ∨ isR r = false then 2 else if g s ≠ e0 ∧ g s ≠ ⟨r, false⟩ then 12 else 0
def asgG (g : Int → Ent) (s r : Int) : Int → Ent := if asgE g s r = 0 then gset g s ⟨r, true⟩ else g
theorem gset_fun {g g' : Int → Ent} (h : ∀ t, g' t = g t) (s : Int) (e : Ent) (t : Int) : gset g' s e t = gset g s e t := by unfold gset; split <;> simp [h]
theorem c21 {H : AH} {K : AV → AH → Prop} {p b : Nat} {g : Int → Ent} {m : Es} {st : List Nat} {cl : Nat} (s r : Int) (h : RG H p b g m st cl)
    (hk : ∀ m' st' cl', m'.length ≤ m.length + 1 → RG (upm H b m' st' cl') p b (asgG g s r) m' st' cl' → K (vi (asgE g s r)) (upm H b m' st' cl')) : @AC Try.prog 21 [pA p, vi s, vi r] H ⟨K⟩ := by
  have hR := h.rs
  have h1 := hR.ob
  have h2 := hR.mp
  have hne := hR.ne
  have hg := h.g s
  have same : asgE g s r ≠ 0 → K (vi (asgE g s r)) H := fun e => by
    have := hk m st cl (by omega) (by rw [h.self, asgG, if_neg e]; exact h)
    rwa [h.self] at this
  refine AC_of (.forget ?_)
  refine call_c follows cf21_ok (by simp) ?_
  by_cases c1 : s < 1 ∨ isR r = false
  · have e1 : asgE g s r = 2 := if_pos c1
    have := same (by rw [e1]; decide)
    rw [e1] at this
    by_cases c2 : s < 1
    · repeat' (first | simp [*] | (with_reducible (refine newK_of fun _ h_ => ?_); have hn_ := free_ne h_; (try simp only [upd_none', ne_eq] at h_)) | (with_reducible (refine condK_of (fun h_ => ?_) (fun h_ => ?_))) | with_reducible (refine c29 hR ?_) | with_reducible (refine (c30 ..).ac ?_) | with_reducible (refine c27 _ hR ?_))
      exact ⟨H, by (first | exact Sub.refl _ | (repeat' (first | exact Sub.refl _ | (refine Sub.of_upd (by simp [*]) ?_)))), this⟩
    · have c3 : isR r = false := by rcases c1 with c | c; exact absurd c c2; exact c
      repeat' (first | simp [*] | (with_reducible (refine newK_of fun _ h_ => ?_); have hn_ := free_ne h_; (try simp only [upd_none', ne_eq] at h_)) | (with_reducible (refine condK_of (fun h_ => ?_) (fun h_ => ?_))) | with_reducible (refine c29 hR ?_) | with_reducible (refine (c30 ..).ac ?_) | with_reducible (refine c27 _ hR ?_))
      exact ⟨H, by (first | exact Sub.refl _ | (repeat' (first | exact Sub.refl _ | (refine Sub.of_upd (by simp [*]) ?_)))), this⟩
  · have c2 : ¬ s < 1 := fun e => c1 (.inl e)
    have c3 : isR r = true := by cases e : isR r with | true => rfl | false => exact absurd (.inr e) c1
    by_cases c4 : g s ≠ e0 ∧ g s ≠ ⟨r, false⟩
    · have e1 : asgE g s r = 12 := by rw [asgE, if_neg c1, if_pos c4]
      have := same (by rw [e1]; decide)
      rw [e1] at this
      have q1 : eeq (g s) ⟨0, false⟩ = false := by cases e : eeq (g s) ⟨0, false⟩ with | false => rfl | true => exact absurd ((eeq_iff _ _).1 e) c4.1
      have q2 : eeq (g s) ⟨r, false⟩ = false := by cases e : eeq (g s) ⟨r, false⟩ with | false => rfl | true => exact absurd ((eeq_iff _ _).1 e) c4.2
      clear c1 c4
      repeat' (first | simp [*] | (with_reducible (refine newK_of fun _ h_ => ?_); have hn_ := free_ne h_; (try simp only [upd_none', ne_eq] at h_)) | (with_reducible (refine condK_of (fun h_ => ?_) (fun h_ => ?_))) | with_reducible (refine c29 hR ?_) | with_reducible (refine (c30 ..).ac ?_) | with_reducible (refine c27 _ hR ?_))
      exact ⟨H, by (first | exact Sub.refl _ | (repeat' (first | exact Sub.refl _ | (refine Sub.of_upd (by simp [*]) ?_)))), this⟩
    · have e1 : asgE g s r = 0 := by rw [asgE, if_neg c1, if_neg c4]
      have q1 : eeq (g s) ⟨0, false⟩ = true ∨ eeq (g s) ⟨r, false⟩ = true := by
        rw [eeq_iff, eeq_iff]
        by_cases e : g s = e0
        · exact .inl e
        · exact .inr (Classical.byContradiction fun e' => c4 ⟨e, e'⟩)
      have hG : asgG g s r = gset g s ⟨r, true⟩ := if_pos e1
      rw [hG, e1] at hk
      clear c1 c4 same
      rcases split_key ek s m with h3 | ⟨m1, x, m2, rfl, h3, h4⟩
      · have e := mfind_none (val := ev) m 0 h3
        have e2 := mI_push (key := ek) (val := ev) (m := m) (s, ⟨r, true⟩)
        have fin := hk (m ++ [(s, ⟨r, true⟩)]) (st ++ [cl]) (cl + 1) (by simp) ⟨hR.new (by
          rw [List.map_append, List.nodup_append]
          exact ⟨hR.nd, by simp, fun a ha b hb => by
            obtain ⟨y, hy, rfl⟩ := List.mem_map.1 ha
            have : b = s := by simpa using hb
            rw [this]; exact h3 y hy⟩) (by simpa using hR.stp.push), fun t => by rw [get_push h3, gset_fun h.g]⟩
        unfold upm at fin
        rw [← e2] at fin
        cases q2 : eeq (g s) ⟨0, false⟩ with
        | true =>
          repeat' (first | simp [*] | (with_reducible (refine newK_of fun _ h_ => ?_); have hn_ := free_ne h_; (try simp only [upd_none', ne_eq] at h_)) | (with_reducible (refine condK_of (fun h_ => ?_) (fun h_ => ?_))) | with_reducible (refine c29 hR ?_) | with_reducible (refine (c30 ..).ac ?_) | with_reducible (refine c27 _ hR ?_))
          exact ⟨_, by (intro j_ o_ hj_; simp only [upd_apply, del_apply] at hj_ ⊢; (repeat' split) <;> (repeat' (split at hj_)) <;> simp_all), fin⟩
        | false =>
          have q3 : eeq (g s) ⟨r, false⟩ = true := by rcases q1 with q1 | q1; rw [q2] at q1; cases q1; exact q1
          repeat' (first | simp [*] | (with_reducible (refine newK_of fun _ h_ => ?_); have hn_ := free_ne h_; (try simp only [upd_none', ne_eq] at h_)) | (with_reducible (refine condK_of (fun h_ => ?_) (fun h_ => ?_))) | with_reducible (refine c29 hR ?_) | with_reducible (refine (c30 ..).ac ?_) | with_reducible (refine c27 _ hR ?_))
          exact ⟨_, by (intro j_ o_ hj_; simp only [upd_apply, del_apply] at hj_ ⊢; (repeat' split) <;> (repeat' (split at hj_)) <;> simp_all), fin⟩
      · have e := mfind_some (val := ev) (m2 := m2) m1 0 h3 h4
        have e2 := mI_set (key := ek) (val := ev) (m1 := m1) (m2 := m2) (e := x) (s, ⟨r, true⟩)
        have fin := hk (m1 ++ (s, ⟨r, true⟩) :: m2) st cl (by simp) ⟨hR.new (by
          have := hR.nd
          simp only [List.map_append, List.map_cons] at this ⊢
          rw [h4] at this; exact this) (hR.stp.len (by simp)), fun t => by rw [get_set h4 hR.nd, gset_fun h.g]⟩
        unfold upm at fin
        rw [← e2] at fin
        cases q2 : eeq (g s) ⟨0, false⟩ with
        | true =>
          repeat' (first | simp [*] | (with_reducible (refine newK_of fun _ h_ => ?_); have hn_ := free_ne h_; (try simp only [upd_none', ne_eq] at h_)) | (with_reducible (refine condK_of (fun h_ => ?_) (fun h_ => ?_))) | with_reducible (refine c29 hR ?_) | with_reducible (refine (c30 ..).ac ?_) | with_reducible (refine c27 _ hR ?_))
          exact ⟨_, by (intro j_ o_ hj_; simp only [upd_apply, del_apply] at hj_ ⊢; (repeat' split) <;> (repeat' (split at hj_)) <;> simp_all), fin⟩
        | false =>
          have q3 : eeq (g s) ⟨r, false⟩ = true := by rcases q1 with q1 | q1; rw [q2] at q1; cases q1; exact q1
          repeat' (first | simp [*] | (with_reducible (refine newK_of fun _ h_ => ?_); have hn_ := free_ne h_; (try simp only [upd_none', ne_eq] at h_)) | (with_reducible (refine condK_of (fun h_ => ?_) (fun h_ => ?_))) | with_reducible (refine c29 hR ?_) | with_reducible (refine (c30 ..).ac ?_) | with_reducible (refine c27 _ hR ?_))
          exact ⟨_, by (intro j_ o_ hj_; simp only [upd_apply, del_apply] at hj_ ⊢; (repeat' split) <;> (repeat' (split at hj_)) <;> simp_all), fin⟩
def relE (g : Int → Ent) (s : Int) : Int := if (g s).a = true then 0 else 14
def relG (g : Int → Ent) (s : Int) : Int → Ent := if (g s).a = true then gset g s ⟨(g s).r, false⟩ else g
theorem c22 {H : AH} {K : AV → AH → Prop} {p b : Nat} {g : Int → Ent} {m : Es} {st : List Nat} {cl : Nat} (s : Int) (h : RG H p b g m st cl)
    (hk : ∀ m' st' cl', m'.length ≤ m.length + 1 → RG (upm H b m' st' cl') p b (relG g s) m' st' cl' → K (vi (relE g s)) (upm H b m' st' cl')) : @AC Try.prog 22 [pA p, vi s] H ⟨K⟩ := by
  have hR := h.rs
  have h1 := hR.ob
  have h2 := hR.mp
  have hne := hR.ne
  have hg := h.g s
  refine AC_of (.forget ?_)
  refine call_c follows cf22_ok (by simp) ?_
  cases c1 : (g s).a with
  | false =>
    have := hk m st cl (by omega) (by rw [h.self, relG, c1]; exact h)
    rw [h.self, relE, c1] at this
    clear hk
    repeat' (first | simp [*] | (with_reducible (refine newK_of fun _ h_ => ?_); have hn_ := free_ne h_; (try simp only [upd_none', ne_eq] at h_)) | (with_reducible (refine condK_of (fun h_ => ?_) (fun h_ => ?_))) | with_reducible (refine c29 hR ?_) | with_reducible (refine (c30 ..).ac ?_) | with_reducible (refine c27 _ hR ?_))
    exact ⟨H, by (first | exact Sub.refl _ | (repeat' (first | exact Sub.refl _ | (refine Sub.of_upd (by simp [*]) ?_)))), by simpa using this⟩
  | true =>
    have hG : relG g s = gset g s ⟨(g s).r, false⟩ := if_pos c1
    rw [hG, relE, if_pos c1] at hk
    rcases split_key ek s m with h3 | ⟨m1, x, m2, rfl, h3, h4⟩
    · have := get_none h3
      rw [hg] at this
      rw [this] at c1
      cases c1
    · have e := mfind_some (val := ev) (m2 := m2) m1 0 h3 h4
      have e2 := mI_set (key := ek) (val := ev) (m1 := m1) (m2 := m2) (e := x) (s, ⟨(g s).r, false⟩)
      have fin := hk (m1 ++ (s, ⟨(g s).r, false⟩) :: m2) st cl (by simp) ⟨hR.new (by
        have := hR.nd
        simp only [List.map_append, List.map_cons] at this ⊢
        rw [h4] at this; exact this) (hR.stp.len (by simp)), fun t => by rw [get_set h4 hR.nd, gset_fun h.g]⟩
      unfold upm at fin
      rw [← e2] at fin
      clear hk hG e2
      repeat' (first | simp [*] | (with_reducible (refine newK_of fun _ h_ => ?_); have hn_ := free_ne h_; (try simp only [upd_none', ne_eq] at h_)) | (with_reducible (refine condK_of (fun h_ => ?_) (fun h_ => ?_))) | with_reducible (refine c29 hR ?_) | with_reducible (refine (c30 ..).ac ?_) | with_reducible (refine c27 _ hR ?_))
      exact ⟨_, by (intro j_ o_ hj_; simp only [upd_apply, del_apply] at hj_ ⊢; (repeat' split) <;> (repeat' (split at hj_)) <;> simp_all), fin⟩
def dstE (g : Int → Ent) (s : Int) : Int := if s < 1 then 2 else if (g s).a = true then 14 else 0
def dstG (g : Int → Ent) (s : Int) : Int → Ent := if dstE g s = 0 then gset g s e0 else g
theorem c23 {H : AH} {K : AV → AH → Prop} {p b : Nat} {g : Int → Ent} {m : Es} {st : List Nat} {cl : Nat} (s : Int) (h : RG H p b g m st cl)
    (hk : ∀ m' st' cl', m'.length ≤ m.length + 1 → RG (upm H b m' st' cl') p b (dstG g s) m' st' cl' → K (vi (dstE g s)) (upm H b m' st' cl')) : @AC Try.prog 23 [pA p, vi s] H ⟨K⟩ := by
  have hR := h.rs
  have h1 := hR.ob
  have h2 := hR.mp
  have hne := hR.ne
  have hg := h.g s
  have same : dstE g s ≠ 0 → K (vi (dstE g s)) H := fun e => by
    have := hk m st cl (by omega) (by rw [h.self, dstG, if_neg e]; exact h)
    rwa [h.self] at this
  refine AC_of (.forget ?_)
  refine call_c follows cf23_ok (by simp) ?_
  by_cases c1 : s < 1
  · have e1 : dstE g s = 2 := if_pos c1
    have := same (by rw [e1]; decide)
    rw [e1] at this
    clear hk same
    repeat' (first | simp [*] | (with_reducible (refine newK_of fun _ h_ => ?_); have hn_ := free_ne h_; (try simp only [upd_none', ne_eq] at h_)) | (with_reducible (refine condK_of (fun h_ => ?_) (fun h_ => ?_))) | with_reducible (refine c29 hR ?_) | with_reducible (refine (c30 ..).ac ?_) | with_reducible (refine c27 _ hR ?_))
    exact ⟨H, by (first | exact Sub.refl _ | (repeat' (first | exact Sub.refl _ | (refine Sub.of_upd (by simp [*]) ?_)))), this⟩
  cases c2 : (g s).a with
  | true =>
    have e1 : dstE g s = 14 := by rw [dstE, if_neg c1, if_pos c2]
    have := same (by rw [e1]; decide)
    rw [e1] at this
    clear hk same
    repeat' (first | simp [*] | (with_reducible (refine newK_of fun _ h_ => ?_); have hn_ := free_ne h_; (try simp only [upd_none', ne_eq] at h_)) | (with_reducible (refine condK_of (fun h_ => ?_) (fun h_ => ?_))) | with_reducible (refine c29 hR ?_) | with_reducible (refine (c30 ..).ac ?_) | with_reducible (refine c27 _ hR ?_))
    exact ⟨H, by (first | exact Sub.refl _ | (repeat' (first | exact Sub.refl _ | (refine Sub.of_upd (by simp [*]) ?_)))), this⟩
  | false =>
    have e1 : dstE g s = 0 := by rw [dstE, if_neg c1, c2]; rfl
    have hG : dstG g s = gset g s e0 := if_pos e1
    rw [hG, e1] at hk
    clear same
    rcases split_key ek s m with h3 | ⟨m1, x, m2, rfl, h3, h4⟩
    · have e := mfind_none (val := ev) m 0 h3
      have fin := hk m st cl (by omega) (by rw [h.self]; exact ⟨h.rs, fun t => by rw [get_same h3, gset_fun h.g]⟩)
      rw [h.self] at fin
      clear hk hG
      repeat' (first | simp [*] | (with_reducible (refine newK_of fun _ h_ => ?_); have hn_ := free_ne h_; (try simp only [upd_none', ne_eq] at h_)) | (with_reducible (refine condK_of (fun h_ => ?_) (fun h_ => ?_))) | with_reducible (refine c29 hR ?_) | with_reducible (refine (c30 ..).ac ?_) | with_reducible (refine c27 _ hR ?_))
      exact ⟨H, by (first | exact Sub.refl _ | (repeat' (first | exact Sub.refl _ | (refine Sub.of_upd (by simp [*]) ?_)))), fin⟩
    · have e := mfind_some (val := ev) (m2 := m2) m1 0 h3 h4
      have e2 := mI_erase (key := ek) (val := ev) (m1 := m1) (m2 := m2) (e := x)
      have hl : (m1 ++ x :: m2).length = (m1 ++ m2).length + 1 := by simp; omega
      have fin := hk (m1 ++ m2) (st.eraseIdx m1.length) cl (by simp; omega) ⟨hR.new (nodup_mid hR.nd).2.2 ((hR.stp.len hl).erase _ (by simp)), fun t => by rw [get_del h4 hR.nd, gset_fun h.g]⟩
      unfold upm at fin
      rw [← e2] at fin
      clear hk hG e2
      repeat' (first | simp [*] | (with_reducible (refine newK_of fun _ h_ => ?_); have hn_ := free_ne h_; (try simp only [upd_none', ne_eq] at h_)) | (with_reducible (refine condK_of (fun h_ => ?_) (fun h_ => ?_))) | with_reducible (refine c29 hR ?_) | with_reducible (refine (c30 ..).ac ?_) | with_reducible (refine c27 _ hR ?_))
      exact ⟨_, by (intro j_ o_ hj_; simp only [upd_apply, del_apply] at hj_ ⊢; (repeat' split) <;> (repeat' (split at hj_)) <;> simp_all), fin⟩
theorem c14 {H : AH} {K : AV → AH → Prop} {p b : Nat} {g : Int → Ent} {m : Es} {st : List Nat} {cl : Nat} (s : Int) (h : RG H p b g m st cl) (hk : K (vi (g s).r) H) : @AC Try.prog 14 [pA p, vi s] H ⟨K⟩ := by
  have hR := h.rs
  have hg := h.g s
  refine AC_of (.forget ?_)
  refine call_c follows cf14_ok (by simp) ?_
  repeat' (first | simp [*] | (with_reducible (refine newK_of fun _ h_ => ?_); have hn_ := free_ne h_; (try simp only [upd_none', ne_eq] at h_)) | (with_reducible (refine condK_of (fun h_ => ?_) (fun h_ => ?_))) | with_reducible (refine c29 hR ?_) | with_reducible (refine (c30 ..).ac ?_) | with_reducible (refine c27 _ hR ?_))
  exact ⟨H, by (first | exact Sub.refl _ | (repeat' (first | exact Sub.refl _ | (refine Sub.of_upd (by simp [*]) ?_)))), hk⟩
theorem c16 {H : AH} {K : AV → AH → Prop} {p b : Nat} {g : Int → Ent} {m : Es} {st : List Nat} {cl : Nat} (s : Int) (h : RG H p b g m st cl) (hk : K (vb (g s).a) H) : @AC Try.prog 16 [pA p, vi s] H ⟨K⟩ := by
  have hR := h.rs
  have hg := h.g s
  refine AC_of (.forget ?_)
  refine call_c follows cf16_ok (by simp) ?_
  repeat' (first | simp [*] | (with_reducible (refine newK_of fun _ h_ => ?_); have hn_ := free_ne h_; (try simp only [upd_none', ne_eq] at h_)) | (with_reducible (refine condK_of (fun h_ => ?_) (fun h_ => ?_))) | with_reducible (refine c29 hR ?_) | with_reducible (refine (c30 ..).ac ?_) | with_reducible (refine c27 _ hR ?_))
  exact ⟨H, by (first | exact Sub.refl _ | (repeat' (first | exact Sub.refl _ | (refine Sub.of_upd (by simp [*]) ?_)))), hk⟩
theorem c10 {H : AH} {K : AV → AH → Prop} (hk : ∀ p b, H p = none → H b = none → RG (upd (upd H b (.map [] [] 0)) p (.cells [vb true, .pl (.map (some b))])) p b (fun _ => e0) [] [] 0 → K (pA p) (upd (upd H b (.map [] [] 0)) p (.cells [vb true, .pl (.map (some b))]))) :
    @AC Try.prog 10 [] H ⟨K⟩ := by
  refine call_c follows cf10_ok (by simp) ?_
  simp
  refine newK_of fun b hb => ?_
  simp
  refine newK_of fun p hp => ?_
  obtain ⟨n1, n2, hp⟩ := upd_none'.1 hp
  simp
  exact hk p b hp hb ⟨⟨by simp [upd_apply], by simp [upd_apply, n2, mI], n1, .nil, .nil⟩, fun s => rfl⟩
end Go.Proofs.Ytnlckmkjhpaloaa
