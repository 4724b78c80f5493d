/-
  The reference's calls do what the program's do: plain facts. Conditions: as each lemma states them.
-/
import Derived.Test.YtidcajmbkbamcaaL23
namespace Go.Proofs.Ytidcajmbkbamcaa
open Go Go.Ab Go.RowKit
set_option linter.unusedSimpArgs false
set_option linter.unusedVariables false
set_option linter.unnecessarySimpa false

attribute [local simp] condK_true condK_false condK_not wpc_skip wpc_ret wpc_exit wpc_seq wpc_reg wpc_regD testA_bool wpc_cond wpc_block thenA_normal thenA_ret thenA_exit blockA_normal blockA_ret blockA_exit blockA_other endA_normal endA_ret ev_tmp' ev_const ev_func ev_global cv_int cv_bool cv_string cv_pointer cv_slice cv_agg put_some put_none wH_s setE_apply setE_env less_eq env_cons env_nil upd_upd upd_apply del_apply startA_eq cells_ag cells_sl one_sl cells_vs one_vs cells_ep one_ep cells_fn one_fn cells_int one_int cells_bool one_bool cells_string one_string cells_pointer one_pointer cells_slice one_slice cells_map one_map cells_agg resK_one resK_nil resK_two rvK_t rvK_c rvsK_nil rvsK_cons iseq_nil iseq_cons gdA_true gdA_false gdA_undef istep_free istep_guard istepV_free istepV_guard dseq_nil dseq_pu dseq_rd dseq_ef chkAll_nil chkAll_cons andK_true pickK_true pickK_false pickK_tb pickK_fb bin2K_pl eqbK_eq eqbK_ne eqpK_eq eqpK_ne un1K_pl convK_int fillK_some fillA_cons fillA_nil cellsK_some needK_true needK_ok seeK_ep seeK_ptr oneK_agg oneK_one nilcK_ptr nilcK_ep fadrK_ptr fadrK_ep fldK_ag iadAK_ptr iadAK_ep iadSK_sl iadSK_vs extK_0 extK_1 extK_2 extK_3 lenK_pl lenK_sl lenK_vs lensK_pl boxK_some minmax1K_int storeK_ptr callvK_fn callvK_pl newsK_nil newsK_vs newsK_sl appK_nil appK_nil0 appK_sl appK_vs bnd1K_int bndK_none bndK_some slsK_vs slsK_nil slsK_sl0 slsK_sl slstrK_pl boolK_some eqsK_ag iop_eqs iop_sls iop_slstr seesK_some seesK_ro mapsK_some MAP_some findK_some findK_none plK_pl nmapK_none nmapK_some iop_mlook iop_mlen iop_mmk iop_mupd iop_mdel iop_mrng itK_none itK_some ptr0K_ptr iop_mnxt iop_ment it1K_some entK_some iop_mov iop_pick iop_bin iop_eqb iop_eqp iop_un iop_conv iop_build iop_load iop_nilc iop_fadr iop_fld iop_iadA iop_iadS iop_ext iop_mkf iop_len iop_lens iop_minmax iop_al iop_box iop_bsl iop_store iop_call iop_callv iop_app BIN_add BIN_sub BIN_mul BIN_and BIN_or BIN_xor BIN_andNot BIN_eql BIN_neq BIN_lss BIN_leq BIN_gtr BIN_geq BIN_quo BIN_rem BIN_shl BIN_shr BIN_sadd BIN_seql BIN_sneq BIN_slss BIN_sleq BIN_sgtr BIN_sgeq UN_neg UN_xor UN_not MM_nil MM_cons partsA argsA ptrA lessL eqL min2I slotN_int slotP_int slotI_int

theorem fnd_has (L : List O) (s : ByteArray) : (0 ≤ fndF s L 0 ↔ has L s = true) ∧ (fndF s L 0 < 0 ↔ has L s = false) := by
  rcases fndF_spec (s := s) L 0 with ⟨h1, h2⟩ | ⟨L1, e, L2, rfl, h1, h3, h4⟩
  · rw [h1, has_none h2]; simp
  · rw [h1, has_mid h3]; simp
theorem has_perm {L m : List O} (h : L.Perm m) (s : ByteArray) : has L s = has m s := h.any_eq
def hit (o x : O) : Bool := !rempty (rcap (lg x) (lg o))
theorem ovk_all (o : O) (k : Int) : ∀ (L : List O) (j : Int), k < j → ovkF o k L j = L.any (hit o)
  | [], _, _ => rfl
  | x :: L, j, h => by
    unfold ovkF
    rw [ovk_all o k L (j + 1) (by omega), List.any_cons]
    have hj : j ≠ k := by omega
    cases hc : rempty (rcap (lg x) (lg o)) <;> simp [hit, hc, hj]
theorem ovk_mid (o e : O) (L2 : List O) : ∀ (L1 : List O) (j : Int), ovkF o (j + L1.length) (L1 ++ e :: L2) j = (L1 ++ L2).any (hit o)
  | [], j => by
    simp only [List.nil_append, ovkF]
    rw [if_neg (by simp)]
    exact ovk_all o _ L2 _ (by simp; omega)
  | x :: L1, j => by
    have ih := ovk_mid o e L2 L1 (j + 1)
    have e1 : j + ((x :: L1).length : Int) = j + 1 + (L1.length : Int) := by simp; omega
    rw [e1]
    simp only [List.cons_append, ovkF, List.any_cons]
    rw [ih]
    have hj : j ≠ j + 1 + (L1.length : Int) := by omega
    cases hc : rempty (rcap (lg x) (lg o)) <;> simp [hit, hc, hj]
theorem skp_all (k : Int) : ∀ (L : List O) (j : Int), k < j → skp k L j = L
  | [], _, _ => rfl
  | x :: L, j, h => by
    unfold skp
    rw [if_neg (by omega), skp_all k L (j + 1) (by omega)]
theorem skp_mid (e : O) (L2 : List O) : ∀ (L1 : List O) (j : Int), skp (j + L1.length) (L1 ++ e :: L2) j = L1 ++ L2
  | [], j => by
    simp only [List.nil_append, skp]
    rw [if_pos (by simp)]
    exact skp_all _ L2 _ (by simp; omega)
  | x :: L1, j => by
    have ih := skp_mid e L2 L1 (j + 1)
    have e1 : j + ((x :: L1).length : Int) = j + 1 + (L1.length : Int) := by simp; omega
    rw [e1]
    simp only [List.cons_append, skp]
    rw [if_neg (by omega), ih]
theorem hit_ovT {o x : O} (h : x.nm ≠ o.nm) : hit o x = ovT o x := by simp [hit, ovT, h, rcap_comm]
theorem any_hit {m : List O} {o : O} (h : ∀ x ∈ m, x.nm ≠ o.nm) : m.any (hit o) = ovl m o := by
  rw [ovl, Bool.eq_iff_iff, List.any_eq_true, List.any_eq_true]
  constructor
  · rintro ⟨x, hx, e⟩; exact ⟨x, hx, by rw [← hit_ovT (h x hx)]; exact e⟩
  · rintro ⟨x, hx, e⟩; exact ⟨x, hx, by rw [hit_ovT (h x hx)]; exact e⟩
theorem step_plug {m : List O} (hi : Inv m) (o : O) : wplE (souts m) o = plugE m o ∧ wplL (souts m) o = souts (plugM m o) := by
  have hp := souts_perm hi.nd
  have hE : wplE (souts m) o = plugE m o := by
    unfold wplE plugE
    by_cases c1 : chk o = 0
    · simp only [c1, ne_eq, not_true_eq_false, if_false]
      have hh := (fnd_has (souts m) o.nm).1
      rw [has_perm hp] at hh
      by_cases c2 : has m o.nm = true
      · rw [if_pos (hh.2 c2), if_pos c2]
      · rw [if_neg (fun e => c2 (hh.1 e)), if_neg c2, ovk_all o (-1) _ 0 (by omega), hp.any_eq, any_hit (has_false (by simpa using c2)), souts_len]
    · rw [if_pos c1, if_pos c1]
  refine ⟨hE, ?_⟩
  unfold wplL
  rw [hE]
  have hi2 := hi.plug (o := o)
  unfold plugM at *
  split
  · rename_i c
    rw [if_pos c] at hi2
    exact souts_uniq hi2.nd ((oins_perm o _).trans ((hp.cons o).trans (by simpa using (List.perm_append_comm (l₁ := [o]) (l₂ := m))))) (oins_up o _ (souts_up m))
  · rfl
theorem step_del {m : List O} (hi : Inv m) (s : ByteArray) : wdlE (souts m) s = delE m s ∧ wdlL (souts m) s = souts (delM m s) := by
  have hp := souts_perm hi.nd
  have hh := (fnd_has (souts m) s).2
  rw [has_perm hp] at hh
  constructor
  · unfold wdlE delE
    cases c : has m s with
    | true => rw [if_neg (fun e => by rw [hh.1 e] at c; cases c)]; rfl
    | false => rw [if_pos (hh.2 c)]; rfl
  · unfold wdlL
    rcases fndF_spec (s := s) (souts m) 0 with ⟨h1, h2⟩ | ⟨L1, e, L2, hL, h1, h3, h4⟩
    · rw [if_pos (by omega), delM_none fun x hx => h2 x (hp.mem_iff.2 hx)]
    · rw [if_neg (by omega), h1, hL, skp_mid]
      have hn : ((L1 ++ e :: L2).map okey).Nodup := by rw [← hL]; exact (hp.map okey).nodup_iff.2 hi.nd
      have hd := delM_mid hn h3
      refine souts_uniq (hi.del s).nd ?_ ?_
      · rw [← hd, ← hL]; exact hp.filter _
      · rw [← hd, ← hL]; exact (souts_up m).filter _
theorem step_mov {m : List O} (hi : Inv m) (s : ByteArray) (x y : Int) : wmvE (souts m) s x y = movE m s x y ∧ wmvL (souts m) s x y = souts (movM m s x y) := by
  have hp := souts_perm hi.nd
  have hh := (fnd_has (souts m) s).2
  rw [has_perm hp] at hh
  have hnL : ((souts m).map okey).Nodup := (hp.map okey).nodup_iff.2 hi.nd
  rcases fndF_spec (s := s) (souts m) 0 with ⟨h1, h2⟩ | ⟨L1, e, L2, hL, h1, h3, h4⟩
  · have c : has m s = false := hh.1 (by omega)
    have e1 : wmvE (souts m) s x y = 8 := by rw [wmvE, if_pos (by omega)]
    have e2 : movE m s x y = 8 := by rw [movE, if_pos c]
    exact ⟨by rw [e1, e2], by rw [wmvL, if_neg (by rw [e1]; decide), movM, if_neg (by rw [e2]; decide)]⟩
  · have c : has m s = true := by
      cases c : has m s with
      | true => rfl
      | false => have := hh.2 c; omega
    have he : e ∈ m := hp.mem_iff.1 (by rw [hL]; simp)
    have k1 : look (souts m) s = e := by rw [hL]; exact look_mid h4 h3
    have k2 : look m s = e := by rw [← h3]; exact look_of hi.nd he
    rw [Int.zero_add] at h1
    have hov : ovkF (at_ e x y) (L1.length : Int) (souts m) 0 = ovl m (at_ e x y) := by
      have h5 := ovk_mid (at_ e x y) e L2 L1 0
      rw [Int.zero_add] at h5
      rw [hL, h5]
      have hn := hnL
      rw [hL] at hn
      simp only [List.map_append, List.map_cons] at hn
      rw [List.nodup_append] at hn
      obtain ⟨n1, n2, n3⟩ := hn
      rw [List.nodup_cons] at n2
      have a1 : ∀ z ∈ L1 ++ L2, z.nm ≠ (at_ e x y).nm := by
        intro z hz e5
        rcases List.mem_append.1 hz with hz | hz
        · exact n3 _ (List.mem_map.2 ⟨z, hz, rfl⟩) (okey e) (by simp) e5
        · exact n2.1 (List.mem_map.2 ⟨z, hz, e5⟩)
      rw [any_hit a1]
      have : ovl m (at_ e x y) = ovl (souts m) (at_ e x y) := (hp.any_eq).symm
      rw [this, hL, ovl, ovl, List.any_append, List.any_append, List.any_cons]
      have : ovT (at_ e x y) e = false := by simp [ovT, at_]
      rw [this, Bool.false_or]
    have hE : wmvE (souts m) s x y = movE m s x y := by
      have a1 : ¬ fndF s (souts m) 0 < 0 := by omega
      have a2 : ¬ has m s = false := by rw [c]; decide
      simp only [wmvE, movE, if_neg a1, if_neg a2, k1, k2]
      rw [h1, hov]
    refine ⟨hE, ?_⟩
    have hi2 := hi.mov s x y
    unfold wmvL
    rw [hE]
    unfold movM at *
    split
    · rename_i c2
      rw [if_pos c2] at hi2
      rw [k1, h1]
      have hset : (souts m).set ((L1.length : Int)).toNat (at_ e x y) = L1 ++ at_ e x y :: L2 := by rw [hL]; simp
      have hmap : (souts m).map (fun o => if o.nm = s then at_ o x y else o) = L1 ++ at_ e x y :: L2 := by
        have hn := hnL
        rw [hL] at hn ⊢
        rw [← h3]
        exact mov_mid hn
      rw [hset, ← hmap]
      refine souts_uniq hi2.nd (hp.map _) ?_
      unfold Up
      rw [List.pairwise_map]
      refine (souts_up m).imp fun {a b} h => ?_
      have e6 : ∀ o : O, (if o.nm = s then at_ o x y else o).nm = o.nm := fun o => by split <;> rfl
      rw [e6, e6]; exact h
    · rfl
theorem step_do {m : List O} (hi : Inv m) (x : Op) : wdoE (souts m) x = doE m x ∧ wdoL (souts m) x = souts (doM m x) := by
  unfold wdoE wdoL doE doM
  by_cases c1 : x.k = 1
  · simp only [if_pos c1]; exact step_plug hi _
  · simp only [if_neg c1]
    by_cases c2 : x.k = 2
    · simp only [if_pos c2]; exact step_del hi _
    · simp only [if_neg c2]; exact step_mov hi _ _ _
end Go.Proofs.Ytidcajmbkbamcaa
