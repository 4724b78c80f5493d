/-
  The layout: Plug, Unplug, Move, Clamp. Conditions: as each lemma states them.
-/
import Derived.Test.YtidcajmbkbamcaaL3
namespace Go.Proofs.Ytidcajmbkbamcaa
open Go Go.Ab Go.RowKit
set_option linter.unusedSimpArgs false
set_option linter.unusedVariables false
set_option linter.unnecessarySimpa false

attribute [local simp] condK_true condK_false condK_not wpc_skip wpc_ret wpc_exit wpc_seq wpc_reg wpc_regD testA_bool wpc_cond wpc_block thenA_normal thenA_ret thenA_exit blockA_normal blockA_ret blockA_exit blockA_other endA_normal endA_ret ev_tmp' ev_const ev_func ev_global cv_int cv_bool cv_string cv_pointer cv_slice cv_agg put_some put_none wH_s setE_apply setE_env less_eq env_cons env_nil upd_upd upd_apply del_apply startA_eq cells_ag cells_sl one_sl cells_vs one_vs cells_ep one_ep cells_fn one_fn cells_int one_int cells_bool one_bool cells_string one_string cells_pointer one_pointer cells_slice one_slice cells_map one_map cells_agg resK_one resK_nil resK_two rvK_t rvK_c rvsK_nil rvsK_cons iseq_nil iseq_cons gdA_true gdA_false gdA_undef istep_free istep_guard istepV_free istepV_guard dseq_nil dseq_pu dseq_rd dseq_ef chkAll_nil chkAll_cons andK_true pickK_true pickK_false pickK_tb pickK_fb bin2K_pl eqbK_eq eqbK_ne eqpK_eq eqpK_ne un1K_pl convK_int fillK_some fillA_cons fillA_nil cellsK_some needK_true needK_ok seeK_ep seeK_ptr oneK_agg oneK_one nilcK_ptr nilcK_ep fadrK_ptr fadrK_ep fldK_ag iadAK_ptr iadAK_ep iadSK_sl iadSK_vs extK_0 extK_1 extK_2 extK_3 lenK_pl lenK_sl lenK_vs lensK_pl boxK_some minmax1K_int storeK_ptr callvK_fn callvK_pl newsK_nil newsK_vs newsK_sl appK_nil appK_nil0 appK_sl appK_vs bnd1K_int bndK_none bndK_some slsK_vs slsK_nil slsK_sl0 slsK_sl slstrK_pl boolK_some eqsK_ag iop_eqs iop_sls iop_slstr seesK_some seesK_ro mapsK_some MAP_some findK_some findK_none plK_pl nmapK_none nmapK_some iop_mlook iop_mlen iop_mmk iop_mupd iop_mdel iop_mrng itK_none itK_some ptr0K_ptr iop_mnxt iop_ment it1K_some entK_some iop_mov iop_pick iop_bin iop_eqb iop_eqp iop_un iop_conv iop_build iop_load iop_nilc iop_fadr iop_fld iop_iadA iop_iadS iop_ext iop_mkf iop_len iop_lens iop_minmax iop_al iop_box iop_bsl iop_store iop_call iop_callv iop_app BIN_add BIN_sub BIN_mul BIN_and BIN_or BIN_xor BIN_andNot BIN_eql BIN_neq BIN_lss BIN_leq BIN_gtr BIN_geq BIN_quo BIN_rem BIN_shl BIN_shr BIN_sadd BIN_seql BIN_sneq BIN_slss BIN_sleq BIN_sgtr BIN_sgeq UN_neg UN_xor UN_not MM_nil MM_cons partsA argsA ptrA lessL eqL min2I slotN_int slotP_int slotI_int
attribute [local simp] oc_len oc_tt oc_dd oc_one oc_ag oc_t1 oc_t2 oc_t3 oc_t4 oc_t5 oc_t6 oc_t7 oc_d1 oc_d2 oc_d3 oc_d4 oc_d5 oc_d6 oc_d7 rc_len rc_t4 rc_t1 rc_t2 rc_t3 rc_d1 rc_d2 rc_d3 rc_d4 rc_ag rc_one rc_eq min2_t min2_f

def has (m : List O) (s : ByteArray) : Bool := m.any fun o => decide (o.nm = s)
theorem has_none {m : List O} {s : ByteArray} (h : ∀ x ∈ m, okey x ≠ s) : has m s = false := by
  rw [has, List.any_eq_false]; intro x hx; simpa using h x hx
theorem has_mid {m1 m2 : List O} {x : O} {s : ByteArray} (hx : okey x = s) : has (m1 ++ x :: m2) s = true := by
  rw [has, List.any_eq_true]; exact ⟨x, by simp, by simpa using hx⟩
def plugE (m : List O) (o : O) : Int := if chk o ≠ 0 then chk o else if has m o.nm = true then 7 else if ovl m o = true then 6 else if 8 ≤ m.length then 5 else 0
def plugM (m : List O) (o : O) : List O := if plugE m o = 0 then m ++ [o] else m
theorem c24 {H : AH} {K : AV → AH → Prop} {p b : Nat} {m : List O} {st : List Nat} {cl : Nat} (o : O) (h : LS H p b m st cl)
    (hk : ∀ st' cl', LS (upo H b (plugM m o) st' cl') p b (plugM m o) st' cl' → K (vi (plugE m o)) (upo H b (plugM m o) st' cl')) : @AC Try.prog 24 [pA p, .ag (oc o)] H ⟨K⟩ := by
  have same : ∀ {e}, plugE m o = e → e ≠ 0 → K (vi e) H := fun {e} h1 h2 => by
    have := hk st cl (by rw [plugM, if_neg (by rw [h1]; exact h2), h.self]; exact h)
    rwa [plugM, if_neg (by rw [h1]; exact h2), h.self, h1] at this
  refine AC_of (.forget ?_)
  refine call_c follows cf24_ok (by simp) ?_
  simp
  refine newK_of fun z hz => ?_
  have hz1 : Sub H (upd H z (.cells (oc o))) := (Sub.refl H).upd hz
  have hzz : upd H z (.cells (oc o)) z = some (.cells (oc o)) := by simp [upd_apply]
  have nzb := (free_ne hz b (by simp [h.mp]))
  have hcomm : ∀ X, Sub (upd H b X) (upd (upd H z (.cells (oc o))) b X) := fun X => hz1.cong
  have h' := h.sub hz1
  have h1 := h'.ob
  have h2 := h'.mp
  simp
  generalize upd H z (.cells (oc o)) = H2 at *
  refine c36 h' ?_
  simp [hzz]
  refine (c47 o).ac ?_
  by_cases c1 : chk o = 0
  · simp [c1, h1, h2, hzz]
    rcases splitS okey o.nm m with e | ⟨m1, x, m2, e0, e1, e2⟩
    · have ef := sfind_none (val := oval) m 0 e
      have hh := has_none e
      simp [ef]
      refine newK_of fun u hu => ?_
      have hsu : Sub H2 (upd H2 u (.cells (oc ⟨⟨#[]⟩, 0, 0, 0, 0, 0, 0, 0⟩))) := (Sub.refl _).upd hu
      have nub := free_ne hu b (by simp [h2])
      have nuz := free_ne hu z (by simp [hzz])
      have nup := free_ne hu p (by simp [h1])
      simp [h1, h2, hzz, nub, nuz, nup, ef]
      have g1 : upd H2 u (.cells (oc ⟨⟨#[]⟩, 0, 0, 0, 0, 0, 0, 0⟩)) p = some (.cells [vb true, .pl (.map (some b))]) := hsu.at h1
      have g2 := hsu.at h2
      have g3 := hsu.at hzz
      have hs2 := hz1.trans hsu
      have h5 := h'.sub hsu
      clear hsu
      generalize upd H2 u (.cells (oc ⟨⟨#[]⟩, 0, 0, 0, 0, 0, 0, 0⟩)) = H3 at *
      refine c48 o h5 ?_
      cases c2 : ovl m o with
      | true =>
        have e1 : plugE m o = 6 := by rw [plugE, if_neg (by simp [c1]), if_neg (by simp [hh]), if_pos c2]
        simp
        exact ⟨H, hs2, same e1 (by decide)⟩
      | false =>
        have hl := mS_len (key := okey) (val := oval) m
        by_cases c3 : 8 ≤ m.length
        · have e1 : plugE m o = 5 := by rw [plugE, if_neg (by simp [c1]), if_neg (by simp [hh]), if_neg (by simp [c2]), if_pos c3]
          have c3' : (8 : Int) ≤ m.length := by omega
          simp [g1, g2, hl, c3']
          exact ⟨H, hs2, same e1 (by decide)⟩
        · have e1 : plugE m o = 0 := by rw [plugE, if_neg (by simp [c1]), if_neg (by simp [hh]), if_neg (by simp [c2]), if_neg c3]
          have c3' : ¬ (8 : Int) ≤ m.length := by omega
          have e2 := mS_push (key := okey) (val := oval) (m := m) o
          have hM : plugM m o = m ++ [o] := if_pos e1
          have fin := hk (st ++ [cl]) (cl + 1) (by
            rw [hM]
            exact h.new (by
              rw [List.map_append, List.nodup_append]
              exact ⟨h.nd, by simp, fun a ha c hc => by
                obtain ⟨y, hy, rfl⟩ := List.mem_map.1 ha
                have : c = o.nm := by simpa using hc
                rw [this]; exact e y hy⟩) (by simpa using h.stp.push))
          rw [hM, e1] at fin
          unfold upo at fin
          rw [← e2] at fin
          simp [g1, g2, g3, hl, c3', ef]
          exact ⟨_, hs2.cong, fin⟩
    · have ef := sfind_some (val := oval) (m2 := m2) m1 0 e1 e2
      have hh : has m o.nm = true := by rw [e0]; exact has_mid e2
      rw [← e0] at ef
      have e1 : plugE m o = 7 := by rw [plugE, if_neg (by simp [c1]), if_pos hh]
      clear e0
      simp [ef]
      refine newK_of fun u hu => ?_
      have hsu : Sub H2 (upd H2 u (.cells (oc x))) := (Sub.refl _).upd hu
      have nub := free_ne hu b (by simp [h2])
      have nuz := free_ne hu z (by simp [hzz])
      have nup := free_ne hu p (by simp [h1])
      simp [h1, h2, hzz, nub, nuz, nup, ef]
      exact ⟨H, hz1.trans hsu, same e1 (by decide)⟩
  · have e1 : plugE m o = chk o := if_pos c1
    simp [c1]
    exact ⟨H, hz1, same e1 c1⟩
def delE (m : List O) (s : ByteArray) : Int := if has m s = true then 0 else 8
def delM (m : List O) (s : ByteArray) : List O := m.filter fun o => !decide (o.nm = s)
theorem delM_none {m : List O} {s : ByteArray} (h : ∀ x ∈ m, okey x ≠ s) : delM m s = m := by
  refine List.filter_eq_self.2 fun x hx => by simpa using h x hx
theorem delM_mid {m1 m2 : List O} {x : O} {s : ByteArray} (hn : ((m1 ++ x :: m2).map okey).Nodup) (hx : okey x = s) : delM (m1 ++ x :: m2) s = m1 ++ m2 := by
  simp only [List.map_append, List.map_cons] at hn
  rw [List.nodup_append] at hn
  obtain ⟨h1, h2, h3⟩ := hn
  rw [List.nodup_cons] at h2
  have a1 : ∀ y ∈ m1, okey y ≠ s := fun y hy e => h3 _ (List.mem_map.2 ⟨y, hy, rfl⟩) (okey x) (by simp) (e.trans hx.symm)
  have a2 : ∀ y ∈ m2, okey y ≠ s := fun y hy e => h2.1 (List.mem_map.2 ⟨y, hy, e.trans hx.symm⟩)
  have d1 := delM_none a1
  have d2 := delM_none a2
  unfold delM at *
  rw [List.filter_append, List.filter_cons, d1, d2]
  have : (!decide (x.nm = s)) = false := by simpa using hx
  rw [this]; rfl
theorem c26 {H : AH} {K : AV → AH → Prop} {p b : Nat} {m : List O} {st : List Nat} {cl : Nat} (s : ByteArray) (h : LS H p b m st cl)
    (hk : ∀ st' cl', LS (upo H b (delM m s) st' cl') p b (delM m s) st' cl' → K (vi (delE m s)) (upo H b (delM m s) st' cl')) : @AC Try.prog 26 [pA p, vs8 s] H ⟨K⟩ := by
  have h1 := h.ob
  have h2 := h.mp
  refine AC_of (.forget ?_)
  refine call_c follows cf26_ok (by simp) ?_
  simp
  refine c36 h ?_
  rcases splitS okey s m with e | ⟨m1, x, m2, rfl, e1, e2⟩
  · have ef := sfind_none (val := oval) m 0 e
    have fin := hk st cl (by rw [delM_none e, h.self]; exact h)
    rw [delM_none e, h.self, delE, has_none e] at fin
    simp [h1, h2, ef]
    refine newK_of fun u hu => ?_
    have hsu : Sub H (upd H u (.cells (oc ⟨⟨#[]⟩, 0, 0, 0, 0, 0, 0, 0⟩))) := (Sub.refl _).upd hu
    have nub := free_ne hu b (by simp [h2])
    have nup := free_ne hu p (by simp [h1])
    simp [h1, h2, nub, nup, ef]
    exact ⟨H, hsu, fin⟩
  · have ef := sfind_some (val := oval) (m2 := m2) m1 0 e1 e2
    have hM := delM_mid h.nd e2
    have hl : (m1 ++ x :: m2).length = (m1 ++ m2).length + 1 := by simp; omega
    have fin := hk (st.eraseIdx m1.length) cl (by
      rw [hM]
      refine h.new ?_ ((h.stp.len hl).erase _ (by simp))
      rw [← hM]
      exact h.nd.sublist ((List.filter_sublist ..).map okey))
    have e3 := mS_erase (key := okey) (val := oval) (m1 := m1) (m2 := m2) (e := x)
    rw [hM, delE, has_mid e2] at fin
    unfold upo at fin
    rw [← e3] at fin
    simp [h1, h2, ef]
    refine newK_of fun u hu => ?_
    have hsu : Sub H (upd H u (.cells (oc x))) := (Sub.refl _).upd hu
    have nub := free_ne hu b (by simp [h2])
    have nup := free_ne hu p (by simp [h1])
    simp [h1, h2, nub, nup, ef]
    exact ⟨_, hsu.cong, fin⟩
end Go.Proofs.Ytidcajmbkbamcaa
