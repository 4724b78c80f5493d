/-
  Several texts in one: P46; P47; P48; P49; P50; P51; P52. Conditions: as each lemma states them.
-/
import Derived.Test.YtmpncpamndhmcaaGreatMQ
import Derived.Test.YtmpncpamndhmcaaGreatAbO
import Derived.Test.YtmpncpamndhmcaaGreatCg
open Go Go.Ab Go.RowKit
set_option linter.unusedSimpArgs false
set_option linter.unusedVariables false
set_option linter.unnecessarySimpa false
attribute [local simp] condK_true condK_false condK_not wpc_skip wpc_ret wpc_exit wpc_seq wpc_reg wpc_regD testA_bool wpc_cond wpc_block thenA_normal thenA_ret thenA_exit blockA_normal blockA_ret blockA_exit blockA_other endA_normal endA_ret ev_tmp' ev_const ev_func ev_global cv_int cv_bool cv_string cv_pointer cv_slice cv_agg cv_map put_some put_none wH_s setE_apply setE_env less_eq env_cons env_nil upd_upd upd_apply del_apply startA_eq cells_ag cells_sl one_sl cells_vs one_vs cells_ep one_ep cells_fn one_fn cells_int one_int cells_bool one_bool cells_string one_string cells_pointer one_pointer cells_slice one_slice cells_map one_map cells_agg resK_one resK_nil resK_two rvK_t rvK_c rvsK_nil rvsK_cons iseq_nil iseq_cons gdA_true gdA_false gdA_undef istep_free istep_guard istepV_free istepV_guard dseq_nil dseq_pu dseq_rd dseq_ef wpc_regT dtree_nil dtree_pu dtree_rd dtree_ef dtree_br chkAll_nil chkAll_cons andK_true pickK_true pickK_false pickK_tb pickK_fb bin2K_pl eqbK_eq eqbK_ne eqpK_eq eqpK_ne eqmK_eq eqmK_ne eqzK_eq eqzK_ne eqzK_sl eqzK_vs un1K_pl convK_int fillK_some fillA_cons fillA_nil cellsK_some needK_true needK_ok seeK_ep seeK_ptr oneK_agg oneK_one nilcK_ptr nilcK_ep fadrK_ptr fadrK_ep fldK_ag iadAK_ptr iadAK_ep iadSK_sl iadSK_vs extK_0 extK_1 extK_2 extK_3 lenK_pl lenK_sl lenK_vs lensK_pl boxK_some minmax1K_int storeK_ptr callvK_fn callvK_pl newsK_nil newsK_vs newsK_sl appK_nil appK_nil0 appK_sl appK_vs bnd1K_int bndK_none bndK_some slsK_vs slsK_nil slsK_sl0 slsK_sl slstrK_pl boolK_some eqsK_ag iop_eqs iop_sls iop_slstr seesK_some seesK_ro mapsK_some MAP_some findK_some findK_none plK_pl nmapK_none nmapK_some iop_mlook iop_mlen iop_mmk iop_mupd iop_mdel iop_mrng itK_none itK_some ptr0K_ptr iop_mnxt iop_ment it1K_some entK_some iop_mov iop_pick iop_bin iop_eqb iop_eqp iop_eqm iop_eqz iop_un capK_pl capK_sl capK_vs iop_cap apzK_nil iop_apz mksK_int iop_mks clrK_sl clrK_vs clrK_nil iop_clr iop_conv iop_build iop_load iop_nilc iop_fadr iop_fld iop_iadA iop_iadS iop_ext iop_mkf iop_len iop_lens iop_minmax iop_al iop_box iop_bsl iop_store iop_call iop_callv iop_app BIN_add BIN_sub BIN_mul BIN_and BIN_or BIN_xor BIN_andNot BIN_eql BIN_neq BIN_lss BIN_leq BIN_gtr BIN_geq BIN_quo BIN_rem BIN_shl BIN_shr BIN_sadd BIN_seql BIN_sneq BIN_slss BIN_sleq BIN_sgtr BIN_sgeq UN_neg UN_xor UN_not MM_nil MM_cons partsA argsA ptrA lessL eqL min2I slotN_int slotP_int slotI_int
/-! The specification's grab stack (compositorref33), walked: what keeps no list. Conditions: as each lemma states them. -/
section
namespace Go.Proofs.YtmpncpamndhmcaaGreat
open Go Go.Ab Go.RowKit

attribute [local simp] rc_len rc_t4 rc_t1 rc_t2 rc_t3 rc_d1 rc_d2 rc_d3 rc_d4 rc_ag rc_one rc_eq

structure InvM (m : M) : Prop where
  len : m.ch.length ≤ 8
  b : (m.b0 = 0 ∧ m.b1 = 0) ∨ (1 ≤ m.b0 ∧ 1 ≤ m.b1)
  d : (m.d0 = 0 ∧ m.d1 = 0) ∨ (1 ≤ m.d0 ∧ 0 ≤ m.d1)
theorem InvM.impl {m : M} (h : InvM m) (c s : Int) : InvM (implM m c s).1 := by
  unfold implM
  split
  · exact h
  · split
    · exact h
    · rename_i h1 _
      exact ⟨h.len, .inr ⟨by simp only; omega, by simp only; omega⟩, h.d⟩
theorem InvM.rel {m : M} (h : InvM m) : InvM (releaseM m).1 := by
  unfold releaseM
  split
  · exact h
  · exact ⟨h.len, .inl ⟨rfl, rfl⟩, h.d⟩
theorem InvM.drag {m : M} (h : InvM m) (c s : Int) : InvM (dragM m c s).1 := by
  unfold dragM
  split
  · exact h
  · split
    · exact h
    · rename_i h1 _
      exact ⟨h.len, h.b, .inr ⟨by simp only; omega, by simp only; omega⟩⟩
theorem InvM.done {m : M} (h : InvM m) : InvM (endM m).1 := by
  unfold endM
  split
  · exact h
  · exact ⟨h.len, h.b, .inl ⟨rfl, rfl⟩⟩
theorem InvM.dismiss {m : M} (h : InvM m) (s : Int) : InvM (dismissM m s).1 := by
  unfold dismissM
  split
  · exact h
  · exact ⟨cutM_ch _ _ h.len, h.b, h.d⟩
theorem InvM.click {m : M} (h : InvM m) (c s : Int) : InvM (clickM m c s).1 := by
  unfold clickM
  split
  · exact h
  split
  · exact ⟨cutM_ch _ _ h.len, h.b, h.d⟩
  split
  · exact h
  · exact ⟨cutM_ch _ _ h.len, h.b, h.d⟩
theorem InvM.popup {m : M} (h : InvM m) (c s p : Int) : InvM (popupM m c s p).1 := by
  refine ⟨popM_ch _ _ _ _ h.len, ?_, ?_⟩
  · unfold popupM; repeat' split
    all_goals exact h.b
  · unfold popupM; repeat' split
    all_goals exact h.d
/-- The specification's stack. -/
def rcs (m : M) (a : AV) : List AV := [vb true, vi m.b0, vi m.b1, vb (!decide (m.d0 = 0)), vi m.d0, vi m.d1, vi m.owner, a]
def gz : M := ⟨0, 0, 0, 0, 0, []⟩
theorem c45 {H : AH} {K : AV → AH → Prop} (hk : K (.ag (rcs gz vnil)) H) : @AC Tryz.prog 45 [] H ⟨K⟩ := by
  refine AC_of (.forget ?_)
  refine call_c follows cf45_ok (by simp) ?_
  simp
  refine newK_of fun b hb => ?_
  simp
  exact ⟨H, (Sub.refl H).upd hb, hk⟩
theorem c114 {H : AH} {K : AV → AH → Prop} {m : M} {a : AV} (hI : InvM m) (hr : Ri H a m.ch) (c s : Int) (hk : K (.tp [.ag (rcs (implM m c s).1 a), vi (implM m c s).2]) H) :
    @AC Tryz.prog 114 [.ag (rcs m a), vi c, vi s] H ⟨K⟩ := by
  refine AC_of (.forget ?_)
  refine call_c follows cf114_ok (by simp) ?_
  have o1 := hr.one
  have o2 := hr.cells
  simp [rcs]
  refine newK_of fun p hp => ?_
  simp
  refine newK_of fun q hq => ?_
  obtain ⟨n1, n2, hq⟩ := upd_none'.1 hq
  unfold implM at hk
  have hd := hI.b
  by_cases e1 : c < 1
  · rw [if_pos (.inl e1)] at hk
    simp [e1, n2, o1]
    exact ⟨H, (by repeat' (first | exact Sub.refl _ | refine Sub.upd ?_ hp | refine Sub.upd ?_ hq)), hk⟩
  by_cases e2 : s < 1
  · rw [if_pos (.inr e2)] at hk
    simp [e1, e2, n2, o1]
    exact ⟨H, (by repeat' (first | exact Sub.refl _ | refine Sub.upd ?_ hp | refine Sub.upd ?_ hq)), hk⟩
  rw [if_neg (by omega)] at hk
  by_cases e3 : m.b0 = 0
  · have e4 : m.b1 = 0 := by omega
    rw [if_neg (by simp [e3])] at hk
    simp [e1, e2, e3, e4, n1, n2, o1]
    exact ⟨H, (by repeat' (first | exact Sub.refl _ | refine Sub.upd ?_ hp | refine Sub.upd ?_ hq)), hk⟩
  · have e4 : ¬ m.b1 = 0 := by omega
    rw [if_pos e3] at hk
    simp [e1, e2, e4, n2, o1]
    exact ⟨H, (by repeat' (first | exact Sub.refl _ | refine Sub.upd ?_ hp | refine Sub.upd ?_ hq)), hk⟩
theorem c51 {H : AH} {K : AV → AH → Prop} {m : M} {a : AV} (hI : InvM m) (hr : Ri H a m.ch) (c s : Int) (hk : K (.tp [.ag (rcs (dragM m c s).1 a), vi (dragM m c s).2]) H) :
    @AC Tryz.prog 51 [.ag (rcs m a), vi c, vi s] H ⟨K⟩ := by
  refine AC_of (.forget ?_)
  refine call_c follows cf51_ok (by simp) ?_
  have o1 := hr.one
  have o2 := hr.cells
  simp [rcs]
  refine newK_of fun p hp => ?_
  simp
  refine newK_of fun q hq => ?_
  obtain ⟨n1, n2, hq⟩ := upd_none'.1 hq
  unfold dragM at hk
  have hd := hI.d
  by_cases e1 : c < 1
  · rw [if_pos (.inl e1)] at hk
    simp [e1, n2, o1]
    exact ⟨H, (by repeat' (first | exact Sub.refl _ | refine Sub.upd ?_ hp | refine Sub.upd ?_ hq)), hk⟩
  by_cases e2 : s < 0
  · rw [if_pos (.inr e2)] at hk
    simp [e1, e2, n2, o1]
    exact ⟨H, (by repeat' (first | exact Sub.refl _ | refine Sub.upd ?_ hp | refine Sub.upd ?_ hq)), hk⟩
  rw [if_neg (by omega)] at hk
  by_cases e3 : m.d0 = 0
  · have e5 : ¬ c = 0 := by omega
    rw [if_neg (by simp [e3])] at hk
    simp [rcs, e5] at hk
    simp [e1, e2, e3, n1, n2, o1]
    exact ⟨H, (by repeat' (first | exact Sub.refl _ | refine Sub.upd ?_ hp | refine Sub.upd ?_ hq)), hk⟩
  · rw [if_pos e3] at hk
    simp [rcs, e3] at hk
    simp [e1, e2, e3, n2, o1]
    exact ⟨H, (by repeat' (first | exact Sub.refl _ | refine Sub.upd ?_ hp | refine Sub.upd ?_ hq)), hk⟩
theorem c81 {H : AH} {K : AV → AH → Prop} {m : M} {a : AV} (hI : InvM m) (hr : Ri H a m.ch) (hk : K (.tp [.ag (rcs (releaseM m).1 a), vi (releaseM m).2.1, vb (releaseM m).2.2]) H) :
    @AC Tryz.prog 81 [.ag (rcs m a)] H ⟨K⟩ := by
  refine AC_of (.forget ?_)
  refine call_c follows cf81_ok (by simp) ?_
  have o1 := hr.one
  have o2 := hr.cells
  simp [rcs]
  refine newK_of fun p hp => ?_
  simp
  refine newK_of fun q hq => ?_
  obtain ⟨n1, n2, hq⟩ := upd_none'.1 hq
  have hd := hI.b
  by_cases e3 : m.b0 = 0
  · have e4 : m.b1 = 0 := by omega
    simp [rcs, releaseM, e3, e4] at hk
    simp [e3, e4, n1, n2, o1]
    exact ⟨H, (by repeat' (first | exact Sub.refl _ | refine Sub.upd ?_ hp | refine Sub.upd ?_ hq)), hk⟩
  · have e4 : ¬ m.b1 = 0 := by omega
    simp [rcs, releaseM, e3] at hk
    simp [e4, n1, n2, o1]
    exact ⟨H, (by repeat' (first | exact Sub.refl _ | refine Sub.upd ?_ hp | refine Sub.upd ?_ hq)), hk⟩
theorem c52 {H : AH} {K : AV → AH → Prop} {m : M} {a : AV} (hI : InvM m) (hr : Ri H a m.ch) (hk : K (.tp [.ag (rcs (endM m).1 a), vb (endM m).2]) H) :
    @AC Tryz.prog 52 [.ag (rcs m a)] H ⟨K⟩ := by
  refine AC_of (.forget ?_)
  refine call_c follows cf52_ok (by simp) ?_
  have o1 := hr.one
  have o2 := hr.cells
  simp [rcs]
  refine newK_of fun p hp => ?_
  simp
  refine newK_of fun q hq => ?_
  obtain ⟨n1, n2, hq⟩ := upd_none'.1 hq
  have hd := hI.d
  by_cases e3 : m.d0 = 0
  · have e4 : m.d1 = 0 := by omega
    simp [rcs, endM, e3, e4] at hk
    simp [e3, e4, n1, n2, o1]
    exact ⟨H, (by repeat' (first | exact Sub.refl _ | refine Sub.upd ?_ hp | refine Sub.upd ?_ hq)), hk⟩
  · simp [rcs, endM, e3] at hk
    simp [e3, n1, n2, o1]
    exact ⟨H, (by repeat' (first | exact Sub.refl _ | refine Sub.upd ?_ hp | refine Sub.upd ?_ hq)), hk⟩
theorem getD_last {l : List Int} (h : 0 < l.length) : l.getD (l.length - 1) 0 = l[l.length - 1] := by
  rw [List.getD_eq_getElem?_getD, List.getElem?_eq_getElem (show l.length - 1 < l.length by omega)]; rfl
theorem c25 {H : AH} {K : AV → AH → Prop} {m : M} {a : AV} (hI : InvM m) (hr : Ri H a m.ch) (hk : K (.tp [vi (topM m).1, vi (topM m).2.1, vi (topM m).2.2]) H) :
    @AC Tryz.prog 25 [.ag (rcs m a)] H ⟨K⟩ := by
  refine AC_of (.forget ?_)
  refine call_c follows cf25_ok (by simp) ?_
  have o1 := hr.one
  have o2 := hr.cells
  have l1 := fun k => hr.lenK (k := k)
  have hl := hI.len
  simp [rcs]
  refine newK_of fun p hp => ?_
  have hS := fun (o1 : AO) => ((Sub.refl H).upd (o := o1) hp)
  have hd := hI.d
  have hb := hI.b
  unfold topM at hk
  by_cases e1 : m.d0 = 0
  · by_cases e2 : m.b0 = 0
    · have e4 : m.b1 = 0 := by omega
      rw [if_neg (by simp [e1]), if_neg (by simp [e2])] at hk
      by_cases e5 : m.ch.length = 0
      · rw [if_pos e5] at hk
        have e5' : ¬ (0 : Int) < m.ch.length := by omega
        have e5'' : m.ch = [] := List.length_eq_zero_iff.1 e5
        simp [e1, e2, e4, l1, e5'']
        exact ⟨H, hS _, hk⟩
      · rw [if_neg e5, getD_last (by omega)] at hk
        have e6 : 0 < m.ch.length := by omega
        have e6' : (0 : Int) < m.ch.length := by omega
        obtain ⟨pl, h1, h2⟩ := hr.see (i := m.ch.length - 1) (by omega)
        have ec : ((m.ch.length - 1 : Nat) : Int) = (m.ch.length : Int) - 1 := by omega
        rw [ec] at h1
        have w := IntWalk.i64_in ((m.ch.length : Int) - 1) (by omega)
        have e7 : ¬ m.ch = [] := by rintro h; rw [h] at e6; simp at e6
        simp [e1, e2, e4, l1, e6, w, h1, h2 _ (hS _)]
        exact ⟨H, hS _, hk⟩
    · have e4 : ¬ m.b1 = 0 := by omega
      rw [if_neg (by simp [e1]), if_pos e2] at hk
      simp [e1, e4]
      exact ⟨H, hS _, hk⟩
  · rw [if_pos e1] at hk
    simp [e1]
    exact ⟨H, hS _, hk⟩
theorem c112 {H : AH} {K : AV → AH → Prop} {m : M} {a : AV} (hI : InvM m) (hr : Ri H a m.ch) (c : Int) (hk : K (vb (allowsM m c)) H) :
    @AC Tryz.prog 112 [.ag (rcs m a), vi c] H ⟨K⟩ := by
  refine AC_of (.forget ?_)
  refine call_c follows cf112_ok (by simp) ?_
  have o1 := hr.one
  have o2 := hr.cells
  have l1 := fun k => hr.lenK (k := k)
  simp [rcs]
  refine newK_of fun p hp => ?_
  have hS := fun (o1 : AO) => ((Sub.refl H).upd (o := o1) hp)
  have hd := hI.d
  have hb := hI.b
  by_cases e0 : c < 1
  · simp [allowsM, e0] at hk
    simp [e0]
    exact ⟨H, hS _, hk⟩
  by_cases e1 : m.d0 = 0
  · by_cases e2 : m.b0 = 0
    · have e4 : m.b1 = 0 := by omega
      by_cases e5 : m.ch.length = 0
      · have e5' : ((m.ch.length : Int)) = 0 := by omega
        have e5'' : m.ch = [] := List.length_eq_zero_iff.1 e5
        simp [allowsM, topM, e0, e1, e2, e5''] at hk
        simp [e0, e1, e2, e4, l1, e5'']
        exact ⟨H, hS _, hk⟩
      · have e5' : ¬ ((m.ch.length : Int)) = 0 := by omega
        have e7 : ¬ m.ch = [] := by rintro h; rw [h] at e5; simp at e5
        simp [allowsM, topM, e0, e1, e2, e5] at hk
        simp [e0, e1, e2, e4, l1, e5]
        exact ⟨H, hS _, hk⟩
    · have e4 : ¬ m.b1 = 0 := by omega
      simp [allowsM, topM, e0, e1, e2] at hk
      simp [e0, e1, e4]
      exact ⟨H, hS _, hk⟩
  · simp [allowsM, topM, e0, e1] at hk
    simp [e0, e1]
    exact ⟨H, hS _, hk⟩
end Go.Proofs.YtmpncpamndhmcaaGreat
end

/-! The specification's grab stack: finding a popup, dismissing popups. Conditions: as each lemma states them. -/
section
namespace Go.Proofs.YtmpncpamndhmcaaGreat
open Go Go.Ab Go.RowKit

attribute [local simp] rc_len rc_t4 rc_t1 rc_t2 rc_t3 rc_d1 rc_d2 rc_d3 rc_d4 rc_ag rc_one rc_eq

section
variable {H : AH} {a : AV}
/-- A part of a row. -/
theorem Rw.part {H0 : AH} {ρ : Operand → AV} {lo hi : Option Operand} {cs : List AV} {n sz l u : Nat} {k : AV → AH → Prop} (h : Rw H0 a cs n sz) (h1 : l ≤ u) (h2 : u ≤ n) (hlo : ∀ k : Int → Prop, @BND ρ lo 0 ⟨k⟩ = k l) (hhi : ∀ k : Int → Prop, @BND ρ hi n ⟨k⟩ = k u)
    (hk : ∀ a', Rw H0 a' ((cs.drop (l * sz)).take ((u - l) * sz)) (u - l) sz → k a' H) : @slsK ρ H sz a lo hi none ⟨k⟩ := by
  have e1 : ((u : Int) - (l : Int)).toNat = u - l := by omega
  have e2 : ((l : Nat) : Int).toNat = l := by omega
  have e3 : ((u : Nat) : Int).toNat = u := by omega
  have hm : ∀ k : Int → Prop, @BND ρ none (u : Int) ⟨k⟩ = k u := fun k => bndK_none
  have hul : (u - l) * sz ≤ n * sz - l * sz := by rw [← Nat.sub_mul]; exact Nat.mul_le_mul_right _ (by omega)
  have hln : l * sz ≤ n * sz := Nat.mul_le_mul_right _ (by omega)
  rcases h with ⟨hl, ⟨f, rfl⟩ | ⟨rfl, rfl⟩ | ⟨b, o, f, C, rfl, g2, r, g3, g4⟩⟩
  · rw [slsK_vs]
    rw [hhi, hm, hlo, needK_ok ⟨by omega, by omega, by omega, rfl⟩, e1, e2]
    exact hk _ (Rw.vs _ (by rw [List.length_take, List.length_drop, hl]; omega))
  · have hu : u = 0 := by omega
    have hl0 : l = 0 := by omega
    subst hu; subst hl0
    rw [slsK_nil]
    have hhi' : ∀ k : Int → Prop, @BND ρ hi 0 ⟨k⟩ = k 0 := fun k => by have := hhi k; simpa using this
    have hlo' : ∀ k : Int → Prop, @BND ρ lo 0 ⟨k⟩ = k 0 := fun k => by have := hlo k; simpa using this
    rw [hhi', bndK_none, hlo', needK_ok ⟨rfl, rfl, rfl⟩]
    have hc : cs = [] := by simpa using hl
    subst hc
    exact hk _ (by simpa using Rw.nil H0 sz)
  · have key : ∀ o' f', o' = o + l * sz → Rw H0 (.sl b o' (u - l) sz f') ((cs.drop (l * sz)).take ((u - l) * sz)) (u - l) sz := by
      rintro o' f' rfl
      refine ⟨by rw [List.length_take, List.length_drop, hl]; omega, .inr (.inr ⟨b, _, f', C, rfl, g2, (cs.drop (l * sz)).drop ((u - l) * sz) ++ r, ?_, ?_⟩)⟩
      · rw [← List.drop_drop, g3, List.drop_append_of_le_length (by omega), ← List.append_assoc, List.take_append_drop]
      · have := congrArg List.length g3
        simp at this; omega
    cases lo with
    | none =>
      have hl0 : l = 0 := by
        have := hlo (fun j => j = 0)
        rw [bndK_none] at this
        have : (l : Int) = 0 := by rw [← this]
        omega
      subst hl0
      rw [slsK_sl0, needK_ok rfl, hhi, hm, needK_ok ⟨by omega, by omega, rfl⟩, e3]
      exact hk _ (key o _ (by simp))
    | some lo =>
      rw [slsK_sl, needK_ok rfl, hhi, hm, hlo, needK_ok ⟨by omega, by omega, by omega, rfl⟩]
      refine condK_of (fun h0 => ?_) fun h0 => ?_
      · have h0 : (l : Int) = 0 := by simpa using h0
        have hl0 : l = 0 := by omega
        subst hl0
        rw [e3]
        exact hk _ (key o _ (by simp))
      · refine condK_of (fun h3 => ?_) fun h3 => ?_
        · rw [e1, e2]
          exact hk _ (key _ _ rfl)
        · have h3 : ¬ (l : Int) < u := by simpa using h3
          have hlu : l = u := by omega
          subst hlu
          rw [needK_ok rfl]
          have := Rw.vs H0 (n := 0) (sz := sz) (f := false) (cs := []) (by simp)
          exact hk _ (by simpa using this)
end
/-! ### What is new -/
def Dm (A V : AH) : Prop := ∀ j, V j = none → A j = none
structure Vw (H A V : AH) : Prop where
  sub : Sub H V
  dm : Dm A V
theorem Vw.put {H A V : AH} (h : Vw H A V) {b : Nat} (hb : H b = none) (X : AO) : Vw H A (upd V b X) := by
  refine ⟨h.sub.upd hb, fun j hj => ?_⟩
  simp only [upd_apply] at hj
  split at hj
  · cases hj
  · exact h.dm j hj
theorem allvi3 (l : List Int) : (l.map vi).all AV.one = true := by simp
theorem sdm {A V : AH} (h : Sub A V) : Dm A V := fun j hj => h.none_of hj
theorem Vw.to {H A V V' : AH} (h : Vw H A V) (hs : Sub V V') : Vw H A V' := ⟨h.sub.trans hs, fun j hj => h.dm j (hs.none_of hj)⟩
/-- A block that is new. -/
def In (A V : AH) (r : Nat) (C : List AV) : Prop := A r = none ∧ V r = some (.cells C)
theorem In.put {A V : AH} {r : Nat} {C : List AV} (h : In A V r C) {b : Nat} (hb : A b ≠ none) (X : AO) : In A (upd V b X) r C :=
  ⟨h.1, by simp only [upd_apply]; rw [if_neg (by rintro rfl; exact hb h.1)]; exact h.2⟩
theorem In.to {A V V' : AH} {r : Nat} {C : List AV} (h : In A V r C) (hs : Sub V V') : In A V' r C := ⟨h.1, hs _ _ h.2⟩
theorem In.from {A A' V : AH} {r : Nat} {C : List AV} (h : In A V r C) (hs : Dm A' A) : In A' V r C := ⟨hs _ h.1, h.2⟩
/-- Numbers: as they were, or in a new row. -/
def NwI (A V : AH) (a : AV) (l : List Int) (a' : AV) (l' : List Int) : Prop := (a' = a ∧ l' = l) ∨ (a' = vnil ∧ l' = []) ∨ ∃ r f, a' = .sl r 0 l'.length 1 f ∧ In A V r (l'.map vi)
def OutN (A V : AH) (out : AV) (l : List Dl) : Prop := (l = [] ∧ out = vnil) ∨ ∃ r f, out = .sl r 0 l.length 9 f ∧ In A V r (flat dlc l)
theorem OutN.put {A V : AH} {o : AV} {l : List Dl} (h : OutN A V o l) {b : Nat} (hb : A b ≠ none) (X : AO) : OutN A (upd V b X) o l := by
  rcases h with h | ⟨r, f, h1, h2⟩
  · exact .inl h
  · exact .inr ⟨r, f, h1, h2.put hb X⟩
theorem OutN.to {A V V' : AH} {o : AV} {l : List Dl} (h : OutN A V o l) (hs : Sub V V') : OutN A V' o l := by
  rcases h with h | ⟨r, f, h1, h2⟩
  · exact .inl h
  · exact .inr ⟨r, f, h1, h2.to hs⟩
theorem OutN.new {A V : AH} {o : AV} {l : List Dl} (h : OutN A V o l) {b : Nat} (hb : V b = none) (X : AO) : OutN A (upd V b X) o l := h.to ((Sub.refl V).upd hb)
theorem OutN.from {A A' V : AH} {o : AV} {l : List Dl} (h : OutN A V o l) (hs : Dm A' A) : OutN A' V o l := by
  rcases h with h | ⟨r, f, h1, h2⟩
  · exact .inl h
  · exact .inr ⟨r, f, h1, h2.from hs⟩
theorem OutN.rd {A V : AH} {o : AV} {l : List Dl} (h : OutN A V o l) : Rw V o (flat dlc l) l.length 9 := by
  rcases h with ⟨rfl, rfl⟩ | ⟨r, f, rfl, h2⟩
  · exact Rw.nil _ _
  · exact Rw.sl (flat_len dlc_l l) h2.2
theorem c79 {H : AH} {K : AV → AH → Prop} {m : M} {a : AV} (hI : InvM m) (hr : Ri H a m.ch) (x : Int) (hk : K (vi (fnd x m.ch 0)) H) :
    @AC Tryz.prog 79 [.ag (rcs m a), vi x] H ⟨K⟩ := by
  refine AC_of (.forget ?_)
  refine call_c follows cf79_ok (by simp) ?_
  have o1 := hr.one
  have o2 := hr.cells
  have l1 := fun k => hr.lenK (k := k)
  have hl := hI.len
  simp [rcs]
  refine newK_of fun p hp => ?_
  simp
  generalize hH1 : upd H p _ = H1
  have hS : Sub H H1 := hH1 ▸ (Sub.refl H).upd hp
  have hpp : H1 p = some (AO.cells [vb true, vi m.b0, vi m.b1, vb !decide (m.d0 = 0), vi m.d0, vi m.d1, vi m.owner, a]) := by rw [← hH1]; simp
  clear hH1
  refine wpc_loop (fun s => ∃ j : Nat, s.n = 21 ∧ s.H = H1 ∧ s.t 1 = vi x ∧ s.t 2 = pA p ∧ s.t 5 = vi j ∧ j ≤ m.ch.length ∧ fnd x (m.ch.drop j) j = fnd x m.ch 0)
    (fun s => m.ch.length - slotN (s.t 5)) ?_ ?_
  · exact FgK.same ⟨0, by simp⟩
  rintro s ⟨j, hn, hH, e1, e2, e5, hj, hf⟩
  by_cases hc : j < m.ch.length
  · have wr := IntWalk.i64_in ((j : Int) + 1) (by omega)
    obtain ⟨q, q1, q2⟩ := (hr.sub hS).see hc
    rw [fnd_step hc] at hf
    by_cases hd : m.ch[j] = x
    · rw [if_pos hd] at hf
      simp [hn, hH, e1, e2, e5, hpp, l1, hc, q1, q2 _ (Sub.refl _), hd]
      rw [hf]
      exact ⟨H, hS, hk⟩
    · rw [if_neg hd] at hf
      simp [hn, hH, e1, e2, e5, hpp, l1, hc, q1, q2 _ (Sub.refl _), hd, wr]
      exact FgK.same ⟨⟨j + 1, by simp [*], by simp [*], by simp [*], by simp [*], by simp [*], by omega, hf⟩, by simp [e5]; omega⟩
  · have : j = m.ch.length := by omega
    subst this
    simp [fnd] at hf
    simp [hn, hH, e1, e2, e5, hpp, l1]
    rw [hf]
    exact ⟨H, hS, hk⟩
theorem c80 {H : AH} {K : AV → AH → Prop} {m : M} {a : AV} (hI : InvM m) (hr : Ri H a m.ch) (k : Nat) (hk0 : k ≤ m.ch.length)
    (hk : ∀ V a' out, Sub H V → NwI H V a m.ch a' (cutM m k).1.ch → OutN H V out ((cutM m k).2.map pD) → K (.tp [.ag (rcs (cutM m k).1 a'), out]) V) :
    @AC Tryz.prog 80 [.ag (rcs m a), vi k] H ⟨K⟩ := by
  refine AC_of (.forget ?_)
  refine call_c follows cf80_ok (by simp) ?_
  have o1 := hr.one
  have o2 := hr.cells
  have l1 := fun k => hr.lenK (k := k)
  have hl := hI.len
  simp [rcs]
  refine newK_of fun p hp => ?_
  simp
  refine newK_of fun q hq => ?_
  obtain ⟨n1, n2, hq⟩ := upd_none'.1 hq
  have wl := IntWalk.i64_in ((m.ch.length : Int) - 1) (by omega)
  simp [n2, l1, wl]
  generalize hH1 : upd (upd H p _) q _ = H1
  have hS : Sub H H1 := hH1 ▸ ((Sub.refl H).upd hp).upd hq
  have hpp : H1 p = some (AO.cells [vb true, vi m.b0, vi m.b1, vb !decide (m.d0 = 0), vi m.d0, vi m.d1, vi m.owner, a]) := by rw [← hH1]; simp [n2]
  have hqq : ∃ cs, H1 q = some (AO.cells cs) ∧ cs.length = 8 := by rw [← hH1]; exact ⟨_, by simp; rfl, rfl⟩
  clear hH1
  obtain ⟨qs, hqq, hqs⟩ := hqq
  refine wpc_loop (fun s => ∃ (j : Nat) (out : AV) (Hs : AH), s.n = 42 ∧ s.H = Hs ∧ s.t 1 = vi k ∧ s.t 2 = pA p ∧ s.t 4 = pA q ∧ s.t 6 = out ∧ s.t 7 = vi ((j : Int) - 1) ∧ k ≤ j ∧ j ≤ m.ch.length ∧
      Row H1 Hs out (flat dlc ((m.ch.drop j).reverse.map fun x => pD (m.owner, x))) ((m.ch.drop j).reverse.map fun x => pD (m.owner, x)).length 9)
    (fun s => slotP (s.t 7)) ?_ ?_
  · refine FgK.same ⟨m.ch.length, vnil, H1, by simp, by simp, by simp, by simp, by simp, by simp, by simp, by omega, by omega, ?_⟩
    simp [flat]
    exact Row.nil _ 9
  rintro s ⟨j, out, Hs, hn, hH, e1, e2, e4, e6, e7, hkj, hj, hrow⟩
  have hsub := hrow.sub
  have hps := hsub _ _ hpp
  have hqs' := hsub _ _ hqq
  have oo := Row.one hrow
  by_cases hc : k < j
  · have hpl : j - 1 < m.ch.length := by omega
    obtain ⟨w, w1, w2⟩ := (hr.sub (hS.trans hsub)).see hpl
    have ec : ((j - 1 : Nat) : Int) = (j : Int) - 1 := by omega
    rw [ec] at w1
    have wr := IntWalk.i64_in ((j : Int) - 1 - 1) (by omega)
    have hge : (k : Int) ≤ (j : Int) - 1 := by omega
    have e8 : (m.ch.drop (j - 1)).reverse.map (fun x => pD (m.owner, x)) = (m.ch.drop j).reverse.map (fun x => pD (m.owner, x)) ++ [pD (m.owner, m.ch[j - 1])] := by
      rw [List.drop_eq_getElem_cons hpl, show j - 1 + 1 = j by omega]
      simp
    have hLl : ((m.ch.drop j).reverse.map (fun x => pD (m.owner, x))).length ≤ 8 := by simp; omega
    have hfl := flat_len dlc_l ((m.ch.drop j).reverse.map (fun x => pD (m.owner, x)))
    generalize (m.ch.drop j).reverse.map (fun x => pD (m.owner, x)) = L at *
    generalize m.ch[j - 1] = y at *
    have hy1 : (dlc (pD (m.owner, y))).length = 9 := rfl
    have hy2 : (dlc (pD (m.owner, y))).take 9 = dlc (pD (m.owner, y)) := rfl
    have hy3 : (dlc (pD (m.owner, y))).all AV.one = true := rfl
    have hy4 : [vi m.owner, vi y, vi 21, vi 0, vi 0, vi 0, vi 0, vi 0, vu 0] = dlc (pD (m.owner, y)) := rfl
    simp [hn, hH, e1, e2, e4, e6, e7, hge, hps, w1, w2 _ (Sub.refl _)]
    refine newK_of fun z hz => ?_
    rw [hy4]
    have hsz : Sub Hs (upd Hs z (.cells (dlc (pD (m.owner, y))))) := (Sub.refl Hs).upd hz
    have hzz : upd Hs z (.cells (dlc (pD (m.owner, y)))) z = some (.cells (dlc (pD (m.owner, y)))) := by simp [upd_apply]
    have hnw : ∀ k : Nat → List AV → Prop, @NEWS (upd Hs z (.cells (dlc (pD (m.owner, y))))) (AV.sl z 0 1 9 true) 9 ⟨k⟩ = k 1 (dlc (pD (m.owner, y))) := by
      intro k
      simp [hy1, hy2]
    generalize AV.sl z 0 1 9 true = x9 at *
    generalize upd Hs z (.cells (dlc (pD (m.owner, y)))) = H2 at *
    simp [hnw]
    refine hrow.app hsz (by decide) hy3 hfl (by omega) fun r H3 hr3 hs3 => ?_
    rw [flat_snoc, ← e8] at hs3
    simp [wr]
    have e8' : ((m.ch.drop (j - 1)).reverse.map (fun x => pD (m.owner, x))).length = L.length + 1 := by rw [e8]; simp
    refine FgK.of _ hs3 ⟨⟨j - 1, .sl r 0 (L.length + 1) 9 false, _, by simp, rfl, by simp, by simp, by simp, by simp, by simp [ec], by omega, by omega, ?_⟩, by simp [e7]; omega⟩
    rw [e8']
    exact Row.mk hr3
  · have : j = k := by omega
    subst this
    have hge : ¬ (j : Int) ≤ (j : Int) - 1 := by omega
    have hSs := hS.trans hsub
    have hout : OutN H1 Hs out ((cutM m j).2.map pD) := by
      have e : (cutM m j).2.map pD = (m.ch.drop j).reverse.map fun x => pD (m.owner, x) := by simp [cutM, Function.comp_def]
      rw [e]
      rcases hrow with ⟨h1, h2, h3, h4⟩ | ⟨r, h1, h2, h3⟩
      · exact .inl ⟨List.length_eq_zero_iff.1 h1, h3⟩
      · exact .inr ⟨r, false, h1, h2, by rw [h3]; simp [upd_apply]⟩
    have pp1 : H1 p ≠ none := by rw [hpp]; simp
    have qq1 : H1 q ≠ none := by rw [hqq]; simp
    have hch : (cutM m j).1.ch = m.ch.take j := rfl
    by_cases hd : j < m.ch.length
    · have hd' : (j : Int) < m.ch.length := by omega
      simp [hn, hH, e1, e2, e4, e6, e7, hge, hps, l1, hd]
      refine newK_of fun z hz => ?_
      have hsz : Sub Hs (upd Hs z (.cells [])) := (Sub.refl Hs).upd hz
      have npz : p ≠ z := ne_of_free hps hz
      have nqz : q ≠ z := ne_of_free hqs' hz
      simp [npz, hps]
      refine Rw.part (l := 0) (u := j) (hr.sub (hSs.trans hsz)) (by omega) (by omega) (fun k => by simp) (fun k => by simp) fun a2 ha2 => ?_
      have ha3 : Rw (upd Hs z (.cells [])) a2 ((m.ch.take j).map vi) j 1 := by simpa using ha2
      simp
      rw [Rw.news ha3]
      refine sl_app hz (Sub.refl _) (allvi3 _) (by simp) (by omega) fun r' H' hr' hs' => ?_
      rw [List.nil_append] at hs'
      have kp' : H' p = some (AO.cells [vb true, vi m.b0, vi m.b1, vb !decide (m.d0 = 0), vi m.d0, vi m.d1, vi m.owner, a]) := hs' _ _ (by simp [upd_apply, ne_of_free hps hr', hps])
      have kq' : H' q = some (AO.cells qs) := hs' _ _ (by simp [upd_apply, ne_of_free hqs' hr', hqs'])
      have hsH : Sub Hs H' := ((Sub.refl Hs).upd hr').trans hs'
      simp [kp', kq', n1, hqs]
      have o3 : (AV.sl r' 0 (0 + j) 1 false).one = true := rfl
      refine ⟨_, Sub.refl _, ?_⟩
      refine hk _ _ _ ((((hSs.trans hsH)).upd hp).upd hq) (.inr (.inr ⟨r', false, ?_, hSs.none_of hr', ?_⟩)) (((hout.to hsH).put pp1 _).put qq1 _ |>.from (sdm hS))
      · simp [hch]; omega
      · simp [upd_apply, Ne.symm (ne_of_free hps hr'), Ne.symm (ne_of_free hqs' hr')]
        exact hs' _ _ (by simp [upd_apply, hch])
    · have hjl : j = m.ch.length := by omega
      simp [hn, hH, e1, e2, e4, e6, e7, hge, hps, l1, hd, o1, hqs', hqs]
      refine ⟨_, Sub.refl _, ?_⟩
      refine hk _ _ _ (hSs.upd hq) (.inl ⟨rfl, by rw [hch, hjl, List.take_length]⟩) ((hout.put qq1 _).from (sdm hS))
theorem NwI.same (A V : AH) (a : AV) (l : List Int) : NwI A V a l a l := .inl ⟨rfl, rfl⟩
/-- What is kept of the rows. -/
def Kp (A V V' : AH) : Prop := ∀ r C, In A V r C → In A V' r C
theorem Kp.put {A V : AH} {b : Nat} (hb : A b ≠ none) (X : AO) : Kp A V (upd V b X) := fun r C h => h.put hb X
theorem Kp.of {A V V' : AH} (h : Sub V V') : Kp A V V' := fun r C hr => hr.to h
theorem NwI.kp {A V V' : AH} {a a' : AV} {l l' : List Int} (h : NwI A V a l a' l') (hk : Kp A V V') : NwI A V' a l a' l' := by
  rcases h with h | h | ⟨r, f, h1, h2⟩
  · exact .inl h
  · exact .inr (.inl h)
  · exact .inr (.inr ⟨r, f, h1, hk _ _ h2⟩)
theorem NwI.put {A V : AH} {a a' : AV} {l l' : List Int} (h : NwI A V a l a' l') {b : Nat} (hb : A b ≠ none) (X : AO) : NwI A (upd V b X) a l a' l' := h.kp (Kp.put hb X)
theorem NwI.to {A V V' : AH} {a a' : AV} {l l' : List Int} (h : NwI A V a l a' l') (hs : Sub V V') : NwI A V' a l a' l' := h.kp (Kp.of hs)
theorem NwI.from {A A' V : AH} {a a' : AV} {l l' : List Int} (h : NwI A V a l a' l') (hs : Dm A' A) : NwI A' V a l a' l' := by
  rcases h with h | h | ⟨r, f, h1, h2⟩
  · exact .inl h
  · exact .inr (.inl h)
  · exact .inr (.inr ⟨r, f, h1, h2.from hs⟩)
theorem NwI.rd {H A V : AH} {a a' : AV} {l l' : List Int} (h : NwI A V a l a' l') (h0 : Ri H a l) (hs : Sub H V) : Ri V a' l' := by
  rcases h with ⟨rfl, rfl⟩ | ⟨rfl, rfl⟩ | ⟨r, f, rfl, h1⟩
  · exact h0.sub hs
  · exact Rw.nil _ _
  · exact Rw.sl (by simp) h1.2
theorem NwI.one {A V : AH} {a a' : AV} {l l' : List Int} (h : NwI A V a l a' l') (h0 : a.one = true) : a'.one = true := by
  rcases h with ⟨rfl, rfl⟩ | ⟨rfl, rfl⟩ | ⟨r, f, rfl, h1⟩
  · exact h0
  · rfl
  · rfl
theorem NwI.cells {A V : AH} {a a' : AV} {l l' : List Int} (h : NwI A V a l a' l') (h0 : a.cells = some [a]) : a'.cells = some [a'] := by
  rcases h with ⟨rfl, rfl⟩ | ⟨rfl, rfl⟩ | ⟨r, f, rfl, h1⟩
  · exact h0
  · rfl
  · rfl
theorem OutN.kp {A V V' : AH} {o : AV} {l : List Dl} (h : OutN A V o l) (hk : Kp A V V') : OutN A V' o l := by
  rcases h with h | ⟨r, f, h1, h2⟩
  · exact .inl h
  · exact .inr ⟨r, f, h1, hk _ _ h2⟩
theorem OutN.one {A V : AH} {o : AV} {l : List Dl} (h : OutN A V o l) : o.one = true := by
  rcases h with ⟨rfl, rfl⟩ | ⟨r, f, rfl, h2⟩ <;> rfl
theorem OutN.cells {A V : AH} {o : AV} {l : List Dl} (h : OutN A V o l) : o.cells = some [o] := by
  rcases h with ⟨rfl, rfl⟩ | ⟨r, f, rfl, h2⟩ <;> rfl
/-- The stack's two blocks. -/
theorem two3 {H : AH} {p q : Nat} {X Y : List AV} (hp : H p = none) (hq : upd H p (.cells X) q = none) :
    Sub H (upd (upd H p (.cells X)) q (.cells Y)) ∧ upd (upd H p (.cells X)) q (.cells Y) p = some (.cells X) ∧ upd (upd H p (.cells X)) q (.cells Y) q = some (.cells Y) ∧ p ≠ q ∧ q ≠ p ∧ H q = none := by
  obtain ⟨n1, n2, hq⟩ := upd_none'.1 hq
  exact ⟨((Sub.refl H).upd hp).upd hq, by simp [n2], by simp, n2, n1, hq⟩
def CutP (K : AV → AH → Prop) (H : AH) (m : M) (a : AV) (r : M × List (Int × Int)) : Prop :=
  ∀ V a' out, Sub H V → NwI H V a m.ch a' r.1.ch → OutN H V out (r.2.map pD) → K (.tp [.ag (rcs r.1 a'), out]) V
theorem c49 {H : AH} {K : AV → AH → Prop} {m : M} {a : AV} (hI : InvM m) (hr : Ri H a m.ch) (s : Int) (hk : CutP K H m a (dismissM m s)) :
    @AC Tryz.prog 49 [.ag (rcs m a), vi s] H ⟨K⟩ := by
  refine AC_of (.forget ?_)
  refine call_c follows cf49_ok (by simp) ?_
  have o1 := hr.one
  have o2 := hr.cells
  have hl := hI.len
  simp [rcs]
  refine newK_of fun p hp => ?_
  simp
  refine newK_of fun q hq => ?_
  obtain ⟨hS, hpp, hqq, n1, n2, hqn⟩ := two3 hp hq
  simp [n1]
  generalize upd (upd H p _) q _ = H1 at *
  refine c79 hI (hr.sub hS) s ?_
  unfold dismissM at hk
  by_cases e : fnd s m.ch 0 < 0
  · rw [if_pos e] at hk
    simp [e, hpp, hqq, o1]
    exact ⟨H, hS.upd hqn, hk H a vnil (Sub.refl _) (.inl ⟨rfl, rfl⟩) (.inl ⟨rfl, rfl⟩)⟩
  · rw [if_neg e] at hk
    have e2 := fnd_range s m.ch 0
    have e3 : vi (fnd s m.ch 0) = vi ((fnd s m.ch 0).toNat : Nat) := by congr 2; omega
    simp [e, hpp]
    rw [e3]
    refine c80 hI (hr.sub hS) _ (by omega) fun V a' out hs ha ho => ?_
    have kq := hs _ _ hqq
    have a1 := ha.one o1
    have a2 := ha.cells o2
    have b1 := ho.one
    have b2 := ho.cells
    have hqq1 : H1 q ≠ none := by rw [hqq]; simp
    simp [rcs, kq, a1]
    exact ⟨_, Sub.refl _, hk _ a' out ((hS.trans hs).upd hqn) ((ha.put hqq1 _).from (sdm hS)) ((ho.put hqq1 _).from (sdm hS))⟩
theorem c50 {H : AH} {K : AV → AH → Prop} {m : M} {a : AV} (hI : InvM m) (hr : Ri H a m.ch) (c s : Int) (hk : CutP K H m a (clickM m c s)) :
    @AC Tryz.prog 50 [.ag (rcs m a), vi c, vi s] H ⟨K⟩ := by
  refine AC_of (.forget ?_)
  refine call_c follows cf50_ok (by simp) ?_
  have o1 := hr.one
  have o2 := hr.cells
  have l1 := fun k => hr.lenK (k := k)
  have hl := hI.len
  simp [rcs]
  refine newK_of fun p hp => ?_
  simp
  refine newK_of fun q hq => ?_
  obtain ⟨hS, hpp, hqq, n1, n2, hqn⟩ := two3 hp hq
  simp [n1]
  generalize upd (upd H p _) q _ = H1 at *
  have hqq1 : H1 q ≠ none := by rw [hqq]; simp
  have same := fun (h : CutP K H m a (m, [])) => h H a vnil (Sub.refl _) (.inl ⟨rfl, rfl⟩) (.inl ⟨rfl, rfl⟩)
  unfold clickM at hk
  by_cases e : m.ch = []
  · rw [if_pos e] at hk
    have e0 : m.ch.length = 0 := by rw [e]; rfl
    simp [e, l1, hpp, hqq, o1]
    exact ⟨H, hS.upd hqn, same hk⟩
  rw [if_neg e] at hk
  have e0 : ¬ m.ch.length = 0 := fun h => e (List.length_eq_zero_iff.1 h)
  have e0' : ¬ (m.ch.length : Int) = 0 := by omega
  by_cases e1 : c = m.owner
  · rw [if_neg (by simp [e1])] at hk
    simp [e0, l1, hpp, e1]
    refine c79 hI (hr.sub hS) s ?_
    by_cases e2 : fnd s m.ch 0 < 0
    · rw [if_pos e2] at hk
      simp [e2, hpp, hqq, o1]
      exact ⟨H, hS.upd hqn, same hk⟩
    · rw [if_neg e2] at hk
      have e4 := fnd_range s m.ch 0
      have e3 : AV.pl (.int .i64 (fnd s m.ch 0 + 1)) = vi ((fnd s m.ch 0 + 1).toNat : Nat) := by congr 2; omega
      have w := IntWalk.i64_in (fnd s m.ch 0 + 1) (by omega)
      simp [e2, hpp, w]
      rw [e3]
      refine c80 hI (hr.sub hS) _ (by omega) fun V a' out hs ha ho => ?_
      have kq := hs _ _ hqq
      have a1 := ha.one o1
      have a2 := ha.cells o2
      have b1 := ho.one
      have b2 := ho.cells
      simp [rcs, kq, a1]
      exact ⟨_, Sub.refl _, hk _ a' out ((hS.trans hs).upd hqn) ((ha.put hqq1 _).from (sdm hS)) ((ho.put hqq1 _).from (sdm hS))⟩
  · rw [if_pos e1] at hk
    have e1' : ¬ m.owner = c := fun h => e1 h.symm
    simp [e0, l1, hpp, e1']
    refine c80 hI (hr.sub hS) 0 (by omega) fun V a' out hs ha ho => ?_
    have kq := hs _ _ hqq
    have a1 := ha.one o1
    have a2 := ha.cells o2
    have b1 := ho.one
    have b2 := ho.cells
    simp [rcs, kq, a1]
    exact ⟨_, Sub.refl _, hk _ a' out ((hS.trans hs).upd hqn) ((ha.put hqq1 _).from (sdm hS)) ((ho.put hqq1 _).from (sdm hS))⟩
theorem c48 {H : AH} {K : AV → AH → Prop} {m : M} {a : AV} (hI : InvM m) (hr : Ri H a m.ch) (c s u : Int) (hk : ∀ V a', Sub H V → NwI H V a m.ch a' (popupM m c s u).1.ch → K (.tp [.ag (rcs (popupM m c s u).1 a'), vi (popupM m c s u).2]) V) :
    @AC Tryz.prog 48 [.ag (rcs m a), vi c, vi s, vi u] H ⟨K⟩ := by
  refine AC_of (.forget ?_)
  refine call_c follows cf48_ok (by simp) ?_
  have o1 := hr.one
  have o2 := hr.cells
  have l1 := fun k => hr.lenK (k := k)
  have hl := hI.len
  simp [rcs]
  refine newK_of fun p hp => ?_
  simp
  refine newK_of fun q hq => ?_
  obtain ⟨hS, hpp, hqq, n1, n2, hqn⟩ := two3 hp hq
  simp [n1]
  generalize upd (upd H p _) q _ = H1 at *
  have hqq1 : H1 q ≠ none := by rw [hqq]; simp
  have hpp1 : H1 p ≠ none := by rw [hpp]; simp
  have same := fun e (h : ∀ V a', Sub H V → NwI H V a m.ch a' m.ch → K (.tp [.ag (rcs m a'), vi e]) V) => h H a (Sub.refl _) (.inl ⟨rfl, rfl⟩)
  unfold popupM at hk
  by_cases e1 : c < 1
  · rw [if_pos (.inl e1)] at hk
    simp [e1, hpp, hqq, o1]
    exact ⟨H, hS.upd hqn, same _ hk⟩
  by_cases e2 : s < 1
  · rw [if_pos (.inr (.inl e2))] at hk
    simp [e1, e2, hpp, hqq, o1]
    exact ⟨H, hS.upd hqn, same _ hk⟩
  by_cases e3 : u < 1
  · rw [if_pos (.inr (.inr e3))] at hk
    simp [e1, e2, e3, hpp, hqq, o1]
    exact ⟨H, hS.upd hqn, same _ hk⟩
  rw [if_neg (by omega)] at hk
  simp [e1, e2, e3, hpp]
  refine c79 hI (hr.sub hS) s ?_
  by_cases e4 : 0 ≤ fnd s m.ch 0
  · rw [if_pos e4] at hk
    simp [e4, hpp, hqq, o1]
    exact ⟨H, hS.upd hqn, same _ hk⟩
  rw [if_neg e4] at hk
  by_cases e5 : 8 ≤ m.ch.length
  · rw [if_pos e5] at hk
    have e5' : (8 : Int) ≤ m.ch.length := by omega
    simp [e4, e5', l1, hpp, hqq, o1]
    exact ⟨H, hS.upd hqn, same _ hk⟩
  rw [if_neg e5] at hk
  have e5' : ¬ (8 : Int) ≤ m.ch.length := by omega
  by_cases e6 : m.ch = []
  case' pos =>
    have e7 : m.ch.length = 0 := by rw [e6]; rfl
    rw [if_neg (by simp [e6])] at hk
    by_cases e8 : u = s
    · rw [if_pos (.inr ⟨e6, e8⟩)] at hk
      simp [e4, e7, l1, e8, hpp, hqq, o1]
      exact ⟨H, hS.upd hqn, same _ hk⟩
    rw [if_neg (by simp [e6, e8])] at hk
    simp [e4, e7, l1, e8, hpp]
  case' neg =>
    have e6' := List.length_pos_iff.2 e6
    have e7 : (0 : Int) < m.ch.length := by omega
    have e7' : ¬ (m.ch.length : Int) = 0 := by omega
    rw [getD_last e6'] at hk
    obtain ⟨pl, h1, h2⟩ := hr.see (i := m.ch.length - 1) (by omega)
    have ec : ((m.ch.length - 1 : Nat) : Int) = (m.ch.length : Int) - 1 := by omega
    rw [ec] at h1
    have w := IntWalk.i64_in ((m.ch.length : Int) - 1) (by omega)
    by_cases e8 : m.owner = c
    case neg =>
      rw [if_pos ⟨e6, e8⟩] at hk
      simp [e4, e5', e6', l1, e8, hpp, hqq, o1]
      exact ⟨H, hS.upd hqn, same _ hk⟩
    rw [if_neg (by simp [e8])] at hk
    by_cases e9 : m.ch[m.ch.length - 1] = u
    case neg =>
      rw [if_pos (.inl ⟨e6, e9⟩)] at hk
      have hk' := same _ hk
      simp [rcs, e8] at hk'
      simp [e4, e5', e6', l1, w, h1, h2 _ hS, e8, e9, hpp, hqq, o1]
      exact ⟨H, hS.upd hqn, hk'⟩
    rw [if_neg (by simp [e6, e9])] at hk
    simp [e4, e5', e6, e6', l1, w, h1, h2 _ hS, e8, e9, hpp]
  all_goals
    refine newK_of fun z hz => ?_
    have v1 : Vw H H1 (upd H1 p (.cells [vb true, vi m.b0, vi m.b1, vb !decide (m.d0 = 0), vi m.d0, vi m.d1, vi c, a])) := (⟨hS, sdm (Sub.refl _)⟩ : Vw H H1 H1).put hp _
    have hppc : upd H1 p (.cells [vb true, vi m.b0, vi m.b1, vb !decide (m.d0 = 0), vi m.d0, vi m.d1, vi c, a]) p = some (.cells [vb true, vi m.b0, vi m.b1, vb !decide (m.d0 = 0), vi m.d0, vi m.d1, vi c, a]) := by simp
    have hqqc := hqq
    rw [← show upd H1 p (.cells [vb true, vi m.b0, vi m.b1, vb !decide (m.d0 = 0), vi m.d0, vi m.d1, vi c, a]) q = H1 q by simp [n2]] at hqqc
    generalize upd H1 p (.cells [vb true, vi m.b0, vi m.b1, vb !decide (m.d0 = 0), vi m.d0, vi m.d1, vi c, a]) = H2 at *
    have hs2 : Sub H (upd H2 z (.cells [])) := v1.sub.upd (v1.sub.none_of hz)
    have npz := ne_of_free hppc hz
    simp [npz, hppc]
    rw [Rw.news (hr.sub hs2)]
    refine sl_app hz (Sub.refl _) (allvi3 _) (by simp) (by omega) fun r1 H3 hr1 hs3 => ?_
    rw [List.nil_append] at hs3
    have kp3 := hs3 p _ (by simp only [upd_apply]; rw [if_neg (ne_of_free hppc hr1)]; exact hppc)
    simp
    refine newK_of fun d hd => ?_
    have hsd := hs3.trans ((Sub.refl H3).upd (o := .cells [vi s]) hd)
    generalize hx1 : AV.sl r1 0 m.ch.length 1 false = x1
    simp
    rw [← hx1]
    refine sl_app hr1 hsd (by simp) (by simp) (by omega) fun r2 H5 hr2 hs5 => ?_
    have kp5 := hs5 p _ (by simp only [upd_apply]; rw [if_neg (ne_of_free hppc hr2)]; exact hppc)
    have kq5 := hs5 q _ (by simp only [upd_apply]; rw [if_neg (ne_of_free hqqc hr2)]; exact hqqc)
    have nr2 : r2 ≠ p := Ne.symm (ne_of_free hppc hr2)
    have nr3 : r2 ≠ q := Ne.symm (ne_of_free hqqc hr2)
    simp [kp5, kq5, n2]
    refine ⟨_, Sub.refl _, hk _ (.sl r2 0 (m.ch.length + 1) 1 false) (((((v1.sub.upd (v1.sub.none_of hr2)).trans hs5)).upd hp).upd hqn) (.inr (.inr ⟨r2, false, by simp, ⟨v1.sub.none_of hr2, ?_⟩⟩))⟩
    simp only [upd_apply]
    rw [if_neg nr3, if_neg nr2]
    exact hs5 _ _ (by simp [upd_apply])
end Go.Proofs.YtmpncpamndhmcaaGreat
end

/-! What the calls of a pointer leave, once more: sorted buttons, how many serials were issued, the stack in its bounds. No program in sight; conditions: as each lemma states them. -/
section
namespace Go.Proofs.YtmpncpamndhmcaaGreat
open Go Go.Ab Go.RowKit

def WithQ (l : List Int) (c : Int) (out : List Int) : Prop := ∃ a b, l = a ++ b ∧ out = a ++ c :: b ∧ (∀ x ∈ a, x ≤ c) ∧ ∀ y ∈ b, c ≤ y
theorem withQ_sort {p out : List Int} {c : Int} (h : WithQ (sortI p) c out) : out = sortI (p ++ [c]) := by
  obtain ⟨a, b, h1, rfl, h3, h4⟩ := h
  have hs := sortI_pw p
  have hp : (a ++ b).Perm p := h1 ▸ List.mergeSort_perm p _
  rw [h1] at hs
  obtain ⟨s1, s2, s3⟩ := List.pairwise_append.1 hs
  refine sorted_eq _ _ ?_ (sortI_pw _) ?_
  · refine List.pairwise_append.2 ⟨s1, List.pairwise_cons.2 ⟨h4, s2⟩, fun x hx y hy => ?_⟩
    rcases List.mem_cons.1 hy with rfl | hy
    · exact h3 x hx
    · exact s3 x hx y hy
  · have h5 : (a ++ c :: b).Perm (c :: (a ++ b)) := List.perm_middle
    have h6 : (c :: (a ++ b)).Perm (p ++ [c]) := (hp.cons c).trans (List.perm_append_singleton c p).symm
    exact (h5.trans h6).trans (List.mergeSort_perm _ _).symm
theorem without_sort {p : List Int} (hn : p.Nodup) (c : Int) : (sortI p).filter (fun x => x != c) = sortI (p.erase c) := by
  refine sorted_eq _ _ ((sortI_pw p).filter _) (sortI_pw _) ?_
  rw [List.Nodup.erase_eq_filter hn]
  exact ((List.mergeSort_perm p _).filter _).trans (List.mergeSort_perm _ _).symm
theorem sortI_nil {p : List Int} : sortI p = [] ↔ p = [] := by
  rw [← List.length_eq_zero_iff, sortI_len, List.length_eq_zero_iff]
theorem sortI_mem {p : List Int} {x : Int} : x ∈ sortI p ↔ x ∈ p := (List.mergeSort_perm p _).mem_iff
/-! ### Serials -/
theorem next_la {n : Int} (h : 0 ≤ n ∧ n ≤ 1000000) : nextS n = n + 1 := by
  unfold nextS
  rw [IntWalk.u32_in (n + 1) (by omega), if_neg (by omega)]
theorem iss_la {l : Lg} (h : 0 ≤ l.la ∧ l.la ≤ 1000000) (c s k : Int) : (issL l c s k).la = if badI c s k = true then l.la else l.la + 1 := by
  unfold issL
  split
  · rfl
  · exact next_la h
theorem iss_n {l : Lg} (h : 0 ≤ l.la ∧ l.la ≤ 1000000) (c s k : Int) : issN l c s k = if badI c s k = true then 0 else l.la + 1 := by
  unfold issN
  split
  · rfl
  · exact next_la h
def LaB (a b : Lg) (n : Int) : Prop := a.la ≤ b.la ∧ b.la ≤ a.la + n
theorem iss_lab {l : Lg} (h : 0 ≤ l.la ∧ l.la ≤ 1000000) (c s k : Int) : LaB l (issL l c s k) 1 := by
  unfold LaB
  rw [iss_la h]
  split <;> omega
theorem upd_lab {m : PS} {L : List It} {x y : Int} (h : 0 ≤ m.lg.la ∧ m.lg.la ≤ 200000) : LaB m.lg (updM m L x y).1.lg 2 := by
  have h1 := @iss_lab m.lg ⟨h.1, by omega⟩ m.fc m.fs 2
  unfold updM
  split
  · exact ⟨Int.le_refl _, by show m.lg.la ≤ _; omega⟩
  simp only
  split
  · exact ⟨Int.le_refl _, by show m.lg.la ≤ _; omega⟩
  simp only
  have key : ∀ l1 : Lg, LaB m.lg l1 1 → ∀ (p : Prop) [Decidable p] c s k, LaB m.lg (if p then issL l1 c s k else l1) 2 := by
    intro l1 hl p _ c s k
    have h2 := @iss_lab l1 ⟨by unfold LaB at hl; omega, by unfold LaB at hl; omega⟩ c s k
    unfold LaB at *
    split <;> omega
  refine key _ ?_ _ _ _ _
  split
  · exact h1
  · exact ⟨by simp, by omega⟩
theorem ref_lab {m : PS} {L : List It} (h : 0 ≤ m.lg.la ∧ m.lg.la ≤ 200000) : LaB m.lg (refM m L).1.lg 2 := upd_lab h
theorem send_lab {m : PS} {l : List Dl} {d : Dl} (h : 0 ≤ m.lg.la ∧ m.lg.la ≤ 100002) : LaB m.lg (sendM m l d).1.lg 1 := by
  have h1 := @iss_lab m.lg ⟨h.1, by omega⟩ m.fc m.fs 4
  unfold sendM
  repeat' split
  all_goals first
    | exact h1
    | exact ⟨Int.le_refl _, by show m.lg.la ≤ _; omega⟩
theorem endH_lg (m : PS) : (endH m).lg = m.lg := by unfold endH; split <;> rfl
theorem grbM_lg (m : PS) : (grbM m).lg = m.lg := by unfold grbM; split <;> rfl
theorem tickM_lg (m : PS) (e : Ev) : (tickM m e).lg = m.lg := by unfold tickM; split <;> rfl
theorem mot_lab {m : PS} {L : List It} {e : Ev} (h : 0 ≤ m.lg.la ∧ m.lg.la ≤ 100000) : LaB m.lg (motM m L e).1.lg 3 := by
  have h1 := @ref_lab { m with x := e.x, y := e.y } L ⟨h.1, by show m.lg.la ≤ _; omega⟩
  unfold motM
  simp only at h1 ⊢
  generalize refM { m with x := e.x, y := e.y } L = r at *
  split
  · rename_i i hi
    have h2 := @send_lab r.1 r.2 ⟨0, 0, 3, 0, sub64 r.1.x i.x, sub64 r.1.y i.y, 0, 0, 0⟩ ⟨by unfold LaB at h1; omega, by unfold LaB at h1; omega⟩
    unfold LaB at *
    omega
  · unfold LaB at *; omega
theorem pre_lab {m : PS} {e : Ev} (h : 0 ≤ m.lg.la ∧ m.lg.la ≤ 100000) : LaB m.lg (preM m e).1.lg 3 := by
  unfold preM
  simp only
  have key : ∀ M : PS, M.lg = m.lg → LaB m.lg (sendM M [] ⟨0, 0, 4, 0, 0, 0, e.co, e.va, 0⟩).1.lg 3 := by
    intro M hM
    have h2 := @send_lab M [] ⟨0, 0, 4, 0, 0, 0, e.co, e.va, 0⟩ (by rw [hM]; omega)
    rw [hM] at h2
    unfold LaB at *; omega
  refine key _ ?_
  simp only
  split
  · exact grbM_lg _
  · rfl
theorem rel_lab {m : PS} {L : List It} {e : Ev} (h : 0 ≤ m.lg.la ∧ m.lg.la ≤ 100000) : LaB m.lg (relM m L e).1.lg 3 := by
  unfold relM
  simp only
  have h1 := @send_lab (delP m e.co) [] ⟨0, 0, 4, 0, 0, 0, e.co, e.va, 0⟩ ⟨h.1, by show m.lg.la ≤ _; omega⟩
  have h1 : LaB m.lg (sendM (delP m e.co) [] ⟨0, 0, 4, 0, 0, 0, e.co, e.va, 0⟩).1.lg 1 := h1
  have hm : (delP m e.co).lg = m.lg := rfl
  generalize sendM (delP m e.co) [] ⟨0, 0, 4, 0, 0, 0, e.co, e.va, 0⟩ = s at *
  split
  · unfold LaB at *; omega
  · have e1 := endH_lg s.1
    have h2 := @ref_lab { endH s.1 with fl := false } L (by simp only; rw [e1]; unfold LaB at h1; omega)
    have h2 : LaB (endH s.1).lg (refM { endH s.1 with fl := false } L).1.lg 2 := h2
    rw [e1] at h2
    simp only
    generalize (refM { endH s.1 with fl := false } L).1.lg = q at *
    unfold LaB at *; omega
theorem call_lab {m : PS} {L : List It} {o : Op} (h : 0 ≤ m.lg.la ∧ m.lg.la ≤ 100000) : LaB m.lg (callM m L o).1.lg 3 := by
  have z : LaB m.lg m.lg 3 := ⟨by simp, by omega⟩
  have hg : (goneM m o.sf).lg = m.lg := by
    unfold goneM
    simp only
    repeat' split
    all_goals first | rfl | exact endH_lg m
  have hf : LaB m.lg (feedM m L o.e).1.lg 3 := by
    unfold feedM
    split
    · exact z
    · have ht := tickM_lg m o.e
      simp only
      generalize tickM m o.e = M at *
      rw [← ht] at h ⊢
      split
      · exact mot_lab h
      · split
        · split
          · exact pre_lab h
          · exact rel_lab h
        · have := @send_lab M [] ⟨0, 0, 5, 0, 0, 0, o.e.co, o.e.va, 0⟩ ⟨h.1, by omega⟩
          unfold LaB at *; omega
  unfold callM
  repeat' split
  all_goals first
    | exact hf
    | exact z
    | (rw [hg]; exact z)
/-! ### Buttons -/
theorem chk_press {m : PS} {e : Ev} (h0 : chkM m e = 0) (hk : e.kd = 2) (hv : e.va = 1) : ¬ e.co ∈ m.pr := by
  intro hm
  unfold chkM at h0
  rw [if_neg (by omega), if_neg (by omega), if_pos ⟨hk, by simp [hv, hm]⟩] at h0
  omega
theorem call_nd {m : PS} (L : List It) (o : Op) (h : m.pr.Nodup) : (callM m L o).1.pr.Nodup := by
  rw [call_pr]
  unfold nprF
  split
  · rename_i hc
    split
    · rename_i hv
      have := chk_press hc.2.1 hc.2.2 hv
      exact List.nodup_append.2 ⟨h, by simp, fun a ha b hb e => by rw [List.mem_singleton] at hb; subst hb; subst e; exact this ha⟩
    · exact h.erase _
  · exact h
/-! ### The stack -/
theorem upd_g3 (m : PS) (L : List It) (x y : Int) : (updM m L x y).1.g = m.g := by
  unfold updM
  split
  · rfl
  · simp only
    split <;> rfl
theorem ref_g3 (m : PS) (L : List It) : (refM m L).1.g = m.g := upd_g3 m _ _ _
theorem send_g3 (m : PS) (l : List Dl) (d : Dl) : (sendM m l d).1.g = m.g := by
  unfold sendM
  repeat' split
  all_goals rfl
theorem endH_g3 {m : PS} (h : InvM m.g) : InvM (endH m).g := by
  unfold endH
  split
  · exact h.rel
  · exact h
theorem grb_g3 {m : PS} (h : InvM m.g) : InvM (grbM m).g := by
  unfold grbM
  split
  · exact h.impl _ _
  · exact h
theorem mot_g3 (m : PS) (L : List It) (e : Ev) : (motM m L e).1.g = m.g := by
  have h1 := ref_g3 { m with x := e.x, y := e.y } L
  unfold motM
  simp only at h1 ⊢
  split
  · rw [send_g3]; exact h1
  · exact h1
theorem pre_g3 {m : PS} (h : InvM m.g) (e : Ev) : InvM (preM m e).1.g := by
  unfold preM
  simp only
  rw [send_g3]
  simp only
  split
  · exact grb_g3 (m := { m with fl := true }) h
  · exact h
theorem rel_g3 {m : PS} (h : InvM m.g) (L : List It) (e : Ev) : InvM (relM m L e).1.g := by
  unfold relM
  simp only
  have h1 : (sendM (delP m e.co) [] ⟨0, 0, 4, 0, 0, 0, e.co, e.va, 0⟩).1.g = m.g := send_g3 _ _ _
  generalize sendM (delP m e.co) [] ⟨0, 0, 4, 0, 0, 0, e.co, e.va, 0⟩ = s at *
  split
  · rw [h1]; exact h
  · rw [ref_g3]
    exact endH_g3 (by rw [h1]; exact h)
theorem tick_g3 (m : PS) (e : Ev) : (tickM m e).g = m.g := by unfold tickM; split <;> rfl
theorem call_invM {m : PS} (L : List It) (o : Op) (h : InvM m.g) : InvM (callM m L o).1.g := by
  have hg : InvM (goneM m o.sf).g := by
    unfold goneM
    simp only
    repeat' split
    all_goals first | exact h | exact endH_g3 h
  have hf : InvM (feedM m L o.e).1.g := by
    unfold feedM
    split
    · exact h
    · have ht := tick_g3 m o.e
      simp only
      generalize tickM m o.e = M at *
      rw [← ht] at h
      split
      · rw [mot_g3]; exact h
      · split
        · split
          · exact pre_g3 h _
          · exact rel_g3 h _ _
        · rw [send_g3]; exact h
  unfold callM
  repeat' split
  all_goals first
    | exact hf
    | exact h.popup _ _ _
    | exact h.dismiss _
    | exact h.click _ _
    | exact h.drag _ _
    | exact h.done
    | exact hg
    | exact h
end Go.Proofs.YtmpncpamndhmcaaGreat
end

/-! The specification's log of serials, walked; and rows that are new to what was held. Conditions: as each lemma states them. -/
section
namespace Go.Proofs.YtmpncpamndhmcaaGreat
open Go Go.Ab Go.RowKit

attribute [local simp] rc_len rc_t4 rc_t1 rc_t2 rc_t3 rc_d1 rc_d2 rc_d3 rc_d4 rc_ag rc_one rc_eq

structure Sl where
  at_ : Int
  n : Int
  c : Int
  s : Int
  k : Int
def slc (x : Sl) : List AV := [vi x.at_, vu x.n, vi x.c, vi x.s, vi x.k]
theorem slc_l (x : Sl) : (slc x).length = 5 := rfl
def LogR (H : AH) (v : AV) (lg : Lg) : Prop := ∃ (aS : AV) (L : List Sl), v = .ag [vi lg.la, aS] ∧ Rw H aS (flat slc L) L.length 5 ∧ (L.length : Int) ≤ lg.la
def NwL (A V : AH) (v : AV) (lg : Lg) (v' : AV) (lg' : Lg) : Prop := (v' = v ∧ lg'.la = lg.la) ∨ ∃ (r : Nat) (f : Bool) (L' : List Sl), v' = .ag [vi lg'.la, .sl r 0 L'.length 5 f] ∧ In A V r (flat slc L') ∧ (L'.length : Int) ≤ lg'.la
theorem LogR.sub {H H' : AH} {v : AV} {lg : Lg} (h : LogR H v lg) (hs : Sub H H') : LogR H' v lg := by
  obtain ⟨aS, L, h1, h2, h3⟩ := h
  exact ⟨aS, L, h1, h2.sub hs, h3⟩
theorem LogR.pos {H : AH} {v : AV} {lg : Lg} (h : LogR H v lg) : 0 ≤ lg.la := by
  obtain ⟨aS, L, h1, h2, h3⟩ := h
  omega
theorem NwL.rd {H A V : AH} {v v' : AV} {lg lg' : Lg} (h : NwL A V v lg v' lg') (h0 : LogR H v lg) (hs : Sub H V) : LogR V v' lg' := by
  rcases h with ⟨rfl, e⟩ | ⟨r, f, L', rfl, h1, h2⟩
  · obtain ⟨aS, L, h1, h2, h3⟩ := h0
    exact ⟨aS, L, by rw [e]; exact h1, h2.sub hs, by rw [e]; exact h3⟩
  · exact ⟨_, L', rfl, Rw.sl (flat_len slc_l L') h1.2, h2⟩
theorem NwL.put {A V : AH} {v v' : AV} {lg lg' : Lg} (h : NwL A V v lg v' lg') {b : Nat} (hb : A b ≠ none) (X : AO) : NwL A (upd V b X) v lg v' lg' := by
  rcases h with h | ⟨r, f, L', h1, h2, h3⟩
  · exact .inl h
  · exact .inr ⟨r, f, L', h1, h2.put hb X, h3⟩
theorem NwL.to {A V V' : AH} {v v' : AV} {lg lg' : Lg} (h : NwL A V v lg v' lg') (hs : Sub V V') : NwL A V' v lg v' lg' := by
  rcases h with h | ⟨r, f, L', h1, h2, h3⟩
  · exact .inl h
  · exact .inr ⟨r, f, L', h1, h2.to hs, h3⟩
theorem NwL.kp {A V V' : AH} {v v' : AV} {lg lg' : Lg} (h : NwL A V v lg v' lg') (hk : Kp A V V') : NwL A V' v lg v' lg' := by
  rcases h with h | ⟨r, f, L', h1, h2, h3⟩
  · exact .inl h
  · exact .inr ⟨r, f, L', h1, hk _ _ h2, h3⟩
theorem NwL.new {A V : AH} {v v' : AV} {lg lg' : Lg} (h : NwL A V v lg v' lg') {b : Nat} (hb : V b = none) (X : AO) : NwL A (upd V b X) v lg v' lg' := h.to ((Sub.refl V).upd hb)
theorem NwL.from {A A' V : AH} {v v' : AV} {lg lg' : Lg} (h : NwL A V v lg v' lg') (hs : Dm A' A) : NwL A' V v lg v' lg' := by
  rcases h with h | ⟨r, f, L', h1, h2, h3⟩
  · exact .inl h
  · exact .inr ⟨r, f, L', h1, h2.from hs, h3⟩
/-- One more step. -/
theorem NwL.step {A V V2 : AH} {v v1 v2 : AV} {lg lg1 lg2 : Lg} (h : NwL A V v lg v1 lg1) (h2 : NwL V V2 v1 lg1 v2 lg2) (hd : Dm A V) (hs : ∀ r C, In A V r C → V2 r = some (.cells C)) : NwL A V2 v lg v2 lg2 := by
  rcases h2 with ⟨rfl, e⟩ | h2
  · rcases h with ⟨rfl, e1⟩ | ⟨r, f, L', h1, h2, h3⟩
    · exact .inl ⟨rfl, e.trans e1⟩
    · exact .inr ⟨r, f, L', by rw [e]; exact h1, ⟨h2.1, hs _ _ h2⟩, by rw [e]; exact h3⟩
  · exact NwL.from (.inr h2) hd
/-- The blocks of a log and of a row. -/
def logB : AV → Option Nat
  | .ag [_, .sl b _ _ _ _] => some b
  | _ => none
def rowB : AV → Option Nat
  | .sl b _ _ _ _ => some b
  | _ => none
def Ap (v o : AV) : Prop := ∀ r, rowB o = some r → logB v ≠ some r
theorem Ap.nil (v : AV) : Ap v vnil := fun r h => by cases h
theorem LogR.bl {H : AH} {v : AV} {lg : Lg} (h : LogR H v lg) {r : Nat} (hr : logB v = some r) : H r ≠ none := by
  obtain ⟨aS, L, rfl, ⟨_, ⟨f, rfl⟩ | ⟨_, rfl⟩ | ⟨b, o, f, C, rfl, h4, _⟩⟩, _⟩ := h
  · cases hr
  · cases hr
  · cases hr; rw [h4]; simp
theorem c142 {n : Int} (h : 1 ≤ n ∧ n ≤ 2000000) : PC Tryz.prog 142 [vi n] (vu n) := by
  refine .tell fun H => ?_
  refine call_c follows cf142_ok (by simp) ?_
  have e1 := IntWalk.i64_in (n - 1) (by omega)
  have e2 : (n - 1).tmod 4294967295 = n - 1 := Int.tmod_eq_of_lt (by omega) (by omega)
  have e3 := IntWalk.i64_in n (by omega)
  have e4 := IntWalk.u32_in n (by omega)
  simp [e1, e2, e3, e4]
  exact Sub.refl _
theorem c22 {H : AH} {K : AV → AH → Prop} (hk : K (.ag [vi 0, vnil]) H) : @AC Tryz.prog 22 [] H ⟨K⟩ := by
  refine AC_of (.forget ?_)
  refine call_c follows cf22_ok (by simp) ?_
  simp
  refine newK_of fun b hb => ?_
  simp
  exact ⟨H, (Sub.refl H).upd hb, hk⟩
set_option maxHeartbeats 1000000 in
theorem c133 {H : AH} {K : AV → AH → Prop} {v : AV} {lg : Lg} (hv : LogR H v lg) (hla : lg.la ≤ 1000000) (c s k : Int)
    (hk : ∀ V v', Sub H V → NwL H V v lg v' (issL lg c s k) → K (.tp [v', vu (issN lg c s k)]) V) : @AC Tryz.prog 133 [v, vi c, vi s, vi k] H ⟨K⟩ := by
  have h0 := hv.pos
  obtain ⟨aS, L, rfl, hr, hLl⟩ := hv
  have hla2 := iss_la (l := lg) ⟨h0, hla⟩ c s k
  have hln := iss_n (l := lg) ⟨h0, hla⟩ c s k
  have o1 := Rw.one hr
  have o2 := Rw.cells hr
  have l1 := fun k => Rw.lenK hr (k := k)
  refine AC_of (.forget ?_)
  refine call_c follows cf133_ok (by simp) ?_
  simp
  refine newK_of fun p hp => ?_
  simp
  refine newK_of fun q hq => ?_
  obtain ⟨n1, n2, hq⟩ := upd_none'.1 hq
  have hS : Sub H (upd (upd H p (.cells [vi lg.la, aS])) q (.cells [vi 0, vnil])) := ((Sub.refl H).upd hp).upd hq
  have hpp : upd (upd H p (.cells [vi lg.la, aS])) q (.cells [vi 0, vnil]) p = some (.cells [vi lg.la, aS]) := by simp [n2]
  have hqq : upd (upd H p (.cells [vi lg.la, aS])) q (.cells [vi 0, vnil]) q = some (.cells [vi 0, vnil]) := by simp
  have hSq : ∀ V X, Sub H V → Sub H (upd V q X) := fun V X h => h.upd hq
  generalize upd (upd H p (.cells [vi lg.la, aS])) q (.cells [vi 0, vnil]) = H1 at *
  by_cases hb : badI c s k = true
  · rw [if_pos hb] at hla2 hln
    rw [hln] at hk
    have fin := hk H (.ag [vi lg.la, aS]) (Sub.refl _) (.inl ⟨rfl, hla2⟩)
    unfold badI at hb
    by_cases e1 : c < 1
    · simp [e1, hpp, hqq, o1]
      exact ⟨H, hSq _ _ hS, fin⟩
    by_cases e2 : s < 0
    · simp [e1, e2, hpp, hqq, o1]
      exact ⟨H, hSq _ _ hS, fin⟩
    by_cases e3 : k < 0
    · simp [e1, e2, e3, hpp, hqq, o1]
      exact ⟨H, hSq _ _ hS, fin⟩
    by_cases e4 : 62 < k
    · simp [e1, e2, e3, e4, hpp, hqq, o1]
      exact ⟨H, hSq _ _ hS, fin⟩
    simp [e1, e2, e3, e4] at hb
  · rw [if_neg hb] at hla2 hln
    rw [hln] at hk
    unfold badI at hb
    simp only [Bool.or_eq_true, decide_eq_true_eq, not_or] at hb
    obtain ⟨e1, e2, e3, e4⟩ := hb
    have wr := IntWalk.i64_in (lg.la + 1) (by omega)
    simp [e1, e2, e3, e4, hpp, wr]
    refine newK_of fun z hz => ?_
    have hHz := hS.none_of hz
    have nzp : p ≠ z := ne_of_free hpp hz
    have nzq : q ≠ z := ne_of_free hqq hz
    simp
    refine wpc_loop (fun t => ∃ (i : Nat) (o : AV) (L' : List Sl) (Hs : AH), t.n = 77 ∧ t.H = Hs ∧ t.t 1 = vi c ∧ t.t 2 = vi s ∧ t.t 3 = vi k ∧ t.t 4 = pA p ∧ t.t 8 = pA q ∧ t.t 10 = pA z ∧ t.t 11 = vi i ∧ i ≤ L.length ∧ L'.length ≤ i ∧ Row (upd H1 z (.cells [vi (lg.la + 1), o])) Hs o (flat slc L') L'.length 5)
      (fun t => L.length - slotN (t.t 11)) ?_ ?_
    · refine FgK.same ⟨0, vnil, [], _, by simp, rfl, by simp, by simp, by simp, by simp, by simp, by simp, by simp, by omega, by simp, ?_⟩
      simp
      exact Row.nil _ 5
    rintro t ⟨i, o, L', Hs, hn, hH, t1, t2, t3, t4, t8, t10, t11, hi, hL', hrow⟩
    have hsub := hrow.sub
    have kz : Hs z = some (.cells [vi (lg.la + 1), o]) := hsub _ _ (by simp [upd_apply])
    have kp : Hs p = some (.cells [vi lg.la, aS]) := hsub _ _ (by simp [upd_apply, nzp, hpp])
    have kq : Hs q = some (.cells [vi 0, vnil]) := hsub _ _ (by simp [upd_apply, nzq, hqq])
    have hHs : Sub H Hs := ((hS.upd hHz)).trans hsub
    have oo := Row.one hrow
    have hfl := flat_len slc_l L'
    by_cases hlt : i < L.length
    · have wi := IntWalk.i64_in ((i : Int) + 1) (by omega)
      have ws := IntWalk.i64_in (lg.la + 1 - 256) (by omega)
      obtain ⟨w, w1, w2, wf⟩ := fat slc_l (hr.sub hHs) hlt
      obtain ⟨w3, w4, w5⟩ := wf 0 (vi L[i].at_) rfl
      generalize L[i] = y at *
      have hy1 : (slc y).length = 5 := rfl
      have hy2 : (slc y).take 5 = slc y := rfl
      have hy3 : (slc y).all AV.one = true := rfl
      by_cases hc : lg.la + 1 - 256 < y.at_
      · simp [hn, hH, t1, t2, t3, t4, t8, t10, t11, hlt, kz, kp, l1, w1, w2 _ (Sub.refl _), w4, w5 _ (Sub.refl _), ws, hc, hy1]
        refine newK_of fun b hb => ?_
        have hsb : Sub Hs (upd Hs b (.cells (slc y))) := (Sub.refl Hs).upd hb
        have hnw : ∀ k : Nat → List AV → Prop, @NEWS (upd Hs b (.cells (slc y))) (AV.sl b 0 1 5 true) 5 ⟨k⟩ = k 1 (slc y) := by
          intro k
          simp [hy1, hy2]
        have nbz : z ≠ b := ne_of_free kz hb
        generalize AV.sl b 0 1 5 true = x9 at *
        generalize upd Hs b (.cells (slc y)) = H2 at *
        have kz2 := hsb _ _ kz
        simp [hnw, kz2]
        refine hrow.app hsb (by decide) hy3 hfl (by omega) fun r H3 hr3 hs3 => ?_
        rw [flat_snoc] at hs3
        obtain ⟨u1, u2, u3, u4, u5, u6⟩ := sub_turn hr3 hs3 (.cells [vi (lg.la + 1), .sl r 0 (L'.length + 1) 5 false])
        simp [u1, wi]
        have hal : (L' ++ [y]).length = L'.length + 1 := by simp
        refine FgK.of _ u3 ⟨⟨i + 1, .sl r 0 (L'.length + 1) 5 false, L' ++ [y], _, by simp, rfl, by simp, by simp, by simp, by simp, by simp, by simp, by simp, by omega, by rw [hal]; omega, ?_⟩, by simp [t11]; omega⟩
        rw [hal]
        exact Row.mk u2
      · simp [hn, hH, t1, t2, t3, t4, t8, t10, t11, hlt, kz, kp, l1, w1, w4, w5 _ (Sub.refl _), ws, hc, wi]
        exact FgK.same ⟨⟨i + 1, o, L', Hs, by simp, by simp, by simp, by simp, by simp, by simp, by simp, by simp, by simp, by omega, by omega, hrow⟩, by simp [t11]; omega⟩
    · simp [hn, hH, t1, t2, t3, t4, t8, t10, t11, hlt, kz, kp, l1]
      refine (c142 (n := lg.la + 1) (by omega)).ac ?_
      obtain ⟨y, hy⟩ : ∃ y : Sl, y = ⟨lg.la + 1, lg.la + 1, c, s, k⟩ := ⟨_, rfl⟩
      have hy0 : [vi (lg.la + 1), vu (lg.la + 1), vi c, vi s, vi k] = slc y := by rw [hy]; rfl
      have hy1 : (slc y).length = 5 := rfl
      have hy2 : (slc y).take 5 = slc y := rfl
      have hy3 : (slc y).all AV.one = true := rfl
      simp [kz]
      rw [hy0]
      refine newK_of fun b hb => ?_
      have hsb : Sub Hs (upd Hs b (.cells (slc y))) := (Sub.refl Hs).upd hb
      have hnw : ∀ k : Nat → List AV → Prop, @NEWS (upd Hs b (.cells (slc y))) (AV.sl b 0 1 5 true) 5 ⟨k⟩ = k 1 (slc y) := by
        intro k
        simp [hy1, hy2]
      generalize AV.sl b 0 1 5 true = x9 at *
      generalize upd Hs b (.cells (slc y)) = H2 at *
      have kz2 := hsb _ _ kz
      simp [hnw]
      refine hrow.app hsb (by decide) hy3 hfl (by omega) fun r H3 hr3 hs3 => ?_
      rw [flat_snoc] at hs3
      obtain ⟨u1, u2, u3, u4, u5, u6⟩ := sub_turn hr3 hs3 (.cells [vi (lg.la + 1), .sl r 0 (L'.length + 1) 5 false])
      have nqr : q ≠ r := ne_of_free hqq u4
      have kq3 : H3 q = some (.cells [vi 0, vnil]) := hs3 _ _ (by simp [upd_apply, nzq, nqr, hqq])
      have hrH := hS.none_of u4
      have hal : (L' ++ [y]).length = L'.length + 1 := by simp
      simp [u1, kq3, nzq]
      refine ⟨upd H r (.cells (flat slc (L' ++ [y]))), ?_, ?_⟩
      · refine Sub.upd (Sub.trans ?_ u3) (by simp [upd_apply, nqr, hq])
        exact Sub.cong (hS.upd hHz)
      · have := hk (upd H r (.cells (flat slc (L' ++ [y])))) (.ag [vi (lg.la + 1), .sl r 0 (L'.length + 1) 5 false]) ((Sub.refl H).upd hrH) (.inr ⟨r, false, L' ++ [y], by rw [hla2, hal], ⟨hrH, by simp [upd_apply]⟩, by rw [hla2, hal]; omega⟩)
        exact this
end Go.Proofs.YtmpncpamndhmcaaGreat
end

/-! The specification's focus, walked. Conditions: as each lemma states them. -/
section
namespace Go.Proofs.YtmpncpamndhmcaaGreat
open Go Go.Ab Go.RowKit

attribute [local simp] rc_len rc_t4 rc_t1 rc_t2 rc_t3 rc_d1 rc_d2 rc_d3 rc_d4 rc_ag rc_one rc_eq

theorem at_rng2 (L : List It) (x y : Int) : ∀ n, n ≤ L.length → atG L x y n < 0 ∨ ∃ k, k < n ∧ atG L x y n = k
  | 0, _ => .inl (by unfold atG; decide)
  | n + 1, h => by
    have hlt : n < L.length := by omega
    cases hc : accF L[n] x y with
    | true => exact .inr ⟨n, by omega, atG_hit hlt hc⟩
    | false =>
      rw [atG_miss hlt hc]
      rcases at_rng2 L x y n (by omega) with h | ⟨k, h1, h2⟩
      · exact .inl h
      · exact .inr ⟨k, by omega, h2⟩
theorem tgt_neg3 {L : List It} {x y : Int} (h : atF L x y < 0) : tgtF L x y = (0, 0) := by
  unfold tgtF
  split
  · rw [if_pos h]
  · rfl
theorem tgt_at3 {L : List It} {x y : Int} {n : Nat} (hn : n < L.length) (h : atF L x y = n) : tgtF L x y = (L[n].sf, L[n].cl) ∧ orgF L x y = (L[n].x, L[n].y) := by
  have e : L[(atF L x y).toNat]? = some L[n] := by rw [h, Int.toNat_natCast, List.getElem?_eq_getElem hn]
  unfold tgtF orgF
  rw [e]
  simp only
  rw [if_neg (by omega)]
  simp
theorem c131 {H : AH} {K : AV → AH → Prop} {a : AV} {L : List It} {x y : Int} (ha : ItsR H a L) (hL : LiS L) (hk : K (.tp [vi (tgtF L x y).1, vi (tgtF L x y).2]) H) :
    @AC Tryz.prog 131 [a, vi x, vi y] H ⟨K⟩ := by
  have ca := Rw.cells ha.1
  have oa := Rw.one ha.1
  refine AC_of (.forget ?_)
  refine call_c follows cf131_ok (by simp) ?_
  simp
  refine c19 ha hL ?_
  rcases at_rng2 L x y L.length (Nat.le_refl _) with hat | ⟨n, hn', hat⟩
  · have hat' : atF L x y < 0 := hat
    rw [tgt_neg3 hat'] at hk
    simp [hat']
    exact ⟨H, Sub.refl _, hk⟩
  · have hat' : atF L x y = n := hat
    obtain ⟨r, r1, _, rf⟩ := fat itc_l ha.1 hn'
    obtain ⟨r2, r3, r4⟩ := rf 0 (vi L[n].sf) rfl
    obtain ⟨r5, r6, r7⟩ := rf 1 (vi L[n].cl) rfl
    have hnn : ¬ ((n : Nat) : Int) < 0 := by omega
    rw [(tgt_at3 hn' hat').1] at hk
    rw [hat']
    generalize L[n] = it at *
    simp [hnn, r1, r3, r4 _ (Sub.refl _), r6, r7 _ (Sub.refl _)]
    exact ⟨H, Sub.refl _, hk⟩
theorem c46 {H : AH} {K : AV → AH → Prop} (hk : K (.ag [vi 0, vi 0, vb false]) H) : @AC Tryz.prog 46 [] H ⟨K⟩ := by
  refine AC_of (.forget ?_)
  refine call_c follows cf46_ok (by simp) ?_
  simp
  refine newK_of fun b hb => ?_
  simp
  exact ⟨H, (Sub.refl H).upd hb, hk⟩
theorem c113 {H : AH} {K : AV → AH → Prop} (f c : Int) (b on : Bool) (hk : K (.ag [vi f, vi c, vb on]) H) : @AC Tryz.prog 113 [.ag [vi f, vi c, vb b], vb on] H ⟨K⟩ := by
  refine AC_of (.forget ?_)
  refine call_c follows cf113_ok (by simp) ?_
  simp
  refine newK_of fun p hp => ?_
  simp
  refine newK_of fun q hq => ?_
  obtain ⟨n2, n1, hqn⟩ := upd_none'.1 hq
  simp [n1, n2]
  exact ⟨H, by repeat' (first | exact Sub.refl _ | refine Sub.upd ?_ hp | refine Sub.upd ?_ hqn), hk⟩
theorem c82 {H : AH} {K : AV → AH → Prop} (f c : Int) (b : Bool) (s : Int) (hk : K (.tp [.ag (if f = s then [vi 0, vi 0, vb b] else [vi f, vi c, vb b]), vnil]) H) : @AC Tryz.prog 82 [.ag [vi f, vi c, vb b], vi s] H ⟨K⟩ := by
  refine AC_of (.forget ?_)
  refine call_c follows cf82_ok (by simp) ?_
  simp
  refine newK_of fun p hp => ?_
  simp
  refine newK_of fun q hq => ?_
  obtain ⟨n2, n1, hqn⟩ := upd_none'.1 hq
  by_cases e : f = s
  · rw [if_pos e] at hk
    simp [n1, n2, e]
    exact ⟨H, by repeat' (first | exact Sub.refl _ | refine Sub.upd ?_ hp | refine Sub.upd ?_ hqn), hk⟩
  · rw [if_neg e] at hk
    simp [n1, e]
    exact ⟨H, by repeat' (first | exact Sub.refl _ | refine Sub.upd ?_ hp | refine Sub.upd ?_ hqn), hk⟩
theorem c26 {H : AH} {K : AV → AH → Prop} {a b : AV} {la lb : List Dl} (ha : Rw H a (flat dlc la) la.length 9) (hb : Rw H b (flat dlc lb) lb.length 9) (he : la = lb) (hl : la.length ≤ 1000000) (hk : K (vb true) H) : @AC Tryz.prog 26 [a, b] H ⟨K⟩ := by
  subst he
  have l1 := fun k => Rw.lenK ha (k := k)
  have l2 := fun k => Rw.lenK hb (k := k)
  refine AC_of (.forget ?_)
  refine call_c follows cf26_ok (by simp) ?_
  simp [l1, l2]
  refine wpc_loop (fun s => ∃ i : Nat, s.n = 26 ∧ s.H = H ∧ s.t 0 = a ∧ s.t 1 = b ∧ s.t 5 = vi i ∧ i ≤ la.length) (fun s => la.length - slotN (s.t 5)) ?_ ?_
  · exact FgK.same ⟨0, by simp⟩
  rintro s ⟨i, hn, hH, e0, e1, e5, hi⟩
  by_cases hlt : i < la.length
  · have wr := IntWalk.i64_in ((i : Int) + 1) (by omega)
    obtain ⟨p, p1, p2⟩ := fsee dlc_l ha hlt
    obtain ⟨q, q1, q2⟩ := fsee dlc_l hb hlt
    generalize la[i] = d at *
    simp [hn, hH, e0, e1, e5, l1, hlt, p1, p2 _ (Sub.refl _), q1, q2 _ (Sub.refl _), dlc, wr]
    exact FgK.same ⟨⟨i + 1, by simp, by simp, by simp, by simp, by simp, by omega⟩, by simp [e5]; omega⟩
  · simp [hn, hH, e0, e1, e5, l1, hlt]
    exact ⟨H, Sub.refl _, hk⟩
/-- Deliveries more, for a row of one's own. -/
theorem OutN.app {A V2 : AH} {out : AV} {l : List Dl} {k : AV → AH → Prop} (h : OutN A V2 out l) (hd : Dm A V2) (hl : l.length ≤ 1000) (ds : List Dl) (hds : ds.length ≤ 1000)
    (hk : ∀ V3 out', (∀ j o, V2 j = some o → rowB out ≠ some j → V3 j = some o) → OutN A V3 out' (l ++ ds) → (∀ r, rowB out' = some r → rowB out = some r ∨ V2 r = none) → k out' V3) : @appK V2 9 72 out ds.length (flat dlc ds) ⟨k⟩ := by
  rcases h with ⟨rfl, rfl⟩ | ⟨r, f, rfl, h1, h2⟩
  · by_cases hz : ds = []
    · subst hz
      simp only [List.length_nil, flat_nil]
      rw [appK_nil0]
      exact hk _ _ (fun j o hj _ => hj) (.inl ⟨rfl, rfl⟩) (fun r hr => by cases hr)
    have hdl : ds.length ≠ 0 := fun h => hz (List.length_eq_zero_iff.1 h)
    rw [appK_nil hdl]
    refine ⟨⟨dl_all ds, by omega⟩, fun b hb => ?_⟩
    refine hk _ _ (fun j o hj _ => ?_) (.inr ⟨b, false, by simp, hd _ hb, by simp [upd_apply]⟩) (fun r hr => ?_)
    · simp only [upd_apply]; rw [if_neg (by rintro rfl; rw [hb] at hj; cases hj)]; exact hj
    · cases hr; exact .inr hb
  · have hfl := flat_len dlc_l l
    rw [appK_sl]
    refine cellsK_of h2 ⟨⟨dl_all ds, rfl, by omega, by omega⟩, fun b hb => ?_⟩
    rw [List.take_of_length_le (by omega), ← flat_app]
    refine hk _ _ (fun j o hj hne => ?_) (.inr ⟨b, false, by simp, ?_, by simp [upd_apply]⟩) (fun q hq => ?_)
    · have hjr : j ≠ r := by rintro rfl; exact hne rfl
      simp only [upd_apply, del_apply]
      rw [if_neg, if_neg hjr]
      · exact hj
      · rintro rfl
        rcases hb with rfl | hb
        · exact hjr rfl
        · rw [hb] at hj; cases hj
    · rcases hb with rfl | hb
      · exact h1
      · exact hd _ hb
    · cases hq
      rcases hb with rfl | hb
      · exact .inl rfl
      · exact .inr hb
def UpdP (K : AV → AH → Prop) (H : AH) (v : AV) (m : PS) (r : PS × List Dl) : Prop :=
  ∀ V v' out, Sub H V → NwL H V v m.lg v' r.1.lg → OutN H V out r.2 → Ap v' out → K (.tp [.ag [vi r.1.fs, vi r.1.fc, vb r.1.fl], v', out]) V
theorem tgt_pos3 {L : List It} (hL : PosL L) (x y : Int) : ((tgtF L x y).1 = 0 ∧ (tgtF L x y).2 = 0) ∨ (1 ≤ (tgtF L x y).1 ∧ 1 ≤ (tgtF L x y).2) := by
  rcases at_rng2 L x y L.length (Nat.le_refl _) with h | ⟨n, hn, h⟩
  · rw [tgt_neg3 h]; exact .inl ⟨rfl, rfl⟩
  · rw [(tgt_at3 hn h).1]
    exact .inr (hL _ (List.getElem_mem hn))
end Go.Proofs.YtmpncpamndhmcaaGreat
end

/-! The specification's focus, walked: Update. Conditions: as each lemma states them. -/
section
namespace Go.Proofs.YtmpncpamndhmcaaGreat
open Go Go.Ab Go.RowKit

attribute [local simp] rc_len rc_t4 rc_t1 rc_t2 rc_t3 rc_d1 rc_d2 rc_d3 rc_d4 rc_ag rc_one rc_eq

theorem updM_a {m : PS} {L : List It} {x y ts tc : Int} (hfl : m.fl = false) (hT : tgtF L x y = (ts, tc)) (hsm : ¬ (ts = m.fs ∧ tc = m.fc)) :
    updM m L x y = ({ m with lg := if ts ≠ 0 ∨ tc ≠ 0 then issL (if m.fs ≠ 0 ∨ m.fc ≠ 0 then issL m.lg m.fc m.fs 2 else m.lg) tc ts 1 else if m.fs ≠ 0 ∨ m.fc ≠ 0 then issL m.lg m.fc m.fs 2 else m.lg, fs := ts, fc := tc },
      (if m.fs ≠ 0 ∨ m.fc ≠ 0 then [⟨m.fc, m.fs, 2, 0, 0, 0, 0, 0, issN m.lg m.fc m.fs 2⟩] else []) ++
      (if ts ≠ 0 ∨ tc ≠ 0 then [⟨tc, ts, 1, 0, sub64 x (orgF L x y).1, sub64 y (orgF L x y).2, 0, 0, issN (if m.fs ≠ 0 ∨ m.fc ≠ 0 then issL m.lg m.fc m.fs 2 else m.lg) tc ts 1⟩] else [])) := by
  unfold updM
  rw [if_neg (by simp [hfl])]
  simp only [hT]
  rw [if_neg hsm]
theorem OutN.app1 {A V2 : AH} {out : AV} {l : List Dl} {k : AV → AH → Prop} (h : OutN A V2 out l) (hd : Dm A V2) (hl : l.length ≤ 1000) (d : Dl)
    (hk : ∀ V3 out', (∀ j o, V2 j = some o → rowB out ≠ some j → V3 j = some o) → OutN A V3 out' (l ++ [d]) → (∀ r, rowB out' = some r → rowB out = some r ∨ V2 r = none) → k out' V3) : @appK V2 9 72 out 1 (dlc d) ⟨k⟩ := by
  have := h.app hd hl [d] (by simp) hk
  simpa [flat_one] using this
theorem LogR.nm {H : AH} {v : AV} {lg : Lg} (h : LogR H v lg) : ∃ l : Lg, l = lg := ⟨_, rfl⟩
theorem Ap.step {V V' : AH} {v1 v2 : AV} {lg1 lg2 : Lg} {out : AV} (h : Ap v1 out) (hn : NwL V V' v1 lg1 v2 lg2) (hr : ∀ r, rowB out = some r → V r ≠ none) : Ap v2 out := by
  intro r hr2 hl
  rcases hn with ⟨rfl, _⟩ | ⟨q, f, L', rfl, h1, _⟩
  · exact h r hr2 hl
  · cases hl
    exact hr _ hr2 h1.1
theorem NwL.keep {A V V' : AH} {v v2 : AV} {lg lg2 : Lg} {out : AV} (h : NwL A V v lg v2 lg2) (ha : Ap v2 out) (hk : ∀ j o, V j = some o → rowB out ≠ some j → V' j = some o) : NwL A V' v lg v2 lg2 := by
  rcases h with h | ⟨r, f, L', rfl, h1, h2⟩
  · exact .inl h
  · exact .inr ⟨r, f, L', rfl, ⟨h1.1, hk _ _ h1.2 fun e => ha r e rfl⟩, h2⟩
theorem OutN.blk {A V : AH} {out : AV} {l : List Dl} (h : OutN A V out l) {r : Nat} (hr : rowB out = some r) : A r = none ∧ V r ≠ none := by
  rcases h with ⟨_, rfl⟩ | ⟨q, f, rfl, h1, h2⟩
  · cases hr
  · cases hr
    exact ⟨h1, by rw [h2]; simp⟩
theorem Ap.app {V6 : AH} {v2 out out' : AV} {lg2 : Lg} (h : Ap v2 out) (hl : LogR V6 v2 lg2) (hr : ∀ r, rowB out' = some r → rowB out = some r ∨ V6 r = none) : Ap v2 out' := by
  intro r h1 h2
  rcases hr r h1 with h3 | h3
  · exact h r h3 h2
  · exact hl.bl h2 h3
set_option maxHeartbeats 2000000 in
theorem c132 {H : AH} {K : AV → AH → Prop} {m : PS} {v a : AV} {L : List It} {x y : Int} (hv : LogR H v m.lg) (hla : m.lg.la ≤ 200000) (ha : ItsR H a L) (hL : LiS L) (hi : InvF m) (hk : UpdP K H v m (updM m L x y)) :
    @AC Tryz.prog 132 [.ag [vi m.fs, vi m.fc, vb m.fl], v, a, vi x, vi y] H ⟨K⟩ := by
  have h0 := hv.pos
  have hv0 := hv
  obtain ⟨aS, LS, rfl, hr, hLl⟩ := hv
  have o1 := Rw.one hr
  have o2 := Rw.cells hr
  have ca := Rw.cells ha.1
  have oa := Rw.one ha.1
  refine AC_of (.forget ?_)
  refine call_c follows cf132_ok (by simp) ?_
  simp
  refine newK_of fun b5 h5 => ?_
  simp
  refine newK_of fun b6 h6 => ?_
  simp
  refine newK_of fun b7 h7 => ?_
  simp
  refine newK_of fun b8 h8 => ?_
  obtain ⟨n1, m1, h6⟩ := upd_none'.1 h6
  obtain ⟨n2, m2, h7⟩ := upd_none'.1 h7
  obtain ⟨n3, m3, h7⟩ := upd_none'.1 h7
  obtain ⟨n4, m4, h8⟩ := upd_none'.1 h8
  obtain ⟨n5, m5, h8⟩ := upd_none'.1 h8
  obtain ⟨n6, m6, h8⟩ := upd_none'.1 h8
  simp
  generalize hH1 : upd (upd (upd (upd H b5 _) b6 _) b7 _) b8 _ = H1
  have hS : Sub H H1 := hH1 ▸ ((((Sub.refl H).upd h5).upd h6).upd h7).upd h8
  have k5 : H1 b5 = some (.cells [vi m.fs, vi m.fc, vb m.fl]) := by rw [← hH1]; simp [*]
  have k6 : H1 b6 = some (.cells [vi m.lg.la, aS]) := by rw [← hH1]; simp [*]
  have k7 : H1 b7 = some (.cells [vi 0, vi 0, vb false]) := by rw [← hH1]; simp [*]
  have k8 : H1 b8 = some (.cells [vi 0, vnil]) := by rw [← hH1]; simp [*]
  clear hH1
  have q5 : H1 b5 ≠ none := by rw [k5]; simp
  have q6 : H1 b6 ≠ none := by rw [k6]; simp
  have q7 : H1 b7 ≠ none := by rw [k7]; simp
  have q8 : H1 b8 ≠ none := by rw [k8]; simp
  refine c131 (ha.sub hS) hL ?_
  have same : UpdP K H (.ag [vi m.lg.la, aS]) m (m, []) → K (.tp [.ag [vi m.fs, vi m.fc, vb m.fl], .ag [vi m.lg.la, aS], vnil]) H := fun h => h H _ vnil (Sub.refl _) (.inl ⟨rfl, rfl⟩) (.inl ⟨rfl, rfl⟩) (Ap.nil _)
  cases hfl : m.fl with
  | true =>
    have e : updM m L x y = (m, []) := by unfold updM; rw [if_pos hfl]
    rw [e] at hk
    have same := same hk
    rw [hfl] at same k5
    simp [*]
    exact ⟨H, by repeat' (first | exact hS | refine Sub.upd ?_ h7 | refine Sub.upd ?_ h8), same⟩
  | false =>
    by_cases hsm : (tgtF L x y).1 = m.fs ∧ (tgtF L x y).2 = m.fc
    · have e : updM m L x y = (m, []) := by unfold updM; rw [if_neg (by simp [hfl])]; simp only; rw [if_pos hsm]
      rw [e] at hk
      have same := same hk
      rw [hfl] at same k5
      simp [hsm.1, hsm.2, *]
      exact ⟨H, by repeat' (first | exact hS | refine Sub.upd ?_ h7 | refine Sub.upd ?_ h8), same⟩
    · have hdf : (decide ((tgtF L x y).1 = m.fs) && decide ((tgtF L x y).2 = m.fc)) = false := by
        rw [← Bool.decide_and]; exact decide_eq_false hsm
      have htp := tgt_pos3 hL.pos x y
      have hdiff : (tgtF L x y).1 = m.fs → ¬ (tgtF L x y).2 = m.fc := fun h1 h2 => hsm ⟨h1, h2⟩
      generalize hT : tgtF L x y = T at *
      obtain ⟨ts, tc⟩ := T
      simp only at *
      by_cases hlv : m.fs = 0
      case' pos =>
        have hfc : m.fc = 0 := by unfold InvF at hi; omega
        have hts : ¬ ts = 0 := fun h => hsm ⟨by omega, by omega⟩
        have g1 : ¬ ts = m.fs := by omega
        have hk1 := updM_a hfl hT hsm
        have hen : ts ≠ 0 ∨ tc ≠ 0 := .inl hts
        have hnl : ¬ (m.fs ≠ 0 ∨ m.fc ≠ 0) := by omega
        obtain ⟨lg1, hlg⟩ : ∃ l : Lg, l = m.lg := ⟨_, rfl⟩
        have hu1 : (updM m L x y).1.lg = issL lg1 tc ts 1 := by rw [hk1, hlg]; simp only [if_pos hen, if_neg hnl]
        have hu2 : (updM m L x y).2 = [] ++ [⟨tc, ts, 1, 0, sub64 x (orgF L x y).1, sub64 y (orgF L x y).2, 0, 0, issN lg1 tc ts 1⟩] := by rw [hk1, hlg]; simp only [if_pos hen, if_neg hnl]
        have hu3 : (updM m L x y).1.fs = ts ∧ (updM m L x y).1.fc = tc ∧ (updM m L x y).1.fl = false := by rw [hk1]; exact ⟨rfl, rfl, hfl⟩
        have w3 : Vw H H1 H1 := ⟨hS, sdm (Sub.refl _)⟩
        have l3 : NwL H1 H1 (.ag [vi m.lg.la, aS]) m.lg (.ag [vi lg1.la, aS]) lg1 := by rw [hlg]; exact .inl ⟨rfl, rfl⟩
        have r5 := k5
        have r6 : H1 b6 = some (.cells [vi lg1.la, aS]) := by rw [hlg]; exact k6
        have r7 := k7
        have r8 := k8
        have ou3 : OutN H1 H1 vnil [] := .inl ⟨rfl, rfl⟩
        have oo : vnil.one = true := rfl
        have oc : vnil.cells = some [vnil] := rfl
        have ap3 : Ap (.ag [vi lg1.la, aS]) vnil := Ap.nil _
        have hlg1 : lg1.la ≤ 200001 := by rw [hlg]; omega
        have p1 := o1
        have p2 := o2
        simp [k5, k6, hfl, hts, hlv, n1]
        rw [← hlg]
      case' neg =>
        have hfs : 1 ≤ m.fs ∧ 1 ≤ m.fc := by unfold InvF at hi; omega
        by_cases g1 : ts = m.fs
        case' pos =>
          have g2 := hdiff g1
          simp [k5, k6, hfl, g1, g2, hlv]
        case' neg =>
          simp [k5, k6, hfl, g1, hlv]
        all_goals
          refine c133 (hv0.sub hS) (by omega) m.fc m.fs 2 fun V1 v1 hs1 hn1 => ?_
          have hv1 := hn1.rd (hv0.sub hS) hs1
          have hv1' := hv1
          obtain ⟨aS1, LS1, rfl, hr1, hl1⟩ := hv1
          have p1 := Rw.one hr1
          have p2 := Rw.cells hr1
          have r5 := hs1 _ _ k5
          have r6 := hs1 _ _ k6
          have r7 := hs1 _ _ k7
          have r8 := hs1 _ _ k8
          simp
          refine newK_of fun b9 h9 => ?_
          have z5 := ne_of_free r5 h9
          have z6 := ne_of_free r6 h9
          have z7 := ne_of_free r7 h9
          have z8 := ne_of_free r8 h9
          simp [z5, z6, r5, r6, p1, m1]
          generalize hV2 : upd (upd V1 b9 _) b6 _ = V2
          have w2 : Vw H H1 V2 := by
            rw [← hV2]
            exact ((⟨hS.trans hs1, sdm hs1⟩ : Vw H H1 V1).put (hS.none_of (hs1.none_of h9)) _).put h6 _
          have l2 : NwL H1 V2 (.ag [vi m.lg.la, aS]) m.lg (.ag [vi (issL m.lg m.fc m.fs 2).la, aS1]) (issL m.lg m.fc m.fs 2) := by
            rw [← hV2]
            exact (hn1.new h9 _).put q6 _
          have r5 : V2 b5 = some (.cells [vi m.fs, vi m.fc, vb m.fl]) := by rw [← hV2]; simp [m1, z5, r5]
          have r6 : V2 b6 = some (.cells [vi (issL m.lg m.fc m.fs 2).la, aS1]) := by rw [← hV2]; simp
          have r7 : V2 b7 = some (.cells [vi 0, vi 0, vb false]) := by rw [← hV2]; simp [n2, z7, r7]
          have r8 : V2 b8 = some (.cells [vi 0, vnil]) := by rw [← hV2]; simp [n5, z8, r8]
          clear hV2
          obtain ⟨d1, hd1⟩ : ∃ d : Dl, d = ⟨m.fc, m.fs, 2, 0, 0, 0, 0, 0, issN m.lg m.fc m.fs 2⟩ := ⟨_, rfl⟩
          have hdc : [vi m.fc, vi m.fs, vi 2, vi 0, vi 0, vi 0, vi 0, vi 0, vu (issN m.lg m.fc m.fs 2)] = dlc d1 := by rw [hd1]; rfl
          have hdl : (dlc d1).length = 9 := rfl
          have hdt : (dlc d1).take 9 = dlc d1 := rfl
          have hda : (dlc d1).all AV.one = true := rfl
          refine newK_of fun d hd => ?_
          rw [hdc]
          simp [hdl, hdt, hda]
          refine newK_of fun r hr' => ?_
          generalize hV3 : upd (upd V2 d _) r _ = V3
          obtain ⟨e1, e2, hr3⟩ := upd_none'.1 hr'
          have w3 : Vw H H1 V3 := by
            rw [← hV3]
            exact (w2.put (w2.sub.none_of hd) _).put (w2.sub.none_of hr3) _
          have l3 : NwL H1 V3 (.ag [vi m.lg.la, aS]) m.lg (.ag [vi (issL m.lg m.fc m.fs 2).la, aS1]) (issL m.lg m.fc m.fs 2) := by
            rw [← hV3]
            exact (l2.new hd _).new hr' _
          have hv2 : LogR V2 (.ag [vi (issL m.lg m.fc m.fs 2).la, aS1]) (issL m.lg m.fc m.fs 2) := l2.rd hv0 w2.sub
          have ou3 : OutN H1 V3 (.sl r 0 1 9 false) [d1] := .inr ⟨r, false, rfl, w2.dm _ hr3, by rw [← hV3]; simp [flat_one]⟩
          have ap3 : Ap (.ag [vi (issL m.lg m.fc m.fs 2).la, aS1]) (.sl r 0 1 9 false) := by
            intro q h1 h2
            cases h1
            exact hv2.bl h2 hr3
          have s3 : Sub V2 V3 := by rw [← hV3]; exact ((Sub.refl V2).upd hd).upd hr3
          have hv3 := hv2.sub s3
          have r5 := s3 _ _ r5
          have r6 := s3 _ _ r6
          have r7 := s3 _ _ r7
          have r8 := s3 _ _ r8
          have hlg1 : (issL m.lg m.fc m.fs 2).la ≤ 200001 := by have := (iss_lab (l := m.lg) ⟨h0, by omega⟩ m.fc m.fs 2).2; omega
          have hlg1 : (issL m.lg m.fc m.fs 2).la ≤ 200001 := by have := (iss_lab (l := m.lg) ⟨h0, by omega⟩ m.fc m.fs 2).2; omega
          have hk1 := updM_a hfl hT hsm
          have hlv' : m.fs ≠ 0 ∨ m.fc ≠ 0 := .inl hlv
          have oo := ou3.one
          have oc := ou3.cells
          rw [hfl] at r5
          clear hV3 l2 hv2 w2 hdc hd hr' hr3 s3 hs1 hn1 hv1'
          by_cases hts : ts = 0
          · by_cases gg : ts = m.fs
            · exfalso; omega
            first
              | exact absurd g1 gg
              | (
                have hen : ¬ (ts ≠ 0 ∨ tc ≠ 0) := by omega
                have hu1 : (updM m L x y).1.lg = issL m.lg m.fc m.fs 2 := by rw [hk1]; simp only [if_neg hen, if_pos hlv']
                have hu2 : (updM m L x y).2 = [d1] := by rw [hk1, hd1]; simp only [if_neg hen, if_pos hlv', List.append_nil]
                have hu3 : (updM m L x y).1.fs = ts ∧ (updM m L x y).1.fc = tc ∧ (updM m L x y).1.fl = false := by rw [hk1]; exact ⟨rfl, rfl, hfl⟩
                generalize AV.sl r 0 1 9 false = out at *
                simp [r5, r6, r7, r8, p1, hts, n1, m2, n3, m4, n4, n6]
                have ho := hk _ _ out (((w3.put h5 (.cells [vi 0, vi tc, vb false])).put h7 (.cells [vi 0, vi tc, vb false])).put h8 (.cells [vi (issL m.lg m.fc m.fs 2).la, aS1])).sub (by rw [hu1]; exact (((l3.put q5 _).put q7 _).put q8 _).from (sdm hS)) (by rw [hu2]; exact (((ou3.put q5 _).put q7 _).put q8 _).from (sdm hS)) ap3
                rw [hu3.1, hu3.2.1, hu3.2.2, hts] at ho
                exact ⟨_, Sub.refl _, ho⟩)
          have hen : ts ≠ 0 ∨ tc ≠ 0 := .inl hts
          have hu1 : (updM m L x y).1.lg = issL (issL m.lg m.fc m.fs 2) tc ts 1 := by rw [hk1]; simp only [if_pos hen, if_pos hlv']
          have hu2 : (updM m L x y).2 = [d1] ++ [⟨tc, ts, 1, 0, sub64 x (orgF L x y).1, sub64 y (orgF L x y).2, 0, 0, issN (issL m.lg m.fc m.fs 2) tc ts 1⟩] := by rw [hk1, hd1]; simp only [if_pos hen, if_pos hlv']
          have hu3 : (updM m L x y).1.fs = ts ∧ (updM m L x y).1.fc = tc ∧ (updM m L x y).1.fl = false := by rw [hk1]; exact ⟨rfl, rfl, hfl⟩
          generalize issL m.lg m.fc m.fs 2 = lg1 at *
          generalize AV.sl r 0 1 9 false = out at *
          have hll : [d1].length ≤ 1 := by simp
          generalize [d1] = l1 at *
          simp [r5, r6, hts, hlv, n1]
      all_goals
        have w4 := w3.put h5 (.cells [vi ts, vi tc, vb false])
        have l4 := l3.put q5 (.cells [vi ts, vi tc, vb false])
        have ou4 := ou3.put q5 (.cells [vi ts, vi tc, vb false])
        have hv4 := l4.rd hv0 w4.sub
        first
          | (rw [← g1])
          | skip
        refine c133 hv4 (by omega) _ _ 1 fun V5 v2 hs5 hn5 => ?_
        have hv5 := hn5.rd hv4 hs5
        have hv5' := hv5
        have s5 := hs5 b5 _ (by simp only [upd_apply, if_true]; rfl)
        have s6 := hs5 b6 _ (by simp only [upd_apply]; rw [if_neg n1]; exact r6)
        have s7 := hs5 b7 _ (by simp only [upd_apply]; rw [if_neg n3]; exact r7)
        have s8 := hs5 b8 _ (by simp only [upd_apply]; rw [if_neg n6]; exact r8)
        have w5 := w4.to hs5
        have l5 := l4.step hn5 w4.dm (fun r C h => (h.to hs5).2)
        have ou5 := ou4.to hs5
        have ap5 : Ap v2 _ := ap3.step hn5 (fun r h => (ou4.blk h).2)
        obtain ⟨lg2, hlg2⟩ := hv5.nm
        rw [← hlg2] at hv5 hv5' l5 hu1
        obtain ⟨aS2, LS2, rfl, hr2, hl2⟩ := hv5
        have t1 := Rw.one hr2
        have t2 := Rw.cells hr2
        simp
        refine newK_of fun b10 h10 => ?_
        have z5 := ne_of_free s5 h10
        have z6 := ne_of_free s6 h10
        have z7 := ne_of_free s7 h10
        have z8 := ne_of_free s8 h10
        simp [t1, z6, s6]
        generalize hV6 : upd (upd V5 b10 _) b6 _ = V6
        have w6 : Vw H H1 V6 := by rw [← hV6]; exact (w5.put (w5.sub.none_of h10) _).put h6 _
        have l6 := (l5.new h10 (.cells [vi lg2.la, aS2])).put q6 (.cells [vi lg2.la, aS2])
        have ou6 := (ou5.new h10 (.cells [vi lg2.la, aS2])).put q6 (.cells [vi lg2.la, aS2])
        rw [hV6] at l6 ou6
        have s5 : V6 b5 = some (.cells [vi ts, vi tc, vb false]) := by rw [← hV6]; simp [m1, z5, s5]
        have s6 : V6 b6 = some (.cells [vi lg2.la, aS2]) := by rw [← hV6]; simp
        have s7 : V6 b7 = some (.cells [vi 0, vi 0, vb false]) := by rw [← hV6]; simp [n2, z7, s7]
        have s8 : V6 b8 = some (.cells [vi 0, vnil]) := by rw [← hV6]; simp [n5, z8, s8]
        refine c19 (ha.sub w6.sub) hL ?_
        rcases at_rng2 L x y L.length (Nat.le_refl _) with hat | ⟨n, hn', hat⟩
        · have hat' : atF L x y < 0 := hat
          rw [tgt_neg3 hat'] at hT
          injection hT with hT1 hT2
          exact absurd hT1.symm hts
        have hat' : atF L x y = n := hat
        rw [(tgt_at3 hn' hat').2] at hu2
        rw [hat']
        obtain ⟨w, w1, _, wf⟩ := fat itc_l (ha.1.sub w6.sub) hn'
        obtain ⟨wx, wx1, wx2⟩ := wf 2 (vi L[n].x) rfl
        obtain ⟨wy, wy1, wy2⟩ := wf 3 (vi L[n].y) rfl
        obtain ⟨d2, hd2⟩ : ∃ d : Dl, d = ⟨tc, ts, 1, 0, sub64 x L[n].x, sub64 y L[n].y, 0, 0, issN lg1 tc ts 1⟩ := ⟨_, rfl⟩
        rw [← hd2] at hu2
        have hdc : [vi tc, vi ts, vi 1, vi 0, AV.pl (.int .i64 (IntKind.i64.wrap (x - L[n].x))), AV.pl (.int .i64 (IntKind.i64.wrap (y - L[n].y))), vi 0, vi 0, vu (issN lg1 tc ts 1)] = dlc d2 := by rw [hd2]; rfl
        have hdl : (dlc d2).length = 9 := rfl
        have hdt : (dlc d2).take 9 = dlc d2 := rfl
        have hda : (dlc d2).all AV.one = true := rfl
        simp [w1, wx1, wx2 _ (Sub.refl _), wy1, wy2 _ (Sub.refl _)]
        refine newK_of fun d hd => ?_
        rw [hdc]
        have w7 := w6.put (w6.sub.none_of hd) (.cells (dlc d2))
        have l7 := l6.new hd (.cells (dlc d2))
        have ou7 := ou6.new hd (.cells (dlc d2))
        have y5 := ((Sub.refl V6).upd (o := .cells (dlc d2)) hd) _ _ s5
        have y6 := ((Sub.refl V6).upd (o := .cells (dlc d2)) hd) _ _ s6
        have y7 := ((Sub.refl V6).upd (o := .cells (dlc d2)) hd) _ _ s7
        have y8 := ((Sub.refl V6).upd (o := .cells (dlc d2)) hd) _ _ s8
        simp [-appK_nil, -appK_nil0, hdl, hdt]
        refine ou7.app1 w7.dm (by first | omega | simp) d2 fun V8 out' keep ou8 hr8 => ?_
        have nb : ∀ j, H1 j ≠ none → rowB _ ≠ some j := fun j hj e => hj (ou7.blk e).1
        have x5 := keep _ _ y5 (nb _ q5)
        have x6 := keep _ _ y6 (nb _ q6)
        have x7 := keep _ _ y7 (nb _ q7)
        have x8 := keep _ _ y8 (nb _ q8)
        have s8' : Sub H V8 := fun j o hj => keep _ _ (w7.sub _ _ hj) (nb _ (by rw [hS _ _ hj]; simp))
        have l8 := l7.keep ap5 keep
        have ap8 := Ap.app ap5 (l7.rd hv0 w7.sub) hr8
        have oo8 := ou8.one
        have oc8 := ou8.cells
        simp [x5, x6, x7, x8, t1, m2, m4, n4]
        have ho := hk _ _ out' ((s8'.upd h7 (o := .cells [vi ts, vi tc, vb false])).upd h8 (o := .cells [vi lg2.la, aS2])) (by rw [hu1]; exact ((l8.put q7 _).put q8 _).from (sdm hS)) (by rw [hu2]; exact ((ou8.put q7 _).put q8 _).from (sdm hS)) ap8
        rw [hu3.1, hu3.2.1, hu3.2.2] at ho
        exact ⟨_, Sub.refl _, ho⟩
end Go.Proofs.YtmpncpamndhmcaaGreat
end

/-! The specification's pointer, walked: its lists. Conditions: as each lemma states them. -/
section
namespace Go.Proofs.YtmpncpamndhmcaaGreat
open Go Go.Ab Go.RowKit

attribute [local simp] rc_len rc_t4 rc_t1 rc_t2 rc_t3 rc_d1 rc_d2 rc_d3 rc_d4 rc_ag rc_one rc_eq

theorem row_app1 {H0 H1 H : AH} {out : AV} {acc : List Int} {k : AV → AH → Prop} (h : Row H0 H1 out (acc.map vi) acc.length 1) (hs : Sub H1 H) (x : Int) (hl : acc.length ≤ 1000000)
    (hk : ∀ r H', H0 r = none → Sub (upd H0 r (.cells ((acc ++ [x]).map vi))) H' → k (.sl r 0 (acc.length + 1) 1 false) H') : @appK H 1 8 out 1 [vi x] ⟨k⟩ := by
  refine h.app hs (by decide) rfl (by simp) (by omega) fun r H' hr hs' => ?_
  exact hk r H' hr (by simpa using hs')
theorem rowNwI {H V : AH} {out : AV} {l' : List Int} (h : Row H V out (l'.map vi) l'.length 1) (a : AV) (l : List Int) : NwI H V a l out l' := by
  rcases h with ⟨h1, h2, h3, h4⟩ | ⟨r, h1, h2, h3⟩
  · exact .inr (.inl ⟨h3, List.length_eq_zero_iff.1 h1⟩)
  · exact .inr (.inr ⟨r, false, h1, h2, by rw [h3]; simp [upd_apply]⟩)
theorem rowOutN {H V : AH} {out : AV} {l : List Dl} (h : Row H V out (flat dlc l) l.length 9) : OutN H V out l := by
  rcases h with ⟨h1, h2, h3, h4⟩ | ⟨r, h1, h2, h3⟩
  · exact .inl ⟨List.length_eq_zero_iff.1 h1, h3⟩
  · exact .inr ⟨r, false, h1, h2, by rw [h3]; simp [upd_apply]⟩
theorem c109 {H : AH} {K : AV → AH → Prop} {a : AV} {l : List Int} (ha : Ri H a l) (hl : l.length ≤ 1000000) (c : Int) (hk : K (vb (l.contains c)) H) : @AC Tryz.prog 109 [a, vi c] H ⟨K⟩ := by
  have l1 := fun k => ha.lenK (k := k)
  refine AC_of (.forget ?_)
  refine call_c follows cf109_ok (by simp) ?_
  simp
  refine wpc_loop (fun s => ∃ i : Nat, s.n = 18 ∧ s.H = H ∧ s.t 0 = a ∧ s.t 1 = vi c ∧ s.t 5 = vi i ∧ i ≤ l.length ∧ l.contains c = (l.drop i).contains c) (fun s => l.length - slotN (s.t 5)) ?_ ?_
  · exact FgK.same ⟨0, by simp⟩
  rintro s ⟨i, hn, hH, e0, e1, e5, hi, hc⟩
  by_cases hlt : i < l.length
  · have wr := IntWalk.i64_in ((i : Int) + 1) (by omega)
    obtain ⟨p, p1, p2⟩ := ha.see hlt
    have hd := List.drop_eq_getElem_cons hlt
    rw [hd] at hc
    by_cases he : l[i] = c
    · have : l.contains c = true := by rw [hc, he]; simp
      rw [this] at hk
      simp [hn, hH, e0, e1, e5, l1, hlt, p1, p2 _ (Sub.refl _), he]
      exact ⟨H, Sub.refl _, hk⟩
    · have hc' : l.contains c = (l.drop (i + 1)).contains c := by rw [hc, List.contains_cons, beq_eq_false_iff_ne.2 (Ne.symm he), Bool.false_or]
      simp [hn, hH, e0, e1, e5, l1, hlt, p1, p2 _ (Sub.refl _), he, wr]
      exact FgK.same ⟨⟨i + 1, by simp, by simp, by simp, by simp, by simp, by omega, hc'⟩, by simp [e5]; omega⟩
  · rw [List.drop_eq_nil_of_le (by omega)] at hc
    have hc : l.contains c = false := hc
    rw [hc] at hk
    simp [hn, hH, e0, e1, e5, l1, hlt]
    exact ⟨H, Sub.refl _, hk⟩
theorem c117 {H : AH} {K : AV → AH → Prop} {a : AV} {l : List Int} (ha : Ri H a l) (hl : l.length ≤ 1000) (c : Int) (hk : ∀ V out, Sub H V → NwI H V a l out (l.filter fun x => x != c) → K out V) : @AC Tryz.prog 117 [a, vi c] H ⟨K⟩ := by
  have l1 := fun k => ha.lenK (k := k)
  refine AC_of (.forget ?_)
  refine call_c follows cf117_ok (by simp) ?_
  simp
  refine wpc_loop (fun s => ∃ (i : Nat) (out : AV) (acc : List Int) (Hs : AH), s.n = 27 ∧ s.H = Hs ∧ s.t 0 = a ∧ s.t 1 = vi c ∧ s.t 5 = out ∧ s.t 6 = vi i ∧ i ≤ l.length ∧ acc = (l.take i).filter (fun x => x != c) ∧ acc.length ≤ i ∧ Row H Hs out (acc.map vi) acc.length 1) (fun s => l.length - slotN (s.t 6)) ?_ ?_
  · exact FgK.same ⟨0, vnil, [], H, by simp, by simp, by simp, by simp, by simp, by simp, by simp, by simp, by simp, Row.nil H 1⟩
  rintro s ⟨i, out, acc, Hs, hn, hH, e0, e1, e5, e6, hi, hacc, hal, hrow⟩
  have hsub := hrow.sub
  have oo := Row.one hrow
  by_cases hlt : i < l.length
  · have wr := IntWalk.i64_in ((i : Int) + 1) (by omega)
    obtain ⟨p, p1, p2⟩ := (ha.sub hsub).see hlt
    have ht : l.take (i + 1) = l.take i ++ [l[i]] := by rw [List.take_add_one, List.getElem?_eq_getElem hlt]; rfl
    by_cases he : l[i] = c
    · have hacc' : acc = (l.take (i + 1)).filter (fun x => x != c) := by rw [ht, List.filter_append, ← hacc]; simp [he]
      simp [hn, hH, e0, e1, e5, e6, l1, hlt, p1, p2 _ (Sub.refl _), he, wr]
      exact FgK.same ⟨⟨i + 1, out, acc, Hs, by simp, by simp, by simp, by simp, by simp, by simp, by omega, hacc', by omega, hrow⟩, by simp [e6]; omega⟩
    · have hacc' : acc ++ [l[i]] = (l.take (i + 1)).filter (fun x => x != c) := by rw [ht, List.filter_append, ← hacc]; simp [he]
      generalize l[i] = x at *
      simp [hn, hH, e0, e1, e5, e6, l1, hlt, p1, p2 _ (Sub.refl _), he]
      refine newK_of fun z hz => ?_
      simp
      refine row_app1 hrow ((Sub.refl Hs).upd hz) x (by omega) fun r H' hr hs' => ?_
      simp [wr]
      have hl' : (acc ++ [x]).length = acc.length + 1 := by simp
      refine FgK.of _ hs' ⟨⟨i + 1, .sl r 0 (acc.length + 1) 1 false, acc ++ [x], _, by simp, rfl, by simp, by simp, by simp, by simp, by omega, hacc', by omega, ?_⟩, by simp [e6]; omega⟩
      rw [hl']
      exact Row.mk hr
  · simp [hn, hH, e0, e1, e5, e6, l1, hlt]
    have : i = l.length := by omega
    rw [this, List.take_length] at hacc
    subst hacc
    exact ⟨Hs, Sub.refl _, hk _ _ hsub (rowNwI hrow a l)⟩
theorem c115 {H : AH} {K : AV → AH → Prop} {a : AV} {p : List Int} (ha : Ri H a (sortI p)) (hl : p.length ≤ 1000) (c : Int) (hk : ∀ V out, Sub H V → NwI H V a (sortI p) out (sortI (p ++ [c])) → K out V) : @AC Tryz.prog 115 [a, vi c] H ⟨K⟩ := by
  have hl2 := sortI_len p
  have hpw := sortI_pw p
  have fin : ∀ acc, WithQ (sortI p) c acc → acc = sortI (p ++ [c]) := fun acc h => withQ_sort h
  generalize sortI p = l at *
  have l1 := fun k => ha.lenK (k := k)
  refine AC_of (.forget ?_)
  refine call_c follows cf115_ok (by simp) ?_
  simp
  refine wpc_loop (fun s => ∃ (i : Nat) (d : Bool) (out : AV) (acc : List Int) (Hs : AH), s.n = 42 ∧ s.H = Hs ∧ s.t 0 = a ∧ s.t 1 = vi c ∧ s.t 5 = out ∧ s.t 6 = vb d ∧ s.t 7 = vi i ∧ i ≤ l.length ∧ acc.length ≤ i + 1 ∧ Row H Hs out (acc.map vi) acc.length 1 ∧
      (if d = true then WithQ (l.take i) c acc ∧ (∃ y ∈ l.take i, c ≤ y) else acc = l.take i ∧ ∀ x ∈ acc, x ≤ c)) (fun s => l.length - slotN (s.t 7)) ?_ ?_
  · exact FgK.same ⟨0, false, vnil, [], H, by simp, by simp, by simp, by simp, by simp, by simp, by simp, by simp, by simp, Row.nil H 1, by simp⟩
  rintro s ⟨i, d, out, acc, Hs, hn, hH, e0, e1, e5, e6, e7, hi, hal, hrow, hq⟩
  have hsub := hrow.sub
  have oo := Row.one hrow
  by_cases hlt : i < l.length
  · have wr := IntWalk.i64_in ((i : Int) + 1) (by omega)
    obtain ⟨p, p1, p2⟩ := (ha.sub hsub).see hlt
    have ht : l.take (i + 1) = l.take i ++ [l[i]] := by rw [List.take_add_one, List.getElem?_eq_getElem hlt]; rfl
    have hge : ∀ y ∈ l.take i, y ≤ l[i] := by
      intro y hy
      obtain ⟨j, hj, rfl⟩ := List.mem_take_iff_getElem.1 hy
      exact List.pairwise_iff_getElem.1 hpw j i _ hlt (by omega)
    generalize hxe : l[i] = x at *
    cases d with
    | true =>
      rw [if_pos rfl] at hq
      obtain ⟨hq, y0, hy0, hy1⟩ := hq
      have hcx : c ≤ x := Int.le_trans hy1 (hge _ hy0)
      have hq' : WithQ (l.take (i + 1)) c (acc ++ [x]) := by
        obtain ⟨u, v, h1, h2, h3, h4⟩ := hq
        rw [ht]
        refine ⟨u, v ++ [x], by rw [h1, List.append_assoc], by rw [h2]; simp, h3, fun y hy => ?_⟩
        rcases List.mem_append.1 hy with hy | hy
        · exact h4 y hy
        · obtain rfl := List.mem_singleton.1 hy
          exact hcx
      have hex : ∃ y ∈ l.take (i + 1), c ≤ y := ⟨x, by rw [ht]; simp, hcx⟩
      simp [hn, hH, e0, e1, e5, e6, e7, l1, hlt, p1, p2 _ (Sub.refl _)]
      refine newK_of fun z hz => ?_
      simp
      have hw : acc.length ≤ 1000 + 1 := by omega
      refine row_app1 hrow ((Sub.refl Hs).upd hz) x (by omega) fun r H' hr hs' => ?_
      simp [wr]
      have hl' : (acc ++ [x]).length = acc.length + 1 := by simp
      refine FgK.of _ hs' ⟨⟨i + 1, true, .sl r 0 (acc.length + 1) 1 false, acc ++ [x], _, by simp, rfl, by simp, by simp, by simp, by simp, by simp, by omega, by omega, ?_, by rw [if_pos rfl]; exact ⟨hq', hex⟩⟩, by simp [e7]; omega⟩
      rw [hl']
      exact Row.mk hr
    | false =>
      rw [if_neg (by decide)] at hq
      obtain ⟨hq1, hq2⟩ := hq
      have hw : acc.length ≤ 1000 + 1 := by omega
      by_cases hx : c < x
      · have hq' : WithQ (l.take (i + 1)) c (acc ++ [c] ++ [x]) := by
          rw [ht]
          exact ⟨acc, [x], by rw [hq1], by simp, hq2, fun y hy => by obtain rfl := List.mem_singleton.1 hy; omega⟩
        have hex : ∃ y ∈ l.take (i + 1), c ≤ y := ⟨x, by rw [ht]; simp, by omega⟩
        simp [hn, hH, e0, e1, e5, e6, e7, l1, hlt, p1, p2 _ (Sub.refl _), hx]
        refine newK_of fun z hz => ?_
        simp
        refine row_app1 hrow ((Sub.refl Hs).upd hz) c (by omega) fun r H' hr hs' => ?_
        have hl1 : (acc ++ [c]).length = acc.length + 1 := by simp
        have hrow2 : Row H (upd H r (.cells ((acc ++ [c]).map vi))) (.sl r 0 (acc ++ [c]).length 1 false) ((acc ++ [c]).map vi) (acc ++ [c]).length 1 := Row.mk hr
        rw [← hl1]
        generalize hx1 : AV.sl r 0 (acc ++ [c]).length 1 false = x1 at *
        have ox1 : x1.one = true := by rw [← hx1]; rfl
        obtain ⟨q, q1, q2⟩ := (ha.sub (hrow2.sub.trans hs')).see hlt
        rw [hxe] at q2
        clear p1 p2
        simp [q1, q2 _ (Sub.refl _)]
        refine newK_of fun z2 hz2 => ?_
        simp
        refine row_app1 hrow2 (hs'.trans ((Sub.refl H').upd hz2)) x (by omega) fun r2 H3 hr2 hs3 => ?_
        simp [wr]
        have hl2 : (acc ++ [c] ++ [x]).length = (acc ++ [c]).length + 1 := by simp
        refine FgK.of _ hs3 ⟨⟨i + 1, true, .sl r2 0 ((acc ++ [c]).length + 1) 1 false, acc ++ [c] ++ [x], _, by simp, rfl, by simp, by simp, by simp, by simp, by simp, by omega, by rw [hl2, hl1]; rw [hq1]; simp; omega, ?_, by rw [if_pos rfl]; exact ⟨hq', hex⟩⟩, by simp [e7]; omega⟩
        rw [hl2]
        exact Row.mk hr2
      · have hq' : acc ++ [x] = l.take (i + 1) ∧ ∀ y ∈ acc ++ [x], y ≤ c := by
          refine ⟨by rw [ht, hq1], fun y hy => ?_⟩
          rcases List.mem_append.1 hy with hy | hy
          · exact hq2 y hy
          · obtain rfl := List.mem_singleton.1 hy
            omega
        simp [hn, hH, e0, e1, e5, e6, e7, l1, hlt, p1, p2 _ (Sub.refl _), hx]
        refine newK_of fun z hz => ?_
        simp
        refine row_app1 hrow ((Sub.refl Hs).upd hz) x (by omega) fun r H' hr hs' => ?_
        simp [wr]
        have hl' : (acc ++ [x]).length = acc.length + 1 := by simp
        refine FgK.of _ hs' ⟨⟨i + 1, false, .sl r 0 (acc.length + 1) 1 false, acc ++ [x], _, by simp, rfl, by simp, by simp, by simp, by simp, by simp, by omega, by omega, ?_, by rw [if_neg (by decide)]; exact hq'⟩, by simp [e7]; omega⟩
        rw [hl']
        exact Row.mk hr
  · have hil : i = l.length := by omega
    rw [hil, List.take_length] at hq
    cases d with
    | true =>
      rw [if_pos rfl] at hq
      have he := fin acc hq.1
      simp [hn, hH, e0, e1, e5, e6, e7, l1, hlt]
      rw [← he] at hk
      exact ⟨Hs, Sub.refl _, hk _ _ hsub (rowNwI hrow a l)⟩
    | false =>
      rw [if_neg (by decide)] at hq
      obtain ⟨hq1, hq2⟩ := hq
      have he := fin (acc ++ [c]) ⟨acc, [], by rw [hq1]; simp, rfl, hq2, by simp⟩
      simp [hn, hH, e0, e1, e5, e6, e7, l1, hlt]
      refine newK_of fun z hz => ?_
      simp
      refine row_app1 hrow ((Sub.refl Hs).upd hz) c (by omega) fun r H' hr hs' => ?_
      have hl' : (acc ++ [c]).length = acc.length + 1 := by simp
      simp
      refine ⟨_, hs', ?_⟩
      rw [← he] at hk
      rw [← hl']
      exact hk _ _ ((Sub.refl H).upd hr) (rowNwI (Row.mk hr) a l)
/-- The first item of a surface. -/
def itmF (s : Int) : List It → Nat → Int
  | [], _ => -1
  | i :: L, n => if i.sf = s then n else itmF s L (n + 1)
theorem itm_cons (s : Int) (i : It) (L : List It) (n : Nat) : itmF s (i :: L) n = if i.sf = s then (n : Int) else itmF s L (n + 1) := rfl
theorem itm_find (s : Int) : ∀ (L : List It) (n : Nat), (itmF s L n = -1 ∧ findS L s = none) ∨ ∃ k, ∃ h : k < L.length, itmF s L n = (n + k : Nat) ∧ findS L s = some L[k]
  | [], n => .inl ⟨rfl, rfl⟩
  | i :: L, n => by
    unfold itmF
    by_cases h : i.sf = s
    · refine .inr ⟨0, by simp, by rw [if_pos h]; simp, ?_⟩
      simp [findS, h]
    · rw [if_neg h]
      have e : findS (i :: L) s = findS L s := by simp [findS, h]
      rw [e]
      rcases itm_find s L (n + 1) with ⟨h1, h2⟩ | ⟨k, h0, h1, h2⟩
      · exact .inl ⟨h1, h2⟩
      · exact .inr ⟨k + 1, by simp; omega, by rw [h1]; congr 1; omega, by rw [h2]; simp⟩
theorem c111 {H : AH} {K : AV → AH → Prop} {a : AV} {L : List It} (ha : ItsR H a L) (hl : L.length ≤ 1000000) (x : Int) (hk : K (vi (itmF x L 0)) H) : @AC Tryz.prog 111 [a, vi x] H ⟨K⟩ := by
  have l1 := fun k => Rw.lenK ha.1 (k := k)
  refine AC_of (.forget ?_)
  refine call_c follows cf111_ok (by simp) ?_
  simp
  refine wpc_loop (fun s => ∃ i : Nat, s.n = 20 ∧ s.H = H ∧ s.t 0 = a ∧ s.t 1 = vi x ∧ s.t 5 = vi i ∧ i ≤ L.length ∧ itmF x L 0 = itmF x (L.drop i) i) (fun s => L.length - slotN (s.t 5)) ?_ ?_
  · exact FgK.same ⟨0, by simp⟩
  rintro s ⟨i, hn, hH, e0, e1, e5, hi, hc⟩
  by_cases hlt : i < L.length
  · have wr := IntWalk.i64_in ((i : Int) + 1) (by omega)
    obtain ⟨p, p1, p2, pf⟩ := fat itc_l ha.1 hlt
    obtain ⟨q, q1, q2⟩ := pf 0 (vi L[i].sf) rfl
    rw [List.drop_eq_getElem_cons hlt] at hc
    rw [itm_cons] at hc
    generalize L[i] = it at *
    by_cases he : it.sf = x
    · rw [if_pos he] at hc
      rw [hc] at hk
      simp [hn, hH, e0, e1, e5, l1, hlt, p1, q1, q2 _ (Sub.refl _), he]
      exact ⟨H, Sub.refl _, hk⟩
    · rw [if_neg he] at hc
      simp [hn, hH, e0, e1, e5, l1, hlt, p1, q1, q2 _ (Sub.refl _), he, wr]
      exact FgK.same ⟨⟨i + 1, by simp, by simp, by simp, by simp, by simp, by omega, hc⟩, by simp [e5]; omega⟩
  · rw [List.drop_eq_nil_of_le (by omega)] at hc
    have hc : itmF x L 0 = -1 := hc
    rw [hc] at hk
    simp [hn, hH, e0, e1, e5, l1, hlt]
    exact ⟨H, Sub.refl _, hk⟩
theorem c75 {H : AH} {K : AV → AH → Prop} {a : AV} {l : List Dl} (ha : Rw H a (flat dlc l) l.length 9) (hl : l.length ≤ 1000)
    (hk : ∀ V out, Sub H V → OutN H V out (grpL l) → K out V) : @AC Tryz.prog 75 [a] H ⟨K⟩ := by
  have la := fun k => Rw.lenK ha (k := k)
  have hgl := grp_len l
  refine AC_of (.forget ?_)
  refine call_c follows cf75_ok (by simp) ?_
  simp
  refine wpc_loop (fun s => ∃ (i : Nat) (out : AV) (acc : List Dl) (Hs : AH), s.n = 66 ∧ s.H = Hs ∧ s.t 0 = a ∧ s.t 3 = out ∧ s.t 4 = vi i ∧ i ≤ l.length ∧ grpL l = acc ++ grpL (l.drop i) ∧ Row H Hs out (flat dlc acc) acc.length 9)
    (fun s => l.length - slotN (s.t 4)) ?_ ?_
  · exact FgK.same ⟨0, vnil, [], H, by simp, by simp, by simp, by simp, by simp, by omega, by simp, Row.nil H 9⟩
  rintro s ⟨i, out, acc, Hs, hn, hH, e0, e3, e4, hi, hg, hrow⟩
  have hsub := hrow.sub
  have oo := Row.one hrow
  by_cases hlt : i < l.length
  · have wr := IntWalk.i64_in ((i : Int) + 1) (by omega)
    have wl := IntWalk.i64_in ((l.length : Int) - 1) (by omega)
    obtain ⟨p, hp1, hp2⟩ := fsee dlc_l (ha.sub hsub) hlt
    have hd0 := List.drop_eq_getElem_cons hlt
    have hacc : acc.length ≤ 2000 := by
      have := congrArg List.length hg
      simp at this; omega
    rw [hd0] at hg
    generalize hdd : l[i] = d at *
    have hdl : (dlc d).length = 9 := rfl
    have hdt : (dlc d).take 9 = dlc d := rfl
    have hda : (dlc d).all AV.one = true := rfl
    simp [hn, hH, e0, e3, e4, la, hlt, hp1, hp2 _ (Sub.refl _)]
    refine newK_of fun z hz => ?_
    have hsz : Sub Hs (upd Hs z (.cells (dlc d))) := (Sub.refl Hs).upd hz
    have hnw : ∀ k : Nat → List AV → Prop, @NEWS (upd Hs z (.cells (dlc d))) (AV.sl z 0 1 9 true) 9 ⟨k⟩ = k 1 (dlc d) := by
      intro k
      simp [hdl, hdt]
    generalize AV.sl z 0 1 9 true = x9 at *
    generalize upd Hs z (.cells (dlc d)) = H2 at *
    simp [hnw]
    have hfl := flat_len dlc_l acc
    refine hrow.app hsz (by decide) hda hfl (by omega) fun r H3 hr hs3 => ?_
    rw [flat_snoc] at hs3
    have hal : (acc ++ [d]).length = acc.length + 1 := by simp
    have hrow3 : Row H (upd H r (.cells (flat dlc (acc ++ [d])))) (.sl r 0 (acc ++ [d]).length 9 false) (flat dlc (acc ++ [d])) (acc ++ [d]).length 9 := Row.mk hr
    rw [← hal]
    generalize hx1 : AV.sl r 0 (acc ++ [d]).length 9 false = x1 at *
    have ox1 : x1.one = true := by rw [← hx1]; rfl
    have hda' : (dlc (frD d)).all AV.one = true := rfl
    have hsH3 : Sub H H3 := hrow3.sub.trans hs3
    clear hp1 hp2
    obtain ⟨p, hp1, hp2, pf⟩ := fat dlc_l (ha.sub hsH3) hlt
    rw [hdd] at hp2 pf
    obtain ⟨q0, u0, v0⟩ := pf 0 (vi d.cl) rfl
    obtain ⟨q1, u1, v1⟩ := pf 1 (vi d.sf) rfl
    have w0 := v0 _ (Sub.refl _)
    have w1 := v1 _ (Sub.refl _)
    have hfl3 := flat_len dlc_l (acc ++ [d])
    have fdc : [vi d.cl, vi d.sf, vi 6, vi 0, vi 0, vi 0, vi 0, vi 0, vu 0] = dlc (frD d) := rfl
    have hfl' : (dlc (frD d)).length = 9 := rfl
    have hft' : (dlc (frD d)).take 9 = dlc (frD d) := rfl
    have hal2 : (acc ++ [d] ++ [frD d]).length = (acc ++ [d]).length + 1 := by simp
    by_cases hend : i + 1 = l.length
    case' pos =>
      have hend' : (i : Int) = (l.length : Int) - 1 := by omega
      have hgn : grpL l = (acc ++ [d] ++ [frD d]) ++ grpL (l.drop (i + 1)) := by
        rw [hg, List.drop_eq_nil_of_le (by omega), grpL_last]
        simp [grpL]
      simp [wl, la, hend']
      rw [← hend']
      simp [hp1, u0, w0, u1, w1]
    case' neg =>
      have hend' : ¬ (i : Int) = (l.length : Int) - 1 := by omega
      have hlt1 : i + 1 < l.length := by omega
      obtain ⟨p', hq1, hq2, qf⟩ := fat dlc_l (ha.sub hsH3) hlt1
      have hd1 := List.drop_eq_getElem_cons hlt1
      generalize hee : l[i + 1] = e at *
      obtain ⟨q2, u2, v2⟩ := qf 0 (vi e.cl) rfl
      obtain ⟨q3, u3, v3⟩ := qf 1 (vi e.sf) rfl
      have hq1' : ∀ k : AV → Prop, @iadSK 9 a (vi ((i : Int) + 1)) ⟨k⟩ = k p' := fun k => by
        rw [show (i : Int) + 1 = ((i + 1 : Nat) : Int) by omega]
        exact hq1 k
      have w2 := v2 _ (Sub.refl _)
      have w3 := v3 _ (Sub.refl _)
      by_cases hs1 : e.sf = d.sf
      case' pos =>
        by_cases hs2 : e.cl = d.cl
        case pos =>
          have hgn : grpL l = (acc ++ [d]) ++ grpL (l.drop (i + 1)) := by
            rw [hg, hd1, grpL_same ⟨hs2.symm, hs1.symm⟩, List.append_assoc]
            rfl
          simp [wl, wr, la, hend', hp1, hq1', u0, w0, u1, w1, u2, w2, u3, w3, hs1, hs2]
          exact FgK.of _ hs3 ⟨⟨i + 1, x1, acc ++ [d], _, by simp, rfl, by simp, by simp, by simp, by omega, hgn, hrow3⟩, by simp [e4]; omega⟩
        have hgn : grpL l = (acc ++ [d] ++ [frD d]) ++ grpL (l.drop (i + 1)) := by
          rw [hg, hd1, grpL_diff (fun h => hs2 h.1.symm), List.append_assoc, List.append_assoc]
          rfl
        simp [wl, wr, la, hend', hp1, hq1', u0, w0, u1, w1, u2, w2, u3, w3, hs1, hs2]
      case' neg =>
        have hgn : grpL l = (acc ++ [d] ++ [frD d]) ++ grpL (l.drop (i + 1)) := by
          rw [hg, hd1, grpL_diff (fun h => hs1 h.2.symm), List.append_assoc, List.append_assoc]
          rfl
        simp [wl, wr, la, hend', hp1, hq1', u0, w0, u1, w1, u3, w3, hs1]
    all_goals
      refine newK_of fun y hy => ?_
      rw [fdc]
      have hsq2 : Sub H3 (upd H3 y (.cells (dlc (frD d)))) := (Sub.refl H3).upd hy
      have hnw2 : ∀ k : Nat → List AV → Prop, @NEWS (upd H3 y (.cells (dlc (frD d)))) (AV.sl y 0 1 9 true) 9 ⟨k⟩ = k 1 (dlc (frD d)) := by
        intro k
        simp [hfl', hft']
      generalize AV.sl y 0 1 9 true = x9 at *
      generalize upd H3 y (.cells (dlc (frD d))) = H4 at *
      simp [hnw2]
      refine Row.app (m := 1) (bytes := 72) hrow3 (hs3.trans hsq2) (by decide) hda' hfl3 (by omega) fun r5 H5 hr5 hs5 => ?_
      rw [flat_snoc] at hs5
      simp [wr]
      refine FgK.of _ hs5 ⟨⟨i + 1, .sl r5 0 ((acc ++ [d]).length + 1) 9 false, acc ++ [d] ++ [frD d], _, by simp, rfl, by simp, by simp, by simp, by omega, hgn, ?_⟩, by simp [e4]; omega⟩
      rw [hal2]
      exact Row.mk hr5
  · rw [List.drop_eq_nil_of_le (by omega)] at hg
    have hg : grpL l = acc := by rw [hg]; simp [grpL]
    subst hg
    simp [hn, hH, e0, e3, e4, la, hlt]
    exact ⟨Hs, Sub.refl _, hk _ _ hsub (rowOutN hrow)⟩
end Go.Proofs.YtmpncpamndhmcaaGreat
end
