/-
  What the functions of the specification that keep the chain do. Conditions: as each lemma states them.
-/
import Derived.Test.YtmchflhambfhkaaG11
namespace Go.Proofs.Ytmchflhambfhkaa
open Go Go.Ab Go.RowKit
set_option linter.unusedSimpArgs false
set_option linter.unusedVariables false
set_option linter.unnecessarySimpa false

attribute [local simp] condK_true condK_false condK_not wpc_skip wpc_ret wpc_exit wpc_seq wpc_reg wpc_regD testA_bool wpc_cond wpc_block thenA_normal thenA_ret thenA_exit blockA_normal blockA_ret blockA_exit blockA_other endA_normal endA_ret ev_tmp' ev_const ev_func ev_global cv_int cv_bool cv_string cv_pointer cv_slice cv_agg put_some put_none wH_s setE_apply less_eq env_cons env_nil upd_apply del_apply startA_eq cells_ag cells_sl one_sl cells_vs one_vs cells_ep one_ep cells_fn one_fn cells_int one_int cells_bool one_bool cells_string one_string cells_pointer one_pointer cells_slice one_slice cells_map one_map cells_agg resK_one resK_nil resK_two rvK_t rvK_c rvsK_nil rvsK_cons iseq_nil iseq_cons gdA_true gdA_false gdA_undef istep_free istep_guard istepV_free istepV_guard dseq_nil dseq_pu dseq_rd dseq_ef chkAll_nil chkAll_cons andK_true pickK_true pickK_false pickK_tb pickK_fb bin2K_pl eqbK_eq eqbK_ne eqpK_eq eqpK_ne un1K_pl convK_int fillK_some fillA_cons fillA_nil cellsK_some needK_true needK_ok seeK_ep seeK_ptr oneK_agg oneK_one nilcK_ptr nilcK_ep fadrK_ptr fadrK_ep fldK_ag iadAK_ptr iadAK_ep iadSK_sl iadSK_vs extK_0 extK_1 extK_2 extK_3 lenK_pl lenK_sl lenK_vs lensK_pl boxK_some minmax1K_int storeK_ptr callvK_fn callvK_pl newsK_nil newsK_vs newsK_sl appK_nil appK_nil0 appK_sl appK_vs bnd1K_int bndK_none bndK_some slsK_vs slsK_nil slsK_sl0 slsK_sl slstrK_pl boolK_some eqsK_ag iop_eqs iop_sls iop_slstr iop_mov iop_pick iop_bin iop_eqb iop_eqp iop_un iop_conv iop_build iop_load iop_nilc iop_fadr iop_fld iop_iadA iop_iadS iop_ext iop_mkf iop_len iop_lens iop_minmax iop_al iop_box iop_bsl iop_store iop_call iop_callv iop_app BIN_add BIN_sub BIN_mul BIN_and BIN_or BIN_xor BIN_andNot BIN_eql BIN_neq BIN_lss BIN_leq BIN_gtr BIN_geq BIN_quo BIN_rem BIN_shl BIN_shr BIN_sadd BIN_seql BIN_sneq BIN_slss BIN_sleq BIN_sgtr BIN_sgeq UN_neg UN_xor UN_not MM_nil MM_cons partsA argsA ptrA lessL eqL min2I
attribute [local simp] slotN_int slotP_int


/-- Only new blocks. -/
def Ext (H H' : AH) : Prop := ∀ j, H j ≠ none → H' j = H j
theorem Ext.refl (H : AH) : Ext H H := fun _ _ => rfl
theorem Ext.trans {H H1 H2 : AH} (h : Ext H H1) (k : Ext H1 H2) : Ext H H2 := fun j hj => by rw [k j (by rw [h j hj]; exact hj), h j hj]
theorem Ext.upd {H H1 : AH} {b : Nat} {o : AO} (h : Ext H H1) (hb : H b = none) : Ext H (upd H1 b o) := fun j hj => by
  simp only [upd_apply]; rw [if_neg (by rintro rfl; exact hj hb), h j hj]
theorem Ext.del {H H1 : AH} {b : Nat} (h : Ext H H1) (hb : H b = none) : Ext H (del H1 b) := fun j hj => by
  simp only [del_apply]; rw [if_neg (by rintro rfl; exact hj hb), h j hj]
theorem Row.ext {H H' : AH} {l : List Int} {a : AV} {G : Nat → Prop} (h : Row H l a G) (he : Ext H H') : Row H' l a (fun k => G k ∨ H k = none) := by
  rcases h with h | ⟨b, x, rest, h1, h2, h3⟩
  · exact .inl h
  · exact .inr ⟨b, x, rest, h1, by rw [he b (by rw [h2]; simp), h2], .inl h3⟩
theorem LRow.ext {H H' : AH} {l : List (Int × Int)} {a : AV} {G : Nat → Prop} (h : LRow H l a G) (he : Ext H H') : LRow H' l a G := by
  rcases h with h | ⟨b, x, h1, h2, h3⟩
  · exact .inl h
  · exact .inr ⟨b, x, h1, by rw [he b (by rw [h2]; simp), h2], h3⟩
theorem Row.one {H : AH} {l : List Int} {a : AV} {G : Nat → Prop} (h : Row H l a G) : a.cells = some [a] ∧ a.one = true := by
  rcases h with ⟨_, rfl⟩ | ⟨r, x, _, rfl, _, _⟩ <;> exact ⟨rfl, rfl⟩
theorem LRow.one {H : AH} {l : List (Int × Int)} {a : AV} {G : Nat → Prop} (h : LRow H l a G) : a.cells = some [a] ∧ a.one = true := by
  rcases h with ⟨_, rfl⟩ | ⟨r, x, rfl, _, _⟩ <;> exact ⟨rfl, rfl⟩

/-- The specification's stack. -/
def rcs (m : M) (a : AV) : List AV := [vb true, vi m.b0, vi m.b1, vb (!decide (m.d0 = 0)), vi m.d0, vi m.d1, vi m.owner, a]
/-- What a function of the specification leaves. -/
def RP (H : AH) (G : Nat → Prop) (m : M) (k : AV → AH → Prop) : Prop := ∀ H' a, Ext H H' → Row H' m.ch a (fun k => G k ∨ H k = none) → k (.ag (rcs m a)) H'

theorem c12 {H : AH} {G : Nat → Prop} {K : AV → AH → Prop} (hk : RP H G m0 K) : ACall Try.prog 12 [] H K := by
  refine call_c follows cf12_ok (by simp) ?_
  simp
  refine newK_of fun b hb => ?_
  simp
  exact hk _ (.pl (.slice none 0 0)) ((Ext.refl H |>.upd hb).upd hb) (.inl ⟨rfl, rfl⟩)

/-- The blocks of an argument and of a result. -/
theorem exts {H : AH} {p q : Nat} (hp : H p = none) (hq : H q = none) :
    (∀ o1 o2, Ext H (upd (upd H p o1) q o2)) ∧ (∀ o1 o2 o3, Ext H (upd (upd (upd H p o1) q o2) q o3)) ∧ (∀ o1 o2 o3 o4, Ext H (upd (upd (upd (upd H p o1) q o2) p o3) q o4)) ∧
    (∀ o1 o2 o3 o4 o5, Ext H (upd (upd (upd (upd (upd H p o1) q o2) p o3) p o4) q o5)) ∧ (∀ o1 o2 o3 o4 o5 o6, Ext H (upd (upd (upd (upd (upd (upd H p o1) q o2) p o3) p o4) p o5) q o6)) :=
  ⟨fun _ _ => ((Ext.refl H).upd hp).upd hq, fun _ _ _ => (((Ext.refl H).upd hp).upd hq).upd hq, fun _ _ _ _ => ((((Ext.refl H).upd hp).upd hq).upd hp).upd hq,
    fun _ _ _ _ _ => (((((Ext.refl H).upd hp).upd hq).upd hp).upd hp).upd hq, fun _ _ _ _ _ _ => ((((((Ext.refl H).upd hp).upd hq).upd hp).upd hp).upd hp).upd hq⟩

theorem c28 {H : AH} {m : M} {a : AV} {G : Nat → Prop} (hI : Inv m) (hr : Row H m.ch a G) (c s : Int) {K : AV → AH → Prop} (hk : RP H G (implM m c s).1 fun v H' => K (.tp [v, vi (implM m c s).2]) H') :
    ACall Try.prog 28 [.ag (rcs m a), vi c, vi s] H K := by
  refine call_c follows cf28_ok (by simp) ?_
  obtain ⟨o1, o2⟩ := hr.one
  simp [rcs]
  refine newK_of fun p hp => ?_
  simp
  refine newK_of fun q hq => ?_
  obtain ⟨n1, hq⟩ := upd_none.1 hq
  have n2 := Ne.symm n1
  obtain ⟨x1, x2, x3, x4, x5⟩ := exts hp hq
  unfold implM at hk
  have hd := hI.b
  have done : ∀ (e : Int) (H' : AH), Ext H H' → RP H G m (fun v H' => K (.tp [v, vi e]) H') → K (.tp [.ag (rcs m a), vi e]) H' := fun e H' he h => h H' a he (hr.ext he)
  by_cases e1 : c < 1
  · rw [if_pos (.inl e1)] at hk
    simp [*]
    exact done _ _ (x2 _ _ _) hk
  by_cases e2 : s < 1
  · rw [if_pos (.inr e2)] at hk
    simp [*]
    exact done _ _ (x2 _ _ _) hk
  rw [if_neg (by omega)] at hk
  by_cases e3 : m.b0 = 0
  · have e4 : m.b1 = 0 := by omega
    rw [if_neg (by simp [e3])] at hk
    simp [*]
    exact hk _ a (x4 _ _ _ _ _) (hr.ext (x4 _ _ _ _ _))
  · have e4 : ¬ m.b1 = 0 := by omega
    rw [if_pos e3] at hk
    simp [*]
    exact done _ _ (x2 _ _ _) hk

theorem c33 {H : AH} {m : M} {a : AV} {G : Nat → Prop} (hI : Inv m) (hr : Row H m.ch a G) (c s : Int) {K : AV → AH → Prop} (hk : RP H G (dragM m c s).1 fun v H' => K (.tp [v, vi (dragM m c s).2]) H') :
    ACall Try.prog 33 [.ag (rcs m a), vi c, vi s] H K := by
  refine call_c follows cf33_ok (by simp) ?_
  obtain ⟨o1, o2⟩ := hr.one
  simp [rcs]
  refine newK_of fun p hp => ?_
  simp
  refine newK_of fun q hq => ?_
  obtain ⟨n1, hq⟩ := upd_none.1 hq
  have n2 := Ne.symm n1
  obtain ⟨x1, x2, x3, x4, x5⟩ := exts hp hq
  unfold dragM at hk
  have hd := hI.d
  have done : ∀ (e : Int) (H' : AH), Ext H H' → RP H G m (fun v H' => K (.tp [v, vi e]) H') → K (.tp [.ag (rcs m a), vi e]) H' := fun e H' he h => h H' a he (hr.ext he)
  by_cases e1 : c < 1
  · rw [if_pos (.inl e1)] at hk
    simp [*]
    exact done _ _ (x2 _ _ _) hk
  by_cases e2 : s < 0
  · rw [if_pos (.inr e2)] at hk
    simp [*]
    exact done _ _ (x2 _ _ _) hk
  rw [if_neg (by omega)] at hk
  by_cases e3 : m.d0 = 0
  · rw [if_neg (by simp [e3])] at hk
    have e5 : ¬ c = 0 := by omega
    have hk' := fun H' he => hk H' a he (hr.ext he)
    simp [rcs, e5] at hk'
    simp [*]
  · rw [if_pos e3] at hk
    have hk' := fun H' he => done 14 H' he hk
    simp [rcs, e3] at hk'
    simp [*]

theorem c29 {H : AH} {m : M} {a : AV} {G : Nat → Prop} (hI : Inv m) (hr : Row H m.ch a G) {K : AV → AH → Prop} (hk : RP H G (releaseM m).1 fun v H' => K (.tp [v, vi (releaseM m).2.1, vb (releaseM m).2.2]) H') :
    ACall Try.prog 29 [.ag (rcs m a)] H K := by
  refine call_c follows cf29_ok (by simp) ?_
  obtain ⟨o1, o2⟩ := hr.one
  simp [rcs]
  refine newK_of fun p hp => ?_
  simp
  refine newK_of fun q hq => ?_
  obtain ⟨n1, hq⟩ := upd_none.1 hq
  have n2 := Ne.symm n1
  obtain ⟨x1, x2, x3, x4, x5⟩ := exts hp hq
  have hd := hI.b
  have hk' := fun H' he => hk H' a he (by
    have := hr.ext (G := G) (H' := H') he
    unfold releaseM
    split <;> exact this)
  by_cases e3 : m.b0 = 0
  · have e4 : m.b1 = 0 := by omega
    simp [rcs, releaseM, e3, e4] at hk'
    simp [*]
  · have e4 : ¬ m.b1 = 0 := by omega
    simp [rcs, releaseM, e3, e4] at hk'
    simp [*]

theorem c34 {H : AH} {m : M} {a : AV} {G : Nat → Prop} (hI : Inv m) (hr : Row H m.ch a G) {K : AV → AH → Prop} (hk : RP H G (endM m).1 fun v H' => K (.tp [v, vb (endM m).2]) H') :
    ACall Try.prog 34 [.ag (rcs m a)] H K := by
  refine call_c follows cf34_ok (by simp) ?_
  obtain ⟨o1, o2⟩ := hr.one
  simp [rcs]
  refine newK_of fun p hp => ?_
  simp
  refine newK_of fun q hq => ?_
  obtain ⟨n1, hq⟩ := upd_none.1 hq
  have n2 := Ne.symm n1
  obtain ⟨x1, x2, x3, x4, x5⟩ := exts hp hq
  have hd := hI.d
  have hk' := fun H' he => hk H' a he (by
    have := hr.ext (G := G) (H' := H') he
    unfold endM
    split <;> exact this)
  by_cases e3 : m.d0 = 0
  · have e4 : m.d1 = 0 := by omega
    simp [rcs, endM, e3, e4] at hk'
    simp [*]
  · simp [rcs, endM, e3] at hk'
    simp [*]

theorem c17 {H : AH} {m : M} {a : AV} {G : Nat → Prop} (hI : Inv m) (hr : Row H m.ch a G) {K : AV → AH → Prop} (hk : ∀ H', Ext H H' → K (.tp [vi (topM m).1, vi (topM m).2.1, vi (topM m).2.2]) H') :
    ACall Try.prog 17 [.ag (rcs m a)] H K := by
  refine call_c follows cf17_ok (by simp) ?_
  obtain ⟨o1, o2⟩ := hr.one
  simp [rcs]
  refine newK_of fun p hp => ?_
  have he : ∀ o, Ext H (upd H p o) := fun o => (Ext.refl H).upd hp
  have hd := hI.d
  have hb := hI.b
  unfold topM at hk
  by_cases e1 : m.d0 = 0
  · by_cases e2 : m.b0 = 0
    · have e4 : m.b1 = 0 := by omega
      simp [e1, e2, e4] at hk ⊢
      refine hr.len ?_
      by_cases e5 : m.ch = []
      · simp [e5] at hk ⊢
        exact hk _ (he _)
      · have e6 : 0 < m.ch.length := List.length_pos_iff.2 e5
        have e6' : (0 : Int) < m.ch.length := by omega
        obtain ⟨b, x, rest, rfl, hb⟩ := hr.at e6
        have hpb : b ≠ p := by rintro rfl; rw [hp] at hb; cases hb
        have e7 : ((m.ch.length : Int) - 1).toNat = m.ch.length - 1 := by omega
        have e8 : m.ch[m.ch.length - 1]?.getD 0 = m.ch[m.ch.length - 1] := by rw [List.getElem?_eq_getElem (show m.ch.length - 1 < m.ch.length by omega)]; rfl
        have e9 := hI.len
        simp [e5, e8] at hk
        simp (disch := omega) [*, IntWalk.i64_in, cell_of]
        exact hk _ (he _)
    · have e4 : ¬ m.b1 = 0 := by omega
      simp [e1, e2, e4] at hk ⊢
      exact hk _ (he _)
  · simp [e1] at hk ⊢
    exact hk _ (he _)

theorem c19 {H : AH} {m : M} {a : AV} {G : Nat → Prop} (hI : Inv m) (hr : Row H m.ch a G) (c : Int) {K : AV → AH → Prop} (hk : ∀ H', Ext H H' → K (vb (allowsM m c)) H') :
    ACall Try.prog 19 [.ag (rcs m a), vi c] H K := by
  refine call_c follows cf19_ok (by simp) ?_
  obtain ⟨o1, o2⟩ := hr.one
  simp [rcs]
  refine newK_of fun p hp => ?_
  have he : ∀ o, Ext H (upd H p o) := fun o => (Ext.refl H).upd hp
  have hd := hI.d
  have hb := hI.b
  unfold allowsM topM at hk
  by_cases e0 : c < 1
  · simp [e0] at hk ⊢
    exact hk _ (he _)
  by_cases e1 : m.d0 = 0
  · by_cases e2 : m.b0 = 0
    · have e4 : m.b1 = 0 := by omega
      simp [e0, e1, e2, e4] at hk ⊢
      refine hr.len ?_
      by_cases e5 : m.ch = []
      · simp [e5] at hk ⊢
        exact hk _ (he _)
      · have e7' : ¬ ((m.ch.length : Int) = 0) := by simpa using e5
        simp [e5] at hk
        simp [e5, e7']
        exact hk _ (he _)
    · have e4 : ¬ m.b1 = 0 := by omega
      simp [e0, e1, e2, e4] at hk ⊢
      exact hk _ (he _)
  · simp [e0, e1] at hk ⊢
    exact hk _ (he _)
end Go.Proofs.Ytmchflhambfhkaa
