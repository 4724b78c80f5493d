/-
  A call of the law's kind, and a run of calls. Conditions: as each lemma states them.
-/
import Derived.Test.YtmchflhambfhkaaG4
namespace Go.Proofs.Ytmchflhambfhkaa
open Go Go.Ab Go.RowKit
set_option linter.unusedSimpArgs false
set_option linter.unusedVariables false
set_option linter.unnecessarySimpa false

attribute [local simp] condK_true condK_false condK_not wpc_skip wpc_ret wpc_exit wpc_seq wpc_reg wpc_regD testA_bool wpc_cond wpc_block thenA_normal thenA_ret thenA_exit blockA_normal blockA_ret blockA_exit blockA_other endA_normal endA_ret ev_tmp' ev_const ev_func ev_global cv_int cv_bool cv_string cv_pointer cv_slice cv_agg put_some put_none wH_s setE_apply less_eq env_cons env_nil upd_apply del_apply startA_eq cells_ag cells_sl one_sl cells_vs one_vs cells_ep one_ep cells_fn one_fn cells_int one_int cells_bool one_bool cells_string one_string cells_pointer one_pointer cells_slice one_slice cells_map one_map cells_agg resK_one resK_nil resK_two rvK_t rvK_c rvsK_nil rvsK_cons iseq_nil iseq_cons gdA_true gdA_false gdA_undef istep_free istep_guard istepV_free istepV_guard dseq_nil dseq_pu dseq_rd dseq_ef chkAll_nil chkAll_cons andK_true pickK_true pickK_false pickK_tb pickK_fb bin2K_pl eqbK_eq eqbK_ne eqpK_eq eqpK_ne un1K_pl convK_int fillK_some fillA_cons fillA_nil cellsK_some needK_true needK_ok seeK_ep seeK_ptr oneK_agg oneK_one nilcK_ptr nilcK_ep fadrK_ptr fadrK_ep fldK_ag iadAK_ptr iadAK_ep iadSK_sl iadSK_vs extK_0 extK_1 extK_2 extK_3 lenK_pl lenK_sl lenK_vs lensK_pl boxK_some minmax1K_int storeK_ptr callvK_fn callvK_pl newsK_nil newsK_vs newsK_sl appK_nil appK_nil0 appK_sl appK_vs bnd1K_int bndK_none bndK_some slsK_vs slsK_nil slsK_sl0 slsK_sl slstrK_pl boolK_some eqsK_ag iop_eqs iop_sls iop_slstr iop_mov iop_pick iop_bin iop_eqb iop_eqp iop_un iop_conv iop_build iop_load iop_nilc iop_fadr iop_fld iop_iadA iop_iadS iop_ext iop_mkf iop_len iop_lens iop_minmax iop_al iop_box iop_bsl iop_store iop_call iop_callv iop_app BIN_add BIN_sub BIN_mul BIN_and BIN_or BIN_xor BIN_andNot BIN_eql BIN_neq BIN_lss BIN_leq BIN_gtr BIN_geq BIN_quo BIN_rem BIN_shl BIN_shr BIN_sadd BIN_seql BIN_sneq BIN_slss BIN_sleq BIN_sgtr BIN_sgeq UN_neg UN_xor UN_not MM_nil MM_cons partsA argsA ptrA lessL eqL min2I
attribute [local simp] slotN_int slotP_int


/-- A call: its kind, client, surface, parent. -/
structure Opn where
  k : Int
  c : Int
  s : Int
  p : Int
def opc (x : Opn) : List AV := [vi x.k, vi x.c, vi x.s, vi x.p]

structure Res where
  e : Int
  n : Int
  ok : Bool
  l : List (Int × Int)

def doM (m : M) (x : Opn) : M × Res :=
  if x.k = 1 then ((implM m x.c x.s).1, ⟨(implM m x.c x.s).2, 0, false, []⟩)
  else if x.k = 2 then ((releaseM m).1, ⟨0, (releaseM m).2.1, (releaseM m).2.2, []⟩)
  else if x.k = 3 then ((popupM m x.c x.s x.p).1, ⟨(popupM m x.c x.s x.p).2, 0, false, []⟩)
  else if x.k = 4 then ((dismissM m x.s).1, ⟨0, 0, false, (dismissM m x.s).2⟩)
  else if x.k = 5 then ((clickM m x.c x.s).1, ⟨0, 0, false, (clickM m x.c x.s).2⟩)
  else if x.k = 6 then ((dragM m x.c x.s).1, ⟨(dragM m x.c x.s).2, 0, false, []⟩)
  else ((endM m).1, ⟨0, 0, (endM m).2, []⟩)

theorem LRow.upd {H : AH} {l : List (Int × Int)} {a : AV} {G : Nat → Prop} {b : Nat} {o : AO} (h : LRow H l a G) (hb : ¬ G b) : LRow (upd H b o) l a G := by
  rcases h with h | ⟨r, x, g1, g2, g3⟩
  · exact .inl h
  · exact .inr ⟨r, x, g1, by simp only [upd_apply]; rw [if_neg (by rintro rfl; exact hb g3), g2], g3⟩

theorem do_wrap {H H2 : AH} {F F' : Nat → Prop} {i : Nat} {m' : M} {bx bo : Nat} {ox oo oo' : AO} (hF : ∀ j, F j → H j ≠ none) (hbx : H bx = none) (hbo : bo ≠ bx) (hbo2 : H bo = none)
    (h2 : St H2 F' i m') (t : Stp F (upd (upd H bx ox) bo oo) F' H2) : H2 bo = some oo ∧ St (upd H2 bo oo') F' i m' ∧ Stp F H F' (upd H2 bo oo') ∧ ¬ F' bo := by
  have f1 : ¬ F bo := fun h => hF _ h hbo2
  have f2 : ¬ F' bo := fun h => by
    rcases t.1 _ h with h | h
    · exact f1 h
    · simp at h
  refine ⟨?_, h2.keep fun j hj => ?_, ⟨fun j hj => ?_, fun j hj hn => ?_⟩, f2⟩
  · rw [t.2 bo f1 (by simp)]; simp
  · simp only [upd_apply]; rw [if_neg (by rintro rfl; exact f2 hj)]
  · rcases t.1 j hj with h | h
    · exact .inl h
    · exact .inr (upd_none.1 (upd_none.1 h).2).2
  · have n1 : j ≠ bx := by rintro rfl; exact hn hbx
    have n2 : j ≠ bo := by rintro rfl; exact hn hbo2
    simp only [upd_apply]
    rw [if_neg n2, t.2 j hj (by simp [n1, n2, hn])]
    simp [n1, n2]

def PostR (H : AH) (F : Nat → Prop) (i : Nat) (r : M × Res) (K : AV → AH → Prop) : Prop :=
  ∀ H' F' a, St H' F' i r.1 → Stp F H F' H' → LRow H' r.2.l a (fun k => ¬ F' k ∧ H k = none) → K (.ag [vi r.2.e, vi r.2.n, vb r.2.ok, a]) H'

theorem c15 {H : AH} {F : Nat → Prop} {i : Nat} {m : M} (h : St H F i m) (hl : m.ch.length < 100) (x : Opn) {K : AV → AH → Prop} (hk : PostR H F i (doM m x) K) : ACall Try.prog 15 [ptrA i, .ag (opc x)] H K := by
  refine call_c follows cf15_ok (by simp) ?_
  simp [opc]
  refine newK_of fun bx hbx => ?_
  simp
  refine newK_of fun bo hbo => ?_
  obtain ⟨n1, hbo⟩ := upd_none.1 hbo
  have n2 := Ne.symm n1
  have h1 : ∀ ox, St (upd (upd H bx ox) bo (.cells [vi 0, vi 0, vb false, .pl (.slice none 0 0)])) F i m := fun ox => h.keep fun j hj => by
    have := h.own j hj
    have n3 : j ≠ bx := by rintro rfl; exact this hbx
    have n4 : j ≠ bo := by rintro rfl; exact this hbo
    simp [n3, n4]
  unfold doM at hk
  simp [n1, n2]
  by_cases e1 : x.k = 1
  · rw [if_pos e1] at hk
    simp [e1, n1, n2]
    refine c26 (h1 _) _ _ fun H2 F2 h2 t => ?_
    obtain ⟨g1, g2, g3, g4⟩ := do_wrap (oo' := .cells [vi (implM m x.c x.s).2, vi 0, vb false, .pl (.slice none 0 0)]) h.own hbx n1 hbo h2 t
    simp [g1]
    exact hk _ _ _ g2 g3 (.inl ⟨rfl, rfl⟩)
  rw [if_neg e1] at hk
  by_cases e2 : x.k = 2
  · rw [if_pos e2] at hk
    simp [e2, n1, n2]
    refine c25 (h1 _) fun H2 F2 h2 t => ?_
    obtain ⟨g1, g2, g3, g4⟩ := do_wrap (oo' := .cells [vi 0, vi (releaseM m).2.1, vb (releaseM m).2.2, .pl (.slice none 0 0)]) h.own hbx n1 hbo h2 t
    simp [g1]
    exact hk _ _ _ g2 g3 (.inl ⟨rfl, rfl⟩)
  rw [if_neg e2] at hk
  by_cases e3 : x.k = 3
  · rw [if_pos e3] at hk
    simp [e3, n1, n2]
    refine c21 (h1 _) hl _ _ _ fun H2 F2 h2 t => ?_
    obtain ⟨g1, g2, g3, g4⟩ := do_wrap (oo' := .cells [vi (popupM m x.c x.s x.p).2, vi 0, vb false, .pl (.slice none 0 0)]) h.own hbx n1 hbo h2 t
    simp [g1]
    exact hk _ _ _ g2 g3 (.inl ⟨rfl, rfl⟩)
  rw [if_neg e3] at hk
  have lr : ∀ {l : List (Int × Int)} {a : AV} {H2 : AH} {F2 : Nat → Prop} {o o1 o2 : AO}, LRow H2 l a (fun k => ¬ F2 k ∧ upd (upd H bx o1) bo o2 k = none) → LRow (upd H2 bo o) l a (fun k => ¬ F2 k ∧ H k = none) := by
    intro l a H2 F2 o o1 o2 hl
    rcases hl with hl | ⟨r, x, q1, q2, q3, q4⟩
    · exact .inl hl
    · obtain ⟨q5, q6⟩ := upd_none.1 q4
      exact .inr ⟨r, x, q1, by simp [q5, q2], q3, (upd_none.1 q6).2⟩
  have one : ∀ {l : List (Int × Int)} {a : AV} {H2 : AH} {G : Nat → Prop}, LRow H2 l a G → a.cells = some [a] ∧ a.one = true := by
    intro l a H2 G hl
    rcases hl with ⟨_, rfl⟩ | ⟨r, x, rfl, _, _⟩ <;> exact ⟨rfl, rfl⟩
  by_cases e4 : x.k = 4
  · rw [if_pos e4] at hk
    simp [e4, n1, n2]
    refine c23 (h1 _) hl _ fun H2 F2 a h2 t hr => ?_
    obtain ⟨g1, g2, g3, g4⟩ := do_wrap (oo' := .cells [vi 0, vi 0, vb false, a]) h.own hbx n1 hbo h2 t
    obtain ⟨q1, q2⟩ := one hr
    simp [g1, q1, q2]
    exact hk _ _ _ g2 g3 (lr hr)
  rw [if_neg e4] at hk
  by_cases e5 : x.k = 5
  · rw [if_pos e5] at hk
    simp [e5, n1, n2]
    refine c22 (h1 _) hl _ _ fun H2 F2 a h2 t hr => ?_
    obtain ⟨g1, g2, g3, g4⟩ := do_wrap (oo' := .cells [vi 0, vi 0, vb false, a]) h.own hbx n1 hbo h2 t
    obtain ⟨q1, q2⟩ := one hr
    simp [g1, q1, q2]
    exact hk _ _ _ g2 g3 (lr hr)
  rw [if_neg e5] at hk
  by_cases e6 : x.k = 6
  · rw [if_pos e6] at hk
    simp [e6, n1, n2]
    refine c27 (h1 _) _ _ fun H2 F2 h2 t => ?_
    obtain ⟨g1, g2, g3, g4⟩ := do_wrap (oo' := .cells [vi (dragM m x.c x.s).2, vi 0, vb false, .pl (.slice none 0 0)]) h.own hbx n1 hbo h2 t
    simp [g1]
    exact hk _ _ _ g2 g3 (.inl ⟨rfl, rfl⟩)
  rw [if_neg e6] at hk
  simp [e1, e2, e3, e4, e5, e6, n1, n2]
  refine c24 (h1 _) fun H2 F2 h2 t => ?_
  obtain ⟨g1, g2, g3, g4⟩ := do_wrap (oo' := .cells [vi 0, vi 0, vb (endM m).2, .pl (.slice none 0 0)]) h.own hbx n1 hbo h2 t
  simp [g1]
  exact hk _ _ _ g2 g3 (.inl ⟨rfl, rfl⟩)
end Go.Proofs.Ytmchflhambfhkaa
