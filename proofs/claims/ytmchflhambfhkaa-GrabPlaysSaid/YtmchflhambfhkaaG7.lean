/-
  What holds of every stack that calls have made; build, which makes a list of calls; same, which compares two results. Conditions: as each lemma states them.
-/
import Derived.Test.YtmchflhambfhkaaG6
namespace Go.Proofs.Ytmchflhambfhkaa
open Go Go.Ab Go.RowKit
set_option linter.unusedSimpArgs false
set_option linter.unusedVariables false
set_option linter.unnecessarySimpa false

attribute [local simp] condK_true condK_false condK_not wpc_skip wpc_ret wpc_exit wpc_seq wpc_reg wpc_regD testA_bool wpc_cond wpc_block thenA_normal thenA_ret thenA_exit blockA_normal blockA_ret blockA_exit blockA_other endA_normal endA_ret ev_tmp' ev_const ev_func ev_global cv_int cv_bool cv_string cv_pointer cv_slice cv_agg put_some put_none wH_s setE_apply less_eq env_cons env_nil upd_apply del_apply startA_eq cells_ag cells_sl one_sl cells_vs one_vs cells_ep one_ep cells_fn one_fn cells_int one_int cells_bool one_bool cells_string one_string cells_pointer one_pointer cells_slice one_slice cells_map one_map cells_agg resK_one resK_nil resK_two rvK_t rvK_c rvsK_nil rvsK_cons iseq_nil iseq_cons gdA_true gdA_false gdA_undef istep_free istep_guard istepV_free istepV_guard dseq_nil dseq_pu dseq_rd dseq_ef chkAll_nil chkAll_cons andK_true pickK_true pickK_false pickK_tb pickK_fb bin2K_pl eqbK_eq eqbK_ne eqpK_eq eqpK_ne un1K_pl convK_int fillK_some fillA_cons fillA_nil cellsK_some needK_true needK_ok seeK_ep seeK_ptr oneK_agg oneK_one nilcK_ptr nilcK_ep fadrK_ptr fadrK_ep fldK_ag iadAK_ptr iadAK_ep iadSK_sl iadSK_vs extK_0 extK_1 extK_2 extK_3 lenK_pl lenK_sl lenK_vs lensK_pl boxK_some minmax1K_int storeK_ptr callvK_fn callvK_pl newsK_nil newsK_vs newsK_sl appK_nil appK_nil0 appK_sl appK_vs bnd1K_int bndK_none bndK_some slsK_vs slsK_nil slsK_sl0 slsK_sl slstrK_pl boolK_some eqsK_ag iop_eqs iop_sls iop_slstr iop_mov iop_pick iop_bin iop_eqb iop_eqp iop_un iop_conv iop_build iop_load iop_nilc iop_fadr iop_fld iop_iadA iop_iadS iop_ext iop_mkf iop_len iop_lens iop_minmax iop_al iop_box iop_bsl iop_store iop_call iop_callv iop_app BIN_add BIN_sub BIN_mul BIN_and BIN_or BIN_xor BIN_andNot BIN_eql BIN_neq BIN_lss BIN_leq BIN_gtr BIN_geq BIN_quo BIN_rem BIN_shl BIN_shr BIN_sadd BIN_seql BIN_sneq BIN_slss BIN_sleq BIN_sgtr BIN_sgeq UN_neg UN_xor UN_not MM_nil MM_cons partsA argsA ptrA lessL eqL min2I
attribute [local simp] slotN_int slotP_int


theorem fnd_neg (x : Int) : ∀ (l : List Int) (i : Nat), fnd x l i < 0 ↔ x ∉ l
  | [], i => by simp [fnd]
  | y :: l, i => by
    unfold fnd
    split
    · rename_i h; simp [h]
    · rename_i h
      rw [fnd_neg x l (i + 1)]
      simp [Ne.symm h, eq_comm (a := x) (b := y), h]

structure Inv (m : M) : Prop where
  len : m.ch.length ≤ 8
  b : (m.b0 = 0 ∧ m.b1 = 0) ∨ (1 ≤ m.b0 ∧ 1 ≤ m.b1)
  d : (m.d0 = 0 ∧ m.d1 = 0) ∨ (1 ≤ m.d0 ∧ 0 ≤ m.d1)
  o : m.ch ≠ [] → 1 ≤ m.owner
  nodup : m.ch.Nodup

def m0 : M := ⟨0, 0, 0, 0, 0, []⟩
theorem Inv.zero : Inv m0 := ⟨by simp [m0], .inl ⟨rfl, rfl⟩, .inl ⟨rfl, rfl⟩, fun h => absurd rfl h, by simp [m0]⟩

theorem Inv.impl {m : M} (h : Inv m) (c s : Int) : Inv (implM m c s).1 := by
  unfold implM
  split
  · exact h
  · split
    · exact h
    · rename_i h1 _
      exact ⟨h.len, .inr ⟨by simp; omega, by simp; omega⟩, h.d, h.o, h.nodup⟩
theorem Inv.rel {m : M} (h : Inv m) : Inv (releaseM m).1 := by
  unfold releaseM
  split
  · exact h
  · exact ⟨h.len, .inl ⟨rfl, rfl⟩, h.d, h.o, h.nodup⟩
theorem Inv.drag {m : M} (h : Inv m) (c s : Int) : Inv (dragM m c s).1 := by
  unfold dragM
  split
  · exact h
  · split
    · exact h
    · rename_i h1 _
      exact ⟨h.len, h.b, .inr ⟨by simp; omega, by simp; omega⟩, h.o, h.nodup⟩
theorem Inv.done {m : M} (h : Inv m) : Inv (endM m).1 := by
  unfold endM
  split
  · exact h
  · exact ⟨h.len, h.b, .inl ⟨rfl, rfl⟩, h.o, h.nodup⟩
theorem Inv.cut {m : M} (h : Inv m) (k : Nat) : Inv (cutM m k).1 :=
  ⟨by simp only [cutM, List.length_take]; have := h.len; omega, h.b, h.d, fun hn => h.o (by rintro e; simp [cutM, e] at hn), h.nodup.sublist (List.take_sublist _ _)⟩
theorem Inv.dismiss {m : M} (h : Inv m) (s : Int) : Inv (dismissM m s).1 := by
  unfold dismissM
  split
  · exact h
  · exact h.cut _
theorem Inv.click {m : M} (h : Inv m) (c s : Int) : Inv (clickM m c s).1 := by
  unfold clickM
  split
  · exact h
  split
  · exact h.cut _
  split
  · exact h
  · exact h.cut _
theorem Inv.popup {m : M} (h : Inv m) (c s p : Int) : Inv (popupM m c s p).1 := by
  unfold popupM
  split
  · exact h
  split
  · exact h
  split
  · exact h
  split
  · exact h
  split
  · exact h
  · rename_i h1 h2 h3 _ _
    refine ⟨by simp; omega, h.b, h.d, fun _ => by simp; omega, ?_⟩
    have h4 : s ∉ m.ch := (fnd_neg s m.ch 0).1 (by omega)
    rw [List.nodup_append]
    refine ⟨h.nodup, by simp, ?_⟩
    intro a ha b hb
    simp at hb
    rintro rfl
    subst hb
    exact h4 ha
theorem Inv.dos {m : M} (h : Inv m) (x : Opn) : Inv (doM m x).1 := by
  unfold doM
  split
  · exact h.impl _ _
  split
  · exact h.rel
  split
  · exact h.popup _ _ _
  split
  · exact h.dismiss _
  split
  · exact h.click _ _
  split
  · exact h.drag _ _
  · exact h.done
theorem Inv.lt {m : M} (h : Inv m) : m.ch.length < 100 := by have := h.len; omega

def runM (m : M) (l : List Opn) : M := l.foldl (fun m x => (doM m x).1) m
theorem Inv.run : ∀ (l : List Opn) {m : M}, Inv m → Inv (runM m l)
  | [], _, h => h
  | x :: l, _, h => Inv.run l (h.dos x)

/-! ### The calls' cells -/
def opcs (l : List Opn) : List AV := l.flatMap opc
theorem opcs_len (l : List Opn) : (opcs l).length = l.length * 4 := by
  unfold opcs
  induction l with
  | nil => rfl
  | cons x l ih => simp [List.flatMap_cons, ih, opc]; omega
theorem opcs_at : ∀ (l : List Opn) (j : Nat) (hj : j < l.length), ((opcs l).drop (j * 4)).take 4 = opc l[j]
  | x :: l, 0, _ => by simp [opcs, opc]
  | x :: l, j + 1, hj => by
    have : (opcs (x :: l)).drop ((j + 1) * 4) = (opcs l).drop (j * 4) := by
      rw [Nat.add_mul, Nat.add_comm, ← List.drop_drop]
      simp [opcs, opc]
    rw [this]
    exact opcs_at l j (by simpa using hj)

theorem runM_snoc (m : M) (l : List Opn) (j : Nat) (hj : j < l.length) : runM m (l.take (j + 1)) = (doM (runM m (l.take j)) l[j]).1 := by
  unfold runM
  rw [← List.take_append_getElem hj, List.foldl_append]
  rfl

theorem c20 {H : AH} (l : List Opn) (hl : l.length ≤ 100) {K : AV → AH → Prop} (hk : ∀ i H' F', St H' F' i (runM m0 l) → Stp (fun _ => False) H F' H' → K (ptrA i) H') :
    ACall Try.prog 20 [.vs l.length false (opcs l)] H K := by
  refine call_c follows cf20_ok (by simp) ?_
  simp
  refine c11 fun i hi H1 h1 t1 => ?_
  simp
  refine wpc_loop (fun s => ∃ (j : Nat) (Hs : AH) (F : Nat → Prop), s.n = 21 ∧ s.H = Hs ∧ s.t 0 = .vs l.length false (opcs l) ∧ s.t 3 = ptrA i ∧ s.t 4 = vi j ∧ j ≤ l.length ∧
      St Hs F i (runM m0 (l.take j)) ∧ Stp (fun _ => False) H F Hs)
    (fun s => l.length - slotN (s.t 4)) ?_ ?_
  · refine ⟨0, H1, fun j => j = i, ?_⟩
    simp
    exact ⟨h1, t1⟩
  rintro s ⟨j, Hs, F, hn, hH, e0, e3, e4, hj, hst, ht⟩
  simp [*]
  refine condK_of (fun hc => ?_) (fun hc => ?_)
  · simp at hc
    have h4 := opcs_len l
    have h5 := opcs_at l j hc
    simp (disch := omega) [*, IntWalk.i64_in]
    refine c15 hst (Inv.run _ Inv.zero).lt l[j] fun H2 F2 a h2 t hr => ?_
    rw [← runM_snoc] at h2
    simp (disch := omega) [*, IntWalk.i64_in]
    refine ⟨Hid.of ⟨j + 1, H2, F2, ?_⟩, by omega⟩
    simp
    exact ⟨hc, h2, ht.trans t⟩
  · simp at hc
    have : j = l.length := by omega
    subst this
    rw [List.take_length] at hst
    simp [*]
    exact hk i Hs F hst ht
end Go.Proofs.Ytmchflhambfhkaa
