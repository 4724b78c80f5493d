/-
  GrabOutside: what the law does at every list of calls. Conditions: the list reads as a list of calls.
-/
import Derived.Test.YtmchflhambfhkaaG7
namespace Go.Proofs.Ytmchflhambfhkaa
open Go Go.Ab Go.RowKit
set_option linter.unusedSimpArgs false
set_option linter.unusedVariables false
set_option linter.unnecessarySimpa false

attribute [local simp] condK_true condK_false condK_not wpc_skip wpc_ret wpc_exit wpc_seq wpc_reg wpc_regD testA_bool wpc_cond wpc_block thenA_normal thenA_ret thenA_exit blockA_normal blockA_ret blockA_exit blockA_other endA_normal endA_ret ev_tmp' ev_const ev_func ev_global cv_int cv_bool cv_string cv_pointer cv_slice cv_agg put_some put_none wH_s setE_apply less_eq env_cons env_nil upd_apply del_apply startA_eq cells_ag cells_sl one_sl cells_vs one_vs cells_ep one_ep cells_fn one_fn cells_int one_int cells_bool one_bool cells_string one_string cells_pointer one_pointer cells_slice one_slice cells_map one_map cells_agg resK_one resK_nil resK_two rvK_t rvK_c rvsK_nil rvsK_cons iseq_nil iseq_cons gdA_true gdA_false gdA_undef istep_free istep_guard istepV_free istepV_guard dseq_nil dseq_pu dseq_rd dseq_ef chkAll_nil chkAll_cons andK_true pickK_true pickK_false pickK_tb pickK_fb bin2K_pl eqbK_eq eqbK_ne eqpK_eq eqpK_ne un1K_pl convK_int fillK_some fillA_cons fillA_nil cellsK_some needK_true needK_ok seeK_ep seeK_ptr oneK_agg oneK_one nilcK_ptr nilcK_ep fadrK_ptr fadrK_ep fldK_ag iadAK_ptr iadAK_ep iadSK_sl iadSK_vs extK_0 extK_1 extK_2 extK_3 lenK_pl lenK_sl lenK_vs lensK_pl boxK_some minmax1K_int storeK_ptr callvK_fn callvK_pl newsK_nil newsK_vs newsK_sl appK_nil appK_nil0 appK_sl appK_vs bnd1K_int bndK_none bndK_some slsK_vs slsK_nil slsK_sl0 slsK_sl slstrK_pl boolK_some eqsK_ag iop_eqs iop_sls iop_slstr iop_mov iop_pick iop_bin iop_eqb iop_eqp iop_un iop_conv iop_build iop_load iop_nilc iop_fadr iop_fld iop_iadA iop_iadS iop_ext iop_mkf iop_len iop_lens iop_minmax iop_al iop_box iop_bsl iop_store iop_call iop_callv iop_app BIN_add BIN_sub BIN_mul BIN_and BIN_or BIN_xor BIN_andNot BIN_eql BIN_neq BIN_lss BIN_leq BIN_gtr BIN_geq BIN_quo BIN_rem BIN_shl BIN_shr BIN_sadd BIN_seql BIN_sneq BIN_slss BIN_sleq BIN_sgtr BIN_sgeq UN_neg UN_xor UN_not MM_nil MM_cons partsA argsA ptrA lessL eqL min2I
attribute [local simp] slotN_int slotP_int


theorem dcell_at : ∀ (l : List (Int × Int)) (j : Nat) (hj : j < l.length), (l.flatMap dcell).drop (j * 9) = dcell l[j] ++ (l.drop (j + 1)).flatMap dcell
  | x :: l, 0, _ => by simp
  | x :: l, j + 1, hj => by
    have : ((x :: l).flatMap dcell).drop ((j + 1) * 9) = (l.flatMap dcell).drop (j * 9) := by
      rw [Nat.add_mul, Nat.add_comm, ← List.drop_drop]
      simp [dcell]
    rw [this]
    exact dcell_at l j (by simpa using hj)
theorem dcell_0 (l : List (Int × Int)) (j : Nat) (hj : j < l.length) : ((l.flatMap dcell).drop (j * 9)).take 1 = [vi l[j].1] := by
  rw [dcell_at l j hj]; rfl
theorem dcell_1 (l : List (Int × Int)) (j : Nat) (hj : j < l.length) : ((l.flatMap dcell).drop (j * 9 + 1)).take 1 = [vi l[j].2] := by
  rw [← List.drop_drop, dcell_at l j hj]; rfl

theorem LRow.at {H : AH} {l : List (Int × Int)} {a : AV} {G : Nat → Prop} (h : LRow H l a G) {j : Nat} (hj : j < l.length) : ∃ r x, a = .sl r 0 l.length 9 x ∧ H r = some (.cells (l.flatMap dcell)) := by
  rcases h with ⟨rfl, rfl⟩ | ⟨r, x, h1, h2, _⟩
  · simp at hj
  · exact ⟨r, x, h1, h2⟩

theorem fnd_at' (x : Int) : ∀ (l : List Int) (i k : Nat), fnd x l i = ((i + k : Nat) : Int) → l[k]? = some x
  | [], i, k, h => by simp [fnd] at h; omega
  | y :: l, i, k, h => by
    unfold fnd at h
    split at h
    · rename_i e
      have : k = 0 := by omega
      subst this
      simp [e]
    · cases k with
      | zero =>
        have := fnd_range x l (i + 1)
        simp at h
        omega
      | succ k => simpa using fnd_at' x l (i + 1) k (by rw [h]; congr 1; omega)
theorem fnd_at (x : Int) (l : List Int) (k : Nat) (h : fnd x l 0 = k) : l[k]? = some x := fnd_at' x l 0 k (by simpa using h)

/-- Behind a Release and an EndDrag. -/
theorem top_plain {m : M} (h1 : m.d0 = 0) (h2 : m.b0 = 0) : topM m = if m.ch = [] then (0, 0, 0) else (2, m.owner, m.ch.getD (m.ch.length - 1) 0) := by
  by_cases h : m.ch = [] <;> simp [topM, h1, h2, h]
theorem end_d (m : M) : (endM m).1.d0 = 0 := by
  unfold endM
  split
  · assumption
  · rfl
theorem rel_b (m : M) : (releaseM m).1.b0 = 0 := by
  unfold releaseM
  split
  · assumption
  · rfl
theorem rel_d' (m : M) : (releaseM m).1.d0 = m.d0 := by
  unfold releaseM
  split <;> rfl

theorem grabOutside {n : Nat} {cs : List AV} (c s : Int) (hcs : n ≤ 100 → ∃ l : List Opn, l.length = n ∧ cs = opcs l) (hn : n ≤ maxLen) {K : AV → AH → Prop} (hk : ∀ H', K (vb true) H') :
    ACall Try.prog 6 [.vs n false cs, vi c, vi s] (fun _ => none) K := by
  refine call_c follows cf6_ok (by simp) ?_
  simp
  by_cases h0 : (100 : Int) < n
  · simp [h0]
    refine c10 fun H' _ => ?_
    simp
    exact hk _
  obtain ⟨l, rfl, rfl⟩ := hcs (by omega)
  simp [h0]
  refine c20 l (by omega) fun i H1 F1 h1 _ => ?_
  simp
  have hI : Inv (runM m0 l) := Inv.run l Inv.zero
  generalize runM m0 l = mm at *
  refine c24 h1 fun H2 F2 h2 _ => ?_
  simp
  refine c25 h2 fun H3 F3 h3 _ => ?_
  simp
  have hI3 : Inv (releaseM (endM mm).1).1 := hI.done.rel
  have d3 : (releaseM (endM mm).1).1.d0 = 0 := by rw [rel_d', end_d]
  have b3 : (releaseM (endM mm).1).1.b0 = 0 := rel_b _
  generalize (releaseM (endM mm).1).1 = m at *
  have hT := top_plain d3 b3
  refine c16 h3 hI3.lt ?_
  simp
  refine c22 h3 hI3.lt c s fun H4 F4 a h4 _ hr => ?_
  simp
  by_cases hch : m.ch = []
  · have hcl : clickM m c s = (m, []) := by simp [clickM, hch]
    rw [hcl] at hr
    rw [if_pos hch] at hT
    simp [hT]
    refine hr.len ?_
    simp
    refine c10 fun H' _ => ?_
    simp
    exact hk _
  rw [if_neg hch] at hT
  by_cases hco : c = m.owner
  · -- what is dismissed, and what is left
    obtain ⟨m4, g, hcl, hg, hI4, hT4⟩ : ∃ m4 g, clickM m c s = (m4, g) ∧ (∀ x ∈ g, x.1 = c ∧ x.2 ≠ s) ∧ Inv m4 ∧ ∃ z, topM m4 = (2, c, z) := by
      have hI4 := hI3.click c s
      refine ⟨(clickM m c s).1, (clickM m c s).2, rfl, ?_, hI4, ?_⟩
      · unfold clickM
        rw [if_neg hch, if_neg (by simp [hco])]
        split
        · simp
        · rename_i hf
          intro x hx
          simp only [cutM, List.mem_map, List.mem_reverse] at hx
          obtain ⟨y, hy, rfl⟩ := hx
          refine ⟨hco.symm, ?_⟩
          rintro rfl
          have hf' : ¬ fnd y m.ch 0 < 0 := hf
          have hr := fnd_range y m.ch 0
          obtain ⟨k, hk⟩ : ∃ k : Nat, fnd y m.ch 0 = k := ⟨(fnd y m.ch 0).toNat, by omega⟩
          have h2 : m.ch[k]? = some y := fnd_at y m.ch k hk
          rw [hk, show ((k : Int) + 1).toNat = k + 1 by omega] at hy
          obtain ⟨q, hq⟩ := List.getElem?_of_mem hy
          rw [List.getElem?_drop] at hq
          have h3 := hI3.nodup
          have := (List.getElem?_inj (List.getElem?_eq_some_iff.1 h2).1 h3).1 (h2.trans hq.symm)
          omega
      · unfold clickM
        rw [if_neg hch, if_neg (by simp [hco])]
        split
        · rw [hT]; exact ⟨_, by rw [hco]⟩
        · rename_i hf
          have hr := fnd_range s m.ch 0
          rw [top_plain (by simp [cutM, d3]) (by simp [cutM, b3])]
          rw [if_neg (by simp [cutM]; exact ⟨by omega, hch⟩)]
          exact ⟨_, by simp [cutM, hco]; rfl⟩
    obtain ⟨z, hT4⟩ := hT4
    rw [hcl] at hr h4
    simp [hT, hco]
    have hgl : g.length < 100 := by
      have : g.length ≤ m.ch.length := by
        have : g = (clickM m c s).2 := by rw [hcl]
        rw [this]
        unfold clickM
        split
        · simp
        split
        · simp [cutM]
        split
        · simp
        · simp [cutM]
      have := hI3.lt
      omega
    refine wpc_loop (fun st => ∃ j : Nat, st.n = 114 ∧ st.H = H4 ∧ st.t 2 = vi s ∧ st.t 7 = ptrA i ∧ st.t 9 = vi m.owner ∧ st.t 11 = a ∧ st.t 15 = vi j ∧ j ≤ g.length) (fun st => g.length - slotN (st.t 15)) ?_ ?_
    · exact ⟨0, by simp⟩
    rintro st ⟨j, hn', hH, e2, e7, e9, e11, e15, hj⟩
    simp [*]
    refine hr.len ?_
    simp
    refine condK_of (fun hcc => ?_) (fun hcc => ?_)
    · simp at hcc
      obtain ⟨r, x, rfl, hrr⟩ := hr.at hcc
      have k0 := dcell_0 g j hcc
      have k1 := dcell_1 g j hcc
      have k2 := dcell_len g
      obtain ⟨k3, k4⟩ := hg g[j] (List.getElem_mem hcc)
      rw [hco] at k3
      generalize g.flatMap dcell = X at *
      simp (disch := omega) [*, IntWalk.i64_in]
      refine ⟨Hid.of ⟨j + 1, ?_⟩, by omega⟩
      simp [*]
      omega
    · simp at hcc
      simp [*]
      refine c16 h4 hI4.lt ?_
      simp [*]
      refine c10 fun H' _ => ?_
      simp
      exact hk _
  · have hcl : clickM m c s = cutM m 0 := by simp [clickM, hch, hco]
    rw [hcl] at hr h4
    have hI4 : Inv (cutM m 0).1 := hI3.cut 0
    have hT4 : topM (cutM m 0).1 = (0, 0, 0) := by rw [top_plain (by simp [cutM, d3]) (by simp [cutM, b3])]; simp [cutM]
    have hlen : 0 < (cutM m 0).2.length := by simp [cutM]; exact List.length_pos_iff.2 hch
    have hcl4 : clickM (cutM m 0).1 c s = ((cutM m 0).1, []) := by simp [clickM, cutM]
    simp [hT, hco]
    refine c16 h4 hI4.lt ?_
    simp [hT4]
    refine hr.len ?_
    simp [hlen]
    refine c22 h4 hI4.lt c s fun H5 F5 a h5 _ hr => ?_
    rw [hcl4] at hr
    simp
    refine hr.len ?_
    simp
    refine c10 fun H' _ => ?_
    simp
    exact hk _
end Go.Proofs.Ytmchflhambfhkaa
