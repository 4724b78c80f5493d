/-
  GrabChain: what the law does at every length, cut and click. Conditions: the two numbers are bytes.
-/
import Derived.Test.YtmchflhambfhkaaG11
namespace Go.Proofs.Ytmchflhambfhkaa
open Go Go.Ab Go.RowKit
set_option linter.unusedSimpArgs false
set_option linter.unusedVariables false
set_option linter.unnecessarySimpa false

attribute [local simp] condK_true condK_false condK_not wpc_skip wpc_ret wpc_exit wpc_seq wpc_reg wpc_regD testA_bool wpc_cond wpc_block thenA_normal thenA_ret thenA_exit blockA_normal blockA_ret blockA_exit blockA_other endA_normal endA_ret ev_tmp' ev_const ev_func ev_global cv_int cv_bool cv_string cv_pointer cv_slice cv_agg put_some put_none wH_s setE_apply less_eq env_cons env_nil upd_apply del_apply startA_eq cells_ag cells_sl one_sl cells_vs one_vs cells_ep one_ep cells_fn one_fn cells_int one_int cells_bool one_bool cells_string one_string cells_pointer one_pointer cells_slice one_slice cells_map one_map cells_agg resK_one resK_nil resK_two rvK_t rvK_c rvsK_nil rvsK_cons iseq_nil iseq_cons gdA_true gdA_false gdA_undef istep_free istep_guard istepV_free istepV_guard dseq_nil dseq_pu dseq_rd dseq_ef chkAll_nil chkAll_cons andK_true pickK_true pickK_false pickK_tb pickK_fb bin2K_pl eqbK_eq eqbK_ne eqpK_eq eqpK_ne un1K_pl convK_int fillK_some fillA_cons fillA_nil cellsK_some needK_true needK_ok seeK_ep seeK_ptr oneK_agg oneK_one nilcK_ptr nilcK_ep fadrK_ptr fadrK_ep fldK_ag iadAK_ptr iadAK_ep iadSK_sl iadSK_vs extK_0 extK_1 extK_2 extK_3 lenK_pl lenK_sl lenK_vs lensK_pl boxK_some minmax1K_int storeK_ptr callvK_fn callvK_pl newsK_nil newsK_vs newsK_sl appK_nil appK_nil0 appK_sl appK_vs bnd1K_int bndK_none bndK_some slsK_vs slsK_nil slsK_sl0 slsK_sl slstrK_pl boolK_some eqsK_ag iop_eqs iop_sls iop_slstr iop_mov iop_pick iop_bin iop_eqb iop_eqp iop_un iop_conv iop_build iop_load iop_nilc iop_fadr iop_fld iop_iadA iop_iadS iop_ext iop_mkf iop_len iop_lens iop_minmax iop_al iop_box iop_bsl iop_store iop_call iop_callv iop_app BIN_add BIN_sub BIN_mul BIN_and BIN_or BIN_xor BIN_andNot BIN_eql BIN_neq BIN_lss BIN_leq BIN_gtr BIN_geq BIN_quo BIN_rem BIN_shl BIN_shr BIN_sadd BIN_seql BIN_sneq BIN_slss BIN_sleq BIN_sgtr BIN_sgeq UN_neg UN_xor UN_not MM_nil MM_cons partsA argsA ptrA lessL eqL min2I
attribute [local simp] slotN_int slotP_int


deriving instance DecidableEq for M

/-- A chain of k popups. -/
def mk (k : Nat) : M := ⟨0, 0, 0, 0, if k = 0 then 0 else 4, (List.range k).map fun j : Nat => (101 : Int) + (j : Int)⟩
theorem mk_step : ∀ k : Fin 8, popupM (mk k) 4 (101 + (k.val : Int)) (100 + (k.val : Int)) = (mk (k + 1), 0) ∧ popupM (mk (k + 1)) 4 (101 + (k.val : Int)) (101 + (k.val : Int)) = (mk (k + 1), 7) := by decide +kernel
theorem mk_8 : popupM (mk 8) 4 200 108 = (mk 8, 5) := by decide +kernel
theorem mk_click : ∀ (n : Fin 9) (f : Fin 9), 1 ≤ f.val → f.val ≤ n.val → clickM (mk n) 4 (100 + (f.val : Int)) = cutM (mk n) f := by decide +kernel
theorem mk_dismiss : ∀ (n : Fin 9) (f : Fin 9), 1 ≤ f.val → f.val ≤ n.val → dismissM (mk n) (100 + (f.val : Int)) = cutM (mk n) (f - 1) := by decide +kernel
theorem mk_cut : ∀ (n : Fin 9) (f : Fin 9), f.val ≤ n.val → (cutM (mk n) f).2.length = n - f ∧ (∀ i : Fin 9, i.val < n.val - f.val → (cutM (mk n) f).2[i.val]? = some (4, 100 + (n.val : Int) - (i.val : Int))) ∧
    topM (cutM (mk n) f).1 = (if f.val = 0 then (0, 0, 0) else (2, 4, 100 + (f.val : Int))) ∧ dismissM (cutM (mk n) f).1 (101 + (f.val : Int)) = ((cutM (mk n) f).1, []) := by decide +kernel
theorem condK_pos {b : Bool} {A B : Prop} (h : b = true) (ha : A) : @condK b ⟨A⟩ ⟨B⟩ := by rw [h, condK_true]; exact ha
theorem condK_neg {b : Bool} {A B : Prop} (h : b = false) (ha : B) : @condK b ⟨A⟩ ⟨B⟩ := by rw [h, condK_false]; exact ha
theorem mk_len (k : Nat) : (mk k).ch.length = k := by simp [mk]

theorem grabChain (x y : Int) (b : Bool) (hx : 0 ≤ x ∧ x ≤ 255) (hy : 0 ≤ y ∧ y ≤ 255) {K : AV → AH → Prop} (hk : ∀ H', K (vb true) H') :
    ACall Try.prog 5 [.pl (.int .u8 x), .pl (.int .u8 y), vb b] (fun _ => none) K := by
  refine call_c follows cf5_ok (by simp) ?_
  simp
  refine c11 fun i hi H1 h1 _ => ?_
  obtain ⟨n, hn⟩ : ∃ n : Nat, x.tmod 8 = n := ⟨(x.tmod 8).toNat, by rw [Int.tmod_eq_emod_of_nonneg hx.1]; omega⟩
  have hn8 : n < 8 := by rw [Int.tmod_eq_emod_of_nonneg hx.1] at hn; omega
  have hmk : (⟨0, 0, 0, 0, 0, []⟩ : M) = mk 0 := by decide +kernel
  rw [hmk] at h1
  simp (disch := omega) [IntWalk.i64_in, hn]
  refine wpc_loop (fun s => ∃ (j : Nat) (H' : AH) (F' : Nat → Prop), s.n = 134 ∧ s.H = H' ∧ s.t 1 = .pl (.int .u8 y) ∧ s.t 2 = vb b ∧ s.t 7 = ptrA i ∧ s.t 8 = vi (1 + (n : Int)) ∧ s.t 9 = vi ((j : Int) + 1) ∧ j ≤ n + 1 ∧ St H' F' i (mk j))
    (fun s => n + 2 - slotN (s.t 9)) ?_ ?_
  · exact ⟨0, H1, _, rfl, rfl, rfl, rfl, rfl, rfl, rfl, by omega, h1⟩
  rintro s ⟨j, H2, F2, hn', hH, t1, t2, t7, t8, t9, hj, h2⟩
  simp [*]
  refine condK_of (fun hc => ?_) (fun hc => ?_)
  · simp at hc
    have hj8 : j < 8 := by omega
    obtain ⟨p1, p2⟩ := mk_step ⟨j, hj8⟩
    simp only at p1 p2
    have q1 : (100 : Int) + ((j : Int) + 1) = 101 + j := by omega
    have q2 : (99 : Int) + ((j : Int) + 1) = 100 + j := by omega
    simp (disch := omega) [IntWalk.i64_in, *]
    refine c21 h2 (by rw [mk_len]; omega) _ _ _ fun H3 F3 h3 _ => ?_
    rw [p1] at h3 ⊢
    simp (disch := omega) [IntWalk.i64_in, *]
    refine c21 h3 (by rw [mk_len]; omega) _ _ _ fun H4 F4 h4 _ => ?_
    rw [p2] at h4 ⊢
    simp (disch := omega) [IntWalk.i64_in, *]
    refine ⟨Hid.of ⟨j + 1, H4, F4, rfl, rfl, ?_, ?_, ?_, ?_, ?_, by omega, h4⟩, by omega⟩
    · simp
    · simp
    · simp
    · simp
    · simp
  · simp at hc
    have : j = n + 1 := by omega
    subst this
    simp [*]
    obtain ⟨f, hf⟩ : ∃ f : Nat, y.tmod (1 + (n : Int)) = f := ⟨(y.tmod (1 + (n : Int))).toNat, by
      have := Int.emod_nonneg y (show (1 + (n : Int)) ≠ 0 by omega)
      rw [Int.tmod_eq_emod_of_nonneg hy.1]; omega⟩
    have hfn : f ≤ n := by
      have := Int.emod_lt_of_pos y (show 0 < (1 + (n : Int)) by omega)
      rw [Int.tmod_eq_emod_of_nonneg hy.1] at hf; omega
    generalize hN : 1 + (n : Int) = N at *
    refine condK_of (fun hc8 => ?_) (fun hc8 => ?_)
    · simp at hc8
      have hn7 : n = 7 := by omega
      have hc9 : decide (N = 8) = true := by simp [hc8]
      simp [hc9]
      refine c21 h2 (by rw [mk_len]; omega) _ _ _ fun H3 F3 h3 _ => ?_
      rw [show popupM (mk (n + 1)) 4 200 108 = (mk (n + 1), 5) by rw [hn7]; exact mk_8] at h3 ⊢
      clear h2
      have h2 : St H3 F3 i (mk (n + 1)) := h3
      clear h3
      simp (disch := omega) [IntWalk.i64_in, hf, hc9]
      cases b
      · simp (disch := omega) [IntWalk.i64_in, hf]
        have q3 : (100 : Int) + (1 + f) = 100 + ((f + 1 : Nat) : Int) := by omega
        rw [q3]
        refine c23 h2 (by rw [mk_len]; omega) _ fun H4 F4 a h4 _ hr => ?_
        rw [mk_dismiss ⟨n + 1, by omega⟩ ⟨f + 1, by omega⟩ (by simp) (by simp; omega)] at h4 hr
        simp only [Nat.add_sub_cancel] at h4 hr
        have hg : f ≤ n + 1 := by omega
        generalize f = g at *
        simp (disch := omega) [IntWalk.i64_in, hf]
        obtain ⟨r1, r2, r3, r4⟩ := mk_cut ⟨n + 1, by omega⟩ ⟨g, by omega⟩ (by simp; omega)
        simp only at r1 r2 r3 r4
        have hI4 : (cutM (mk (n + 1)) g).1.ch.length < 100 := by simp [cutM, mk_len]; omega
        generalize hm4 : (cutM (mk (n + 1)) g).1 = m4 at *
        generalize hl4 : (cutM (mk (n + 1)) g).2 = l4 at *
        refine hr.len ?_
        have e1 : (l4.length : Int) = N - (1 + g) + 1 := by omega
        simp (disch := omega) [IntWalk.i64_in, e1]
        clear hc8 hc
        refine wpc_loop (fun st => ∃ j : Nat, st.n = 134 ∧ st.H = H4 ∧ st.t 7 = ptrA i ∧ st.t 8 = vi N ∧ st.t 10 = vi (1 + (g : Int)) ∧ st.t 11 = a ∧ st.t 12 = vi j ∧ j ≤ l4.length) (fun st => l4.length - slotN (st.t 12)) ?_ ?_
        · exact ⟨0, by simp⟩
        rintro st ⟨j, u1, u2, u3, u4, u5, u6, u7, u8⟩
        simp [u1, u2, u3, u4, u5, u6, u7]
        refine hr.len ?_
        simp [u1, u2, u3, u4, u5, u6, u7]
        refine condK_of (fun hcc => ?_) (fun hcc => ?_)
        · simp at hcc
          obtain ⟨r, z, rfl, hrr⟩ := hr.at hcc
          have k9 := dcell_9 l4 j hcc
          have dl := dcell_len l4
          have hx : l4[j] = (4, 100 + N - j) := by
            have h := r2 ⟨j, by omega⟩ (by simp only; omega)
            simp only at h
            rw [List.getElem?_eq_getElem hcc] at h
            rw [Option.some.inj h]
            congr 1; omega
          rw [hx] at k9
          generalize l4.flatMap dcell = X at *
          simp (disch := omega) [u1, u2, u3, u4, u5, u6, u7, hrr, hcc, k9, dl, IntWalk.i64_in, dcell]
          refine ⟨Hid.of ⟨j + 1, ?_⟩, by omega⟩
          simp [u1, u2, u3, u4, u5, u6, u7]
          omega
        · simp [u1, u2, u3, u4, u5, u6, u7]
          refine c16 h4 hI4 ?_
          rw [r3]
          by_cases g0 : g = 0
          · simp [g0]
            refine c10 fun H' _ => ?_
            simp
            exact hk _
          · have q5 : (99 : Int) + (1 + g) = 100 + g := by omega
            have q6 : (100 : Int) + (1 + g) = 101 + g := by omega
            have q7 : ¬ (1 + (g : Int) = 1) := by omega
            simp (disch := omega) [g0, q5, q6, q7, IntWalk.i64_in]
            refine c23 h4 hI4 _ fun H5 F5 a5 h5 _ hr5 => ?_
            rw [r4] at hr5
            simp
            refine hr5.len ?_
            simp
            refine c10 fun H' _ => ?_
            simp
            exact hk _
      · simp (disch := omega) [IntWalk.i64_in, hf]
        have q3 : (100 : Int) + (1 + f) = 100 + ((f + 1 : Nat) : Int) := by omega
        rw [q3]
        refine c22 h2 (by rw [mk_len]; omega) _ _ fun H4 F4 a h4 _ hr => ?_
        rw [mk_click ⟨n + 1, by omega⟩ ⟨f + 1, by omega⟩ (by simp) (by simp; omega)] at h4 hr
        simp only at h4 hr
        obtain ⟨g, hgf⟩ : ∃ g : Nat, g = f + 1 := ⟨_, rfl⟩
        have q4 : (1 : Int) + f + 1 = 1 + g := by omega
        rw [← hgf] at h4 hr
        have hg : g ≤ n + 1 := by omega
        clear hf hfn
        simp (disch := omega) [IntWalk.i64_in, q4]
        clear hgf q3 q4
        obtain ⟨r1, r2, r3, r4⟩ := mk_cut ⟨n + 1, by omega⟩ ⟨g, by omega⟩ (by simp; omega)
        simp only at r1 r2 r3 r4
        have hI4 : (cutM (mk (n + 1)) g).1.ch.length < 100 := by simp [cutM, mk_len]; omega
        generalize hm4 : (cutM (mk (n + 1)) g).1 = m4 at *
        generalize hl4 : (cutM (mk (n + 1)) g).2 = l4 at *
        refine hr.len ?_
        have e1 : (l4.length : Int) = N - (1 + g) + 1 := by omega
        simp (disch := omega) [IntWalk.i64_in, e1]
        clear hc8 hc
        refine wpc_loop (fun st => ∃ j : Nat, st.n = 134 ∧ st.H = H4 ∧ st.t 7 = ptrA i ∧ st.t 8 = vi N ∧ st.t 10 = vi (1 + (g : Int)) ∧ st.t 11 = a ∧ st.t 12 = vi j ∧ j ≤ l4.length) (fun st => l4.length - slotN (st.t 12)) ?_ ?_
        · exact ⟨0, by simp⟩
        rintro st ⟨j, u1, u2, u3, u4, u5, u6, u7, u8⟩
        simp [u1, u2, u3, u4, u5, u6, u7]
        refine hr.len ?_
        simp [u1, u2, u3, u4, u5, u6, u7]
        refine condK_of (fun hcc => ?_) (fun hcc => ?_)
        · simp at hcc
          obtain ⟨r, z, rfl, hrr⟩ := hr.at hcc
          have k9 := dcell_9 l4 j hcc
          have dl := dcell_len l4
          have hx : l4[j] = (4, 100 + N - j) := by
            have h := r2 ⟨j, by omega⟩ (by simp only; omega)
            simp only at h
            rw [List.getElem?_eq_getElem hcc] at h
            rw [Option.some.inj h]
            congr 1; omega
          rw [hx] at k9
          generalize l4.flatMap dcell = X at *
          simp (disch := omega) [u1, u2, u3, u4, u5, u6, u7, hrr, hcc, k9, dl, IntWalk.i64_in, dcell]
          refine ⟨Hid.of ⟨j + 1, ?_⟩, by omega⟩
          simp [u1, u2, u3, u4, u5, u6, u7]
          omega
        · simp [u1, u2, u3, u4, u5, u6, u7]
          refine c16 h4 hI4 ?_
          rw [r3]
          by_cases g0 : g = 0
          · simp [g0]
            refine c10 fun H' _ => ?_
            simp
            exact hk _
          · have q5 : (99 : Int) + (1 + g) = 100 + g := by omega
            have q6 : (100 : Int) + (1 + g) = 101 + g := by omega
            have q7 : ¬ (1 + (g : Int) = 1) := by omega
            simp (disch := omega) [g0, q5, q6, q7, IntWalk.i64_in]
            refine c23 h4 hI4 _ fun H5 F5 a5 h5 _ hr5 => ?_
            rw [r4] at hr5
            simp
            refine hr5.len ?_
            simp
            refine c10 fun H' _ => ?_
            simp
            exact hk _
    · simp at hc8
      simp [hc8]
      simp (disch := omega) [IntWalk.i64_in, hf]
      cases b
      · simp (disch := omega) [IntWalk.i64_in, hf]
        have q3 : (100 : Int) + (1 + f) = 100 + ((f + 1 : Nat) : Int) := by omega
        rw [q3]
        refine c23 h2 (by rw [mk_len]; omega) _ fun H4 F4 a h4 _ hr => ?_
        rw [mk_dismiss ⟨n + 1, by omega⟩ ⟨f + 1, by omega⟩ (by simp) (by simp; omega)] at h4 hr
        simp only [Nat.add_sub_cancel] at h4 hr
        have hg : f ≤ n + 1 := by omega
        generalize f = g at *
        simp (disch := omega) [IntWalk.i64_in, hf]
        obtain ⟨r1, r2, r3, r4⟩ := mk_cut ⟨n + 1, by omega⟩ ⟨g, by omega⟩ (by simp; omega)
        simp only at r1 r2 r3 r4
        have hI4 : (cutM (mk (n + 1)) g).1.ch.length < 100 := by simp [cutM, mk_len]; omega
        generalize hm4 : (cutM (mk (n + 1)) g).1 = m4 at *
        generalize hl4 : (cutM (mk (n + 1)) g).2 = l4 at *
        refine hr.len ?_
        have e1 : (l4.length : Int) = N - (1 + g) + 1 := by omega
        simp (disch := omega) [IntWalk.i64_in, e1]
        clear hc8 hc
        refine wpc_loop (fun st => ∃ j : Nat, st.n = 134 ∧ st.H = H4 ∧ st.t 7 = ptrA i ∧ st.t 8 = vi N ∧ st.t 10 = vi (1 + (g : Int)) ∧ st.t 11 = a ∧ st.t 12 = vi j ∧ j ≤ l4.length) (fun st => l4.length - slotN (st.t 12)) ?_ ?_
        · exact ⟨0, by simp⟩
        rintro st ⟨j, u1, u2, u3, u4, u5, u6, u7, u8⟩
        simp [u1, u2, u3, u4, u5, u6, u7]
        refine hr.len ?_
        simp [u1, u2, u3, u4, u5, u6, u7]
        refine condK_of (fun hcc => ?_) (fun hcc => ?_)
        · simp at hcc
          obtain ⟨r, z, rfl, hrr⟩ := hr.at hcc
          have k9 := dcell_9 l4 j hcc
          have dl := dcell_len l4
          have hx : l4[j] = (4, 100 + N - j) := by
            have h := r2 ⟨j, by omega⟩ (by simp only; omega)
            simp only at h
            rw [List.getElem?_eq_getElem hcc] at h
            rw [Option.some.inj h]
            congr 1; omega
          rw [hx] at k9
          generalize l4.flatMap dcell = X at *
          simp (disch := omega) [u1, u2, u3, u4, u5, u6, u7, hrr, hcc, k9, dl, IntWalk.i64_in, dcell]
          refine ⟨Hid.of ⟨j + 1, ?_⟩, by omega⟩
          simp [u1, u2, u3, u4, u5, u6, u7]
          omega
        · simp [u1, u2, u3, u4, u5, u6, u7]
          refine c16 h4 hI4 ?_
          rw [r3]
          by_cases g0 : g = 0
          · simp [g0]
            refine c10 fun H' _ => ?_
            simp
            exact hk _
          · have q5 : (99 : Int) + (1 + g) = 100 + g := by omega
            have q6 : (100 : Int) + (1 + g) = 101 + g := by omega
            have q7 : ¬ (1 + (g : Int) = 1) := by omega
            simp (disch := omega) [g0, q5, q6, q7, IntWalk.i64_in]
            refine c23 h4 hI4 _ fun H5 F5 a5 h5 _ hr5 => ?_
            rw [r4] at hr5
            simp
            refine hr5.len ?_
            simp
            refine c10 fun H' _ => ?_
            simp
            exact hk _
      · simp (disch := omega) [IntWalk.i64_in, hf]
        have q3 : (100 : Int) + (1 + f) = 100 + ((f + 1 : Nat) : Int) := by omega
        rw [q3]
        refine c22 h2 (by rw [mk_len]; omega) _ _ fun H4 F4 a h4 _ hr => ?_
        rw [mk_click ⟨n + 1, by omega⟩ ⟨f + 1, by omega⟩ (by simp) (by simp; omega)] at h4 hr
        simp only at h4 hr
        obtain ⟨g, hgf⟩ : ∃ g : Nat, g = f + 1 := ⟨_, rfl⟩
        have q4 : (1 : Int) + f + 1 = 1 + g := by omega
        rw [← hgf] at h4 hr
        have hg : g ≤ n + 1 := by omega
        clear hf hfn
        simp (disch := omega) [IntWalk.i64_in, q4]
        clear hgf q3 q4
        obtain ⟨r1, r2, r3, r4⟩ := mk_cut ⟨n + 1, by omega⟩ ⟨g, by omega⟩ (by simp; omega)
        simp only at r1 r2 r3 r4
        have hI4 : (cutM (mk (n + 1)) g).1.ch.length < 100 := by simp [cutM, mk_len]; omega
        generalize hm4 : (cutM (mk (n + 1)) g).1 = m4 at *
        generalize hl4 : (cutM (mk (n + 1)) g).2 = l4 at *
        refine hr.len ?_
        have e1 : (l4.length : Int) = N - (1 + g) + 1 := by omega
        simp (disch := omega) [IntWalk.i64_in, e1]
        clear hc8 hc
        refine wpc_loop (fun st => ∃ j : Nat, st.n = 134 ∧ st.H = H4 ∧ st.t 7 = ptrA i ∧ st.t 8 = vi N ∧ st.t 10 = vi (1 + (g : Int)) ∧ st.t 11 = a ∧ st.t 12 = vi j ∧ j ≤ l4.length) (fun st => l4.length - slotN (st.t 12)) ?_ ?_
        · exact ⟨0, by simp⟩
        rintro st ⟨j, u1, u2, u3, u4, u5, u6, u7, u8⟩
        simp [u1, u2, u3, u4, u5, u6, u7]
        refine hr.len ?_
        simp [u1, u2, u3, u4, u5, u6, u7]
        refine condK_of (fun hcc => ?_) (fun hcc => ?_)
        · simp at hcc
          obtain ⟨r, z, rfl, hrr⟩ := hr.at hcc
          have k9 := dcell_9 l4 j hcc
          have dl := dcell_len l4
          have hx : l4[j] = (4, 100 + N - j) := by
            have h := r2 ⟨j, by omega⟩ (by simp only; omega)
            simp only at h
            rw [List.getElem?_eq_getElem hcc] at h
            rw [Option.some.inj h]
            congr 1; omega
          rw [hx] at k9
          generalize l4.flatMap dcell = X at *
          simp (disch := omega) [u1, u2, u3, u4, u5, u6, u7, hrr, hcc, k9, dl, IntWalk.i64_in, dcell]
          refine ⟨Hid.of ⟨j + 1, ?_⟩, by omega⟩
          simp [u1, u2, u3, u4, u5, u6, u7]
          omega
        · simp [u1, u2, u3, u4, u5, u6, u7]
          refine c16 h4 hI4 ?_
          rw [r3]
          by_cases g0 : g = 0
          · simp [g0]
            refine c10 fun H' _ => ?_
            simp
            exact hk _
          · have q5 : (99 : Int) + (1 + g) = 100 + g := by omega
            have q6 : (100 : Int) + (1 + g) = 101 + g := by omega
            have q7 : ¬ (1 + (g : Int) = 1) := by omega
            simp (disch := omega) [g0, q5, q6, q7, IntWalk.i64_in]
            refine c23 h4 hI4 _ fun H5 F5 a5 h5 _ hr5 => ?_
            rw [r4] at hr5
            simp
            refine hr5.len ?_
            simp
            refine c10 fun H' _ => ?_
            simp
            exact hk _
end Go.Proofs.Ytmchflhambfhkaa
