/-
  GrabPlays: what the law does at every list of calls. Conditions: the list reads as a list of calls.
-/
import Derived.Test.YtmchflhambfhkaaG17
namespace Go.Proofs.Ytmchflhambfhkaa
open Go Go.Ab Go.RowKit
set_option linter.unusedSimpArgs false
set_option linter.unusedVariables false
set_option linter.unnecessarySimpa false

attribute [local simp] condK_true condK_false condK_not wpc_skip wpc_ret wpc_exit wpc_seq wpc_reg wpc_regD testA_bool wpc_cond wpc_block thenA_normal thenA_ret thenA_exit blockA_normal blockA_ret blockA_exit blockA_other endA_normal endA_ret ev_tmp' ev_const ev_func ev_global cv_int cv_bool cv_string cv_pointer cv_slice cv_agg put_some put_none wH_s setE_apply less_eq env_cons env_nil upd_apply del_apply startA_eq cells_ag cells_sl one_sl cells_vs one_vs cells_ep one_ep cells_fn one_fn cells_int one_int cells_bool one_bool cells_string one_string cells_pointer one_pointer cells_slice one_slice cells_map one_map cells_agg resK_one resK_nil resK_two rvK_t rvK_c rvsK_nil rvsK_cons iseq_nil iseq_cons gdA_true gdA_false gdA_undef istep_free istep_guard istepV_free istepV_guard dseq_nil dseq_pu dseq_rd dseq_ef chkAll_nil chkAll_cons andK_true pickK_true pickK_false pickK_tb pickK_fb bin2K_pl eqbK_eq eqbK_ne eqpK_eq eqpK_ne un1K_pl convK_int fillK_some fillA_cons fillA_nil cellsK_some needK_true needK_ok seeK_ep seeK_ptr oneK_agg oneK_one nilcK_ptr nilcK_ep fadrK_ptr fadrK_ep fldK_ag iadAK_ptr iadAK_ep iadSK_sl iadSK_vs extK_0 extK_1 extK_2 extK_3 lenK_pl lenK_sl lenK_vs lensK_pl boxK_some minmax1K_int storeK_ptr callvK_fn callvK_pl newsK_nil newsK_vs newsK_sl appK_nil appK_nil0 appK_sl appK_vs bnd1K_int bndK_none bndK_some slsK_vs slsK_nil slsK_sl0 slsK_sl slstrK_pl boolK_some eqsK_ag iop_eqs iop_sls iop_slstr iop_mov iop_pick iop_bin iop_eqb iop_eqp iop_un iop_conv iop_build iop_load iop_nilc iop_fadr iop_fld iop_iadA iop_iadS iop_ext iop_mkf iop_len iop_lens iop_minmax iop_al iop_box iop_bsl iop_store iop_call iop_callv iop_app BIN_add BIN_sub BIN_mul BIN_and BIN_or BIN_xor BIN_andNot BIN_eql BIN_neq BIN_lss BIN_leq BIN_gtr BIN_geq BIN_quo BIN_rem BIN_shl BIN_shr BIN_sadd BIN_seql BIN_sneq BIN_slss BIN_sleq BIN_sgtr BIN_sgeq UN_neg UN_xor UN_not MM_nil MM_cons partsA argsA ptrA lessL eqL min2I
attribute [local simp] slotN_int slotP_int


theorem click_len {m : M} (h : Inv m) (c s : Int) : (clickM m c s).2.length < 100 := by
  have := h.len
  unfold clickM
  split
  · simp
  split
  · simp [cutM]; omega
  split
  · simp
  · simp [cutM]; omega
theorem dismiss_len {m : M} (h : Inv m) (s : Int) : (dismissM m s).2.length < 100 := by
  have := h.len
  unfold dismissM
  split
  · simp
  · simp [cutM]; omega
theorem res_len {m : M} (h : Inv m) (x : Opn) : (doM m x).2.l.length < 100 := by
  unfold doM
  split
  · simp
  split
  · simp
  split
  · simp
  split
  · exact dismiss_len h _
  split
  · exact click_len h _ _
  split
  · simp
  · simp

theorem opcs_drop : ∀ (l : List Opn) (j : Nat) (hj : j < l.length), (opcs l).drop (j * 4) = opc l[j] ++ opcs (l.drop (j + 1))
  | x :: l, 0, _ => by simp [opcs]
  | x :: l, j + 1, hj => by
    have : (opcs (x :: l)).drop ((j + 1) * 4) = (opcs l).drop (j * 4) := by
      rw [Nat.add_mul, Nat.add_comm, ← List.drop_drop]
      simp [opcs, opc]
    rw [this]
    exact opcs_drop l j (by simpa using hj)
theorem opcs_c (l : List Opn) (j : Nat) (hj : j < l.length) : ((opcs l).drop (j * 4 + 1)).take 1 = [vi l[j].c] := by
  rw [← List.drop_drop, opcs_drop l j hj]; rfl

theorem grabPlays {n : Nat} {cs : List AV} (c : Int) (hcs : n ≤ 100 → ∃ l : List Opn, l.length = n ∧ cs = opcs l) (hn : n ≤ maxLen) {K : AV → AH → Prop} (hk : ∀ H', K (vb true) H') :
    ACall Try.prog 3 [.vs n false cs, vi c] (fun _ => none) K := by
  refine call_c follows cf3_ok (by simp) ?_
  simp
  by_cases h0 : (100 : Int) < n
  · simp [h0]
    refine c10 fun H' _ => ?_
    simp
    exact hk _
  obtain ⟨l, rfl, rfl⟩ := hcs (by omega)
  simp [h0]
  refine c11 fun i hi H1 h1 t1 => ?_
  simp
  refine c12 (G := fun _ => False) fun H2 a hE hr => ?_
  have hx : St H2 (fun j => j = i) i m0 := h1.keep fun j hj => hE j (h1.own j hj)
  obtain ⟨o1, o2⟩ := hr.one
  simp [rcs]
  refine newK_of fun b6 hb6 => ?_
  have hi6 : b6 ≠ i := by rintro rfl; exact hx.own _ rfl hb6
  simp [o2]
  refine wpc_loop (fun s => ∃ (j : Nat) (Hs : AH) (F : Nat → Prop) (m : M) (a : AV), s.n = 101 ∧ s.H = Hs ∧ s.t 0 = .vs l.length false (opcs l) ∧ s.t 1 = vi c ∧ s.t 5 = ptrA i ∧ s.t 6 = ptrA b6 ∧ s.t 7 = vi j ∧ j ≤ l.length ∧
      St Hs F i m ∧ Inv m ∧ Hs b6 = some (.cells (rcs m a)) ∧ ¬ F b6 ∧ Row Hs m.ch a (fun k => ¬ F k ∧ k ≠ b6))
    (fun s => l.length - slotN (s.t 7)) ?_ ?_
  · refine ⟨0, _, fun j => j = i, m0, a, rfl, rfl, rfl, rfl, rfl, rfl, rfl, by omega, ?_, Inv.zero, ?_, hi6, ?_⟩
    · refine hx.keep fun j hj => ?_
      have : j ≠ b6 := by rintro rfl; exact hi6 hj
      simp [this]
    · simp [rcs, m0]
    · rcases hr with h | ⟨b, x, rest, g1, g2, g3⟩
      · exact .inl h
      · have y1 : b ≠ b6 := by rintro rfl; rw [g2] at hb6; cases hb6
        refine .inr ⟨b, x, rest, g1, by simp [y1, g2], ?_, y1⟩
        rintro rfl
        rcases g3 with g3 | g3
        · exact g3
        · exact h1.own _ rfl g3
  rintro s ⟨j, Hs, F, m, a, u0, u1, u2, u3, u4, u5, u6, hj, hst, hI, h6, hF6, hrow⟩
  have hh6 : Hs b6 = some (.cells [vb true, vi m.b0, vi m.b1, vb (!decide (m.d0 = 0)), vi m.d0, vi m.d1, vi m.owner, a]) := h6
  simp [u0, u1, u2, u3, u4, u5, u6]
  refine condK_of (fun hc => ?_) (fun hc => ?_)
  · simp at hc
    have h4 := opcs_len l
    have h5 := opcs_at l j hc
    simp (disch := omega) [u0, u1, u2, u3, u4, u5, u6, hh6, h4, h5, hc]
    refine c13 hI hrow l[j] fun H3 a3 l3 hE3 hr3 hl3 => ?_
    obtain ⟨m', r, hd⟩ : ∃ m' r, doM m l[j] = (m', r) := ⟨_, _, rfl⟩
    have hI' : Inv m' := by have := hI.dos l[j]; rw [hd] at this; exact this
    rw [hd] at hr3 hl3 ⊢
    simp only at hr3 hl3
    have st3 : St H3 F i m := hst.keep fun j hj => hE3 j (hst.own j hj)
    have h63 : H3 b6 = some (.cells [vb true, vi m.b0, vi m.b1, vb (!decide (m.d0 = 0)), vi m.d0, vi m.d1, vi m.owner, a]) := by rw [hE3 b6 (by rw [hh6]; simp), hh6]
    obtain ⟨o3, o4⟩ := hr3.one
    obtain ⟨o5, o6⟩ := hl3.one
    simp [rcs]
    refine newK_of fun b8 hb8 => ?_
    have y1 : b6 ≠ b8 := by rintro rfl; rw [h63] at hb8; cases hb8
    simp (disch := omega) [u0, u1, u2, u3, u4, u5, u6, h63, h4, h5, hc, y1]
    refine newK_of fun b9 hb9 => ?_
    obtain ⟨y2, hb9⟩ := upd_none.1 hb9
    have y3 : b6 ≠ b9 := by rintro rfl; rw [h63] at hb9; cases hb9
    simp (disch := omega) [u0, u1, u2, u3, u4, u5, u6, h63, h4, h5, hc, y1, y2, y3, Ne.symm y2, Ne.symm y3, Ne.symm y1, o3, o4, o5, o6]
    generalize hH4 : upd (upd (upd (upd (upd H3 b8 _) b9 _) b8 _) b9 _) b6 _ = H4
    have k6 : H4 b6 = some (.cells (rcs m' a3)) := by rw [← hH4]; simp [rcs]
    have k9 : H4 b9 = some (.cells [vi r.e, vi r.n, vb r.ok, l3]) := by rw [← hH4]; simp [Ne.symm y3]
    have kk : ∀ z, H3 z ≠ none → z ≠ b6 → H4 z = H3 z := by
      intro z hz hz6
      have w1 : z ≠ b8 := by rintro rfl; exact hz hb8
      have w2 : z ≠ b9 := by rintro rfl; exact hz hb9
      rw [← hH4]
      simp [w1, w2, hz6]
    clear hH4
    have st4 : St H4 F i m := st3.keep fun z hz => kk z (st3.own z hz) (by rintro rfl; exact hF6 hz)
    have hF9 : ¬ F b9 := fun h => st3.own b9 h hb9
    have hr4 : Row H4 m'.ch a3 (fun k => ¬ F k ∧ k ≠ b6) := by
      rcases hr3 with h | ⟨b, x, rest, g1, g2, g3⟩
      · exact .inl h
      · have w : ¬ F b ∧ b ≠ b6 := by
          rcases g3 with g3 | g3
          · exact g3
          · exact ⟨fun h => hst.own b h g3, by rintro rfl; rw [hh6] at g3; cases g3⟩
        exact .inr ⟨b, x, rest, g1, by rw [kk b (by rw [g2]; simp) w.2, g2], w⟩
    have hl4 : LRow H4 r.l l3 (fun k => ¬ F k ∧ H4 k ≠ none) := by
      rcases hl3 with h | ⟨b, x, g1, g2, g3⟩
      · exact .inl h
      · have w : b ≠ b6 := by rintro rfl; rw [hh6] at g3; cases g3
        have w2 : H4 b = some (.cells (r.l.flatMap dcell)) := by rw [kk b (by rw [g2]; simp) w, g2]
        exact .inr ⟨b, x, g1, w2, fun h => hst.own b h g3, by rw [w2]; simp⟩
    refine c15 st4 hI.lt l[j] fun H5 F5 a5 st5 t5 hl5 => ?_
    rw [hd] at st5 hl5 ⊢
    simp only at st5 hl5 ⊢
    have q9 : H5 b9 = some (.cells [vi r.e, vi r.n, vb r.ok, l3]) := by rw [t5.2 b9 hF9 (by rw [k9]; simp), k9]
    have q6 : H5 b6 = some (.cells (rcs m' a3)) := by rw [t5.2 b6 hF6 (by rw [k6]; simp), k6]
    have own5 : ∀ z, ¬ F z → H4 z ≠ none → ¬ F5 z := fun z h1 h2 h3 => (t5.1 z h3).elim h1 h2
    have hr5 : Row H5 m'.ch a3 (fun k => ¬ F5 k ∧ k ≠ b6) := by
      rcases hr4 with h | ⟨b, x, rest, g1, g2, g3⟩
      · exact .inl h
      · exact .inr ⟨b, x, rest, g1, by rw [t5.2 b g3.1 (by rw [g2]; simp), g2], own5 b g3.1 (by rw [g2]; simp), g3.2⟩
    have hl6 : LRow H5 r.l l3 (fun _ => True) := by
      rcases hl4 with h | ⟨b, x, g1, g2, g3, _⟩
      · exact .inl h
      · exact .inr ⟨b, x, g1, by rw [t5.2 b g3 (by rw [g2]; simp), g2], trivial⟩
    simp (disch := omega) [u0, u1, u2, u3, u4, u5, u6, h4, h5, hc, q9]
    have hrl : r.l.length < 100 := by have := res_len hI l[j]; rw [hd] at this; exact this
    refine c14 r r hl5 hl6 hrl fun H6 hE6 => ?_
    have st6 : St H6 F5 i m' := st5.keep fun z hz => hE6 z (st5.own z hz)
    have v6 : H6 b6 = some (.cells [vb true, vi m'.b0, vi m'.b1, vb (!decide (m'.d0 = 0)), vi m'.d0, vi m'.d1, vi m'.owner, a3]) := by rw [hE6 b6 (by rw [q6]; simp), q6]; rfl
    have hr6 : Row H6 m'.ch a3 (fun k => ¬ F5 k ∧ k ≠ b6) := by
      rcases hr5 with h | ⟨b, x, rest, g1, g2, g3⟩
      · exact .inl h
      · exact .inr ⟨b, x, rest, g1, by rw [hE6 b (by rw [g2]; simp), g2], g3⟩
    simp
    refine c16 st6 hI'.lt ?_
    simp (disch := omega) [v6]
    refine c17 hI' hr6 fun H7 hE7 => ?_
    have st7 : St H7 F5 i m' := st6.keep fun z hz => hE7 z (st6.own z hz)
    have v7 : H7 b6 = some (.cells [vb true, vi m'.b0, vi m'.b1, vb (!decide (m'.d0 = 0)), vi m'.d0, vi m'.d1, vi m'.owner, a3]) := by rw [hE7 b6 (by rw [v6]; simp), v6]
    have hr7 : Row H7 m'.ch a3 (fun k => ¬ F5 k ∧ k ≠ b6) := by
      rcases hr6 with h | ⟨b, x, rest, g1, g2, g3⟩
      · exact .inl h
      · exact .inr ⟨b, x, rest, g1, by rw [hE7 b (by rw [g2]; simp), g2], g3⟩
    simp (disch := omega) [u0, u1, u2, u3, u4, u5, u6, h4, h5, hc, v7]
    have hcc := opcs_c l j hc
    refine c18 st7 hI'.lt c ?_
    simp (disch := omega) [u0, u1, u2, u3, u4, u5, u6, h4, h5, hc, v7]
    refine c19 hI' hr7 c fun H8 hE8 => ?_
    have st8 : St H8 F5 i m' := st7.keep fun z hz => hE8 z (st7.own z hz)
    have v8 : H8 b6 = some (.cells [vb true, vi m'.b0, vi m'.b1, vb (!decide (m'.d0 = 0)), vi m'.d0, vi m'.d1, vi m'.owner, a3]) := by rw [hE8 b6 (by rw [v7]; simp), v7]
    have hr8 : Row H8 m'.ch a3 (fun k => ¬ F5 k ∧ k ≠ b6) := by
      rcases hr7 with h | ⟨b, x, rest, g1, g2, g3⟩
      · exact .inl h
      · exact .inr ⟨b, x, rest, g1, by rw [hE8 b (by rw [g2]; simp), g2], g3⟩
    simp (disch := omega) [u0, u1, u2, u3, u4, u5, u6, h4, h5, hc, v8, hcc]
    refine c18 st8 hI'.lt _ ?_
    simp (disch := omega) [u0, u1, u2, u3, u4, u5, u6, h4, h5, hc, v8, hcc]
    refine c19 hI' hr8 _ fun H9 hE9 => ?_
    have st9 : St H9 F5 i m' := st8.keep fun z hz => hE9 z (st8.own z hz)
    have v9 : H9 b6 = some (.cells (rcs m' a3)) := by rw [hE9 b6 (by rw [v8]; simp), v8]; rfl
    have hr9 : Row H9 m'.ch a3 (fun k => ¬ F5 k ∧ k ≠ b6) := by
      rcases hr8 with h | ⟨b, x, rest, g1, g2, g3⟩
      · exact .inl h
      · exact .inr ⟨b, x, rest, g1, by rw [hE9 b (by rw [g2]; simp), g2], g3⟩
    have hF56 : ¬ F5 b6 := own5 b6 hF6 (by rw [k6]; simp)
    simp (disch := omega) [u0, u1, u2, u3, u4, u5, u6, IntWalk.i64_in]
    refine ⟨Hid.of ⟨j + 1, H9, F5, m', a3, rfl, rfl, ?_, ?_, ?_, ?_, ?_, hc, st9, hI', v9, hF56, hr9⟩, by omega⟩
    · simp
    · simp
    · simp
    · simp
    · simp
  · simp at hc
    simp
    refine c10 fun H' _ => ?_
    simp
    exact hk _
end Go.Proofs.Ytmchflhambfhkaa
