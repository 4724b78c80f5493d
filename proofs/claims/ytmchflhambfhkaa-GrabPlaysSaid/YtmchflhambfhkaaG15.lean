/-
  What the specification's find and cut do. Conditions: as each lemma states them.
-/
import Derived.Test.YtmchflhambfhkaaG14
namespace Go.Proofs.Ytmchflhambfhkaa
open Go Go.Ab Go.RowKit
set_option linter.unusedSimpArgs false
set_option linter.unusedVariables false
set_option linter.unnecessarySimpa false

attribute [local simp] condK_true condK_false condK_not wpc_skip wpc_ret wpc_exit wpc_seq wpc_reg wpc_regD testA_bool wpc_cond wpc_block thenA_normal thenA_ret thenA_exit blockA_normal blockA_ret blockA_exit blockA_other endA_normal endA_ret ev_tmp' ev_const ev_func ev_global cv_int cv_bool cv_string cv_pointer cv_slice cv_agg put_some put_none wH_s setE_apply less_eq env_cons env_nil upd_apply del_apply startA_eq cells_ag cells_sl one_sl cells_vs one_vs cells_ep one_ep cells_fn one_fn cells_int one_int cells_bool one_bool cells_string one_string cells_pointer one_pointer cells_slice one_slice cells_map one_map cells_agg resK_one resK_nil resK_two rvK_t rvK_c rvsK_nil rvsK_cons iseq_nil iseq_cons gdA_true gdA_false gdA_undef istep_free istep_guard istepV_free istepV_guard dseq_nil dseq_pu dseq_rd dseq_ef chkAll_nil chkAll_cons andK_true pickK_true pickK_false pickK_tb pickK_fb bin2K_pl eqbK_eq eqbK_ne eqpK_eq eqpK_ne un1K_pl convK_int fillK_some fillA_cons fillA_nil cellsK_some needK_true needK_ok seeK_ep seeK_ptr oneK_agg oneK_one nilcK_ptr nilcK_ep fadrK_ptr fadrK_ep fldK_ag iadAK_ptr iadAK_ep iadSK_sl iadSK_vs extK_0 extK_1 extK_2 extK_3 lenK_pl lenK_sl lenK_vs lensK_pl boxK_some minmax1K_int storeK_ptr callvK_fn callvK_pl newsK_nil newsK_vs newsK_sl appK_nil appK_nil0 appK_sl appK_vs bnd1K_int bndK_none bndK_some slsK_vs slsK_nil slsK_sl0 slsK_sl slstrK_pl boolK_some eqsK_ag iop_eqs iop_sls iop_slstr iop_mov iop_pick iop_bin iop_eqb iop_eqp iop_un iop_conv iop_build iop_load iop_nilc iop_fadr iop_fld iop_iadA iop_iadS iop_ext iop_mkf iop_len iop_lens iop_minmax iop_al iop_box iop_bsl iop_store iop_call iop_callv iop_app BIN_add BIN_sub BIN_mul BIN_and BIN_or BIN_xor BIN_andNot BIN_eql BIN_neq BIN_lss BIN_leq BIN_gtr BIN_geq BIN_quo BIN_rem BIN_shl BIN_shr BIN_sadd BIN_seql BIN_sneq BIN_slss BIN_sleq BIN_sgtr BIN_sgeq UN_neg UN_xor UN_not MM_nil MM_cons partsA argsA ptrA lessL eqL min2I
attribute [local simp] slotN_int slotP_int


theorem c38 {H : AH} {m : M} {a : AV} {G : Nat → Prop} (hI : Inv m) (hr : Row H m.ch a G) (x : Int) {K : AV → AH → Prop} (hk : ∀ H', Ext H H' → K (vi (fnd x m.ch 0)) H') :
    ACall Try.prog 38 [.ag (rcs m a), vi x] H K := by
  refine call_c follows cf38_ok (by simp) ?_
  obtain ⟨o1, o2⟩ := hr.one
  have hl := hI.len
  simp [rcs]
  refine newK_of fun p hp => ?_
  simp
  have he : ∀ o, Ext H (upd H p o) := fun o => (Ext.refl H).upd hp
  generalize hH1 : upd H p (AO.cells [vb true, vi m.b0, vi m.b1, vb !decide (m.d0 = 0), vi m.d0, vi m.d1, vi m.owner, a]) = H1
  have he1 : Ext H H1 := hH1 ▸ he _
  have hp1 : H1 p = some (AO.cells [vb true, vi m.b0, vi m.b1, vb !decide (m.d0 = 0), vi m.d0, vi m.d1, vi m.owner, a]) := by rw [← hH1]; simp
  clear hH1 he
  refine wpc_loop (fun s => ∃ j : Nat, s.n = 21 ∧ s.H = H1 ∧ s.t 1 = vi x ∧ s.t 2 = ptrA p ∧ s.t 5 = vi j ∧ j ≤ m.ch.length ∧ fnd x (m.ch.drop j) j = fnd x m.ch 0)
    (fun s => m.ch.length - slotN (s.t 5)) ?_ ?_
  · exact ⟨0, by simp⟩
  rintro s ⟨j, hn, hH, e1, e2, e5, hj, hf⟩
  simp [hn, hH, e1, e2, e5, hp1]
  refine hr.len ?_
  simp [hn, hH, e1, e2, e5, hp1]
  refine condK_of (fun hc => ?_) (fun hc => ?_)
  · simp at hc
    obtain ⟨b, xx, rest, rfl, hb⟩ := hr.at hc
    have hb1 : H1 b = some (AO.cells (m.ch.map vi ++ rest)) := by rw [he1 b (by rw [hb]; simp), hb]
    rw [fnd_step hc] at hf
    simp (disch := omega) [hn, hH, e1, e2, e5, hp1, hb1, cell_of, hc]
    refine condK_of (fun hd => ?_) (fun hd => ?_)
    · simp at hd
      rw [if_pos hd] at hf
      simp
      rw [hf]
      exact hk _ he1
    · simp at hd
      rw [if_neg hd] at hf
      simp (disch := omega) [IntWalk.i64_in, e5]
      refine ⟨Hid.of ⟨j + 1, ?_⟩, by omega⟩
      simp [*]
      omega
  · simp at hc
    have : j = m.ch.length := by omega
    subst this
    simp [fnd] at hf
    simp
    rw [hf]
    exact hk _ he1

/-- A list of deliveries that grows, in a heap that only grows. -/
def LP (H : AH) (G : Nat → Prop) (r : M × List (Int × Int)) (K : AV → AH → Prop) : Prop :=
  ∀ H' a l, Ext H H' → Row H' r.1.ch a (fun k => G k ∨ H k = none) → LRow H' r.2 l (fun k => H k = none) → K (.tp [.ag (rcs r.1 a), l]) H'

theorem c39 {H : AH} {m : M} {a : AV} {G : Nat → Prop} (hI : Inv m) (hr : Row H m.ch a G) (k : Nat) (hk0 : k ≤ m.ch.length) {K : AV → AH → Prop} (hk : LP H G (cutM m k) K) :
    ACall Try.prog 39 [.ag (rcs m a), vi k] H K := by
  refine call_c follows cf39_ok (by simp) ?_
  obtain ⟨o1, o2⟩ := hr.one
  have hl := hI.len
  simp [rcs]
  refine newK_of fun p hp => ?_
  simp
  refine newK_of fun q hq => ?_
  obtain ⟨n1, hq⟩ := upd_none.1 hq
  have n2 := Ne.symm n1
  simp [n1, n2]
  refine hr.len ?_
  simp (disch := omega) [IntWalk.i64_in]
  generalize hH1 : upd (upd H p (AO.cells [vb true, vi m.b0, vi m.b1, vb !decide (m.d0 = 0), vi m.d0, vi m.d1, vi m.owner, a])) q _ = H1
  have he1 : Ext H H1 := hH1 ▸ ((Ext.refl H).upd hp).upd hq
  have hp1 : H1 p = some (AO.cells [vb true, vi m.b0, vi m.b1, vb !decide (m.d0 = 0), vi m.d0, vi m.d1, vi m.owner, a]) := by rw [← hH1]; simp [n1, n2]
  have hq1 : ∃ cs, H1 q = some (AO.cells cs) ∧ cs.length = 8 := by rw [← hH1]; exact ⟨_, by simp; rfl, rfl⟩
  clear hH1
  obtain ⟨qs, hq1, hqs⟩ := hq1
  refine wpc_loop (fun s => ∃ (j : Nat) (out : AV) (Hs : AH), s.n = 42 ∧ s.H = Hs ∧ s.t 1 = vi k ∧ s.t 2 = ptrA p ∧ s.t 4 = ptrA q ∧ s.t 6 = out ∧ s.t 7 = vi ((j : Int) - 1) ∧ k ≤ j ∧ j ≤ m.ch.length ∧
      Ext H1 Hs ∧ LRow Hs ((m.ch.drop j).reverse.map fun x => (m.owner, x)) out (fun r => H1 r = none))
    (fun s => slotP (s.t 7)) ?_ ?_
  · refine ⟨m.ch.length, .pl (.slice none 0 0), H1, ?_⟩
    simp
    exact ⟨hk0, Ext.refl _, .inl ⟨rfl, rfl⟩⟩
  rintro s ⟨j, out, Hs, hn, hH, e1, e2, e4, e6, e7, hp1', hp2', hEx, hout⟩
  have hps : Hs p = some (AO.cells [vb true, vi m.b0, vi m.b1, vb !decide (m.d0 = 0), vi m.d0, vi m.d1, vi m.owner, a]) := by rw [hEx p (by rw [hp1]; simp), hp1]
  have hqs' : Hs q = some (AO.cells qs) := by rw [hEx q (by rw [hq1]; simp), hq1]
  simp [hn, hH, e1, e2, e4, e6, e7, hps]
  refine condK_of (fun hc => ?_) (fun hc => ?_)
  · simp at hc
    have hpl : j - 1 < m.ch.length := by omega
    obtain ⟨b, x, rest, rfl, hb⟩ := hr.at hpl
    have hB1 : H1 b = some (AO.cells (m.ch.map vi ++ rest)) := by rw [he1 b (by rw [hb]; simp), hb]
    have hsb : Hs b = some (AO.cells (m.ch.map vi ++ rest)) := by rw [hEx b (by rw [hB1]; simp), hB1]
    have e9 : ((j : Int) - 1).toNat = j - 1 := by omega
    have e8 : (m.ch.drop (j - 1)).reverse.map (fun x => (m.owner, x)) = (m.ch.drop j).reverse.map (fun x => (m.owner, x)) ++ [(m.owner, m.ch[j - 1])] := by
      rw [List.drop_eq_getElem_cons hpl, show j - 1 + 1 = j by omega]
      simp
    have e10 : ((m.ch.drop j).reverse.map (fun x => (m.owner, x))).length < 100 := by simp; omega
    generalize hL : (m.ch.drop j).reverse.map (fun x => (m.owner, x)) = L at *
    have e11 := dcell_len L
    have fin : ∀ (H' : AH) (n : Nat) (b2 : Nat), Ext H1 H' → H1 b2 = none → n = L.length + 1 → H' b2 = some (.cells ((L ++ [(m.owner, m.ch[j - 1])]).flatMap dcell)) →
        LRow H' ((m.ch.drop (j - 1)).reverse.map (fun x => (m.owner, x))) (.sl b2 0 n 9 false) (fun r => H1 r = none) := by
      rintro H' n b2 g1 g2 rfl g3
      rw [e8]
      exact .inr ⟨b2, false, by simp, g3, g2⟩
    simp (disch := omega) [hn, hH, e1, e2, e4, e6, e7, hps, hsb, cell_of, e9]
    refine newK_of fun b1 hb1 => ?_
    have z1 : p ≠ b1 := by rintro rfl; rw [hps] at hb1; cases hb1
    have z2 : b ≠ b1 := by rintro rfl; rw [hsb] at hb1; cases hb1
    have z3 : H1 b1 = none := by
      cases e : H1 b1 with
      | none => rfl
      | some o => rw [hEx b1 (by rw [e]; simp), e] at hb1; cases hb1
    have zq : q ≠ b1 := by rintro rfl; rw [hqs'] at hb1; cases hb1
    rcases hout with ⟨ho1, rfl⟩ | ⟨r, xx, rfl, ho2, ho3⟩
    · simp (disch := omega) [hn, hH, e1, e2, e4, e6, e7, hps, hsb, cell_of, e9, z1, z2]
      refine newK_of fun b2 hb2 => ?_
      obtain ⟨z4, hb2⟩ := upd_none.1 hb2
      have z5 : p ≠ b2 := by rintro rfl; rw [hps] at hb2; cases hb2
      have z6 : b ≠ b2 := by rintro rfl; rw [hsb] at hb2; cases hb2
      have z7 : H1 b2 = none := by
        cases e : H1 b2 with
        | none => rfl
        | some o => rw [hEx b2 (by rw [e]; simp), e] at hb2; cases hb2
      have hE2 : ∀ o1 o2, Ext H1 (upd (upd Hs b1 o1) b2 o2) := fun _ _ => (hEx.upd z3).upd z7
      simp (disch := omega) [hn, hH, e1, e2, e4, e6, e7, hps, hsb, cell_of, e9, z1, z2, z5, z6, IntWalk.i64_in]
      refine ⟨Hid.of ⟨j - 1, .sl b2 0 1 9 false, _, rfl, rfl, rfl, rfl, rfl, rfl, ?_, by omega, by omega, hE2 _ _, fin _ 1 b2 (hE2 _ _) z7 (by rw [ho1]; rfl) ?_⟩, by omega⟩
      · simp; omega
      · simp [ho1, dcell]
    · have z4 : r ≠ b1 := by rintro rfl; rw [ho2] at hb1; cases hb1
      have z5 : p ≠ r := by rintro rfl; rw [ho3] at hp1; cases hp1
      have z6 : b ≠ r := by rintro rfl; rw [ho3] at hB1; cases hB1
      simp (disch := omega) [hn, hH, e1, e2, e4, e6, e7, hps, hsb, cell_of, e9, z1, z2, z4, ho2, e11]
      refine ownK_of fun b2 hb2 => ?_
      have z7 : H1 b2 = none := by
        rcases hb2 with rfl | hb2
        · exact ho3
        · obtain ⟨_, hb2⟩ := upd_none.1 hb2
          cases e : H1 b2 with
          | none => rfl
          | some o => rw [hEx b2 (by rw [e]; simp), e] at hb2; cases hb2
      have z8 : p ≠ b2 := by rintro rfl; rw [z7] at hp1; cases hp1
      have z9 : b ≠ b2 := by rintro rfl; rw [z7] at hB1; cases hB1
      have hE2 : ∀ o1 o2, Ext H1 (upd (del (upd Hs b1 o1) r) b2 o2) := fun _ _ => ((hEx.upd z3).del ho3).upd z7
      simp (disch := omega) [hn, hH, e1, e2, e4, e6, e7, hps, hsb, cell_of, e9, z1, z2, z4, z5, z6, z8, z9, IntWalk.i64_in]
      refine ⟨Hid.of ⟨j - 1, .sl b2 0 (L.length + 1) 9 false, _, rfl, rfl, rfl, rfl, rfl, rfl, ?_, by omega, by omega, hE2 _ _, fin _ _ b2 (hE2 _ _) z7 rfl ?_⟩, by omega⟩
      · simp; omega
      · simp [dcell]
        rw [List.take_of_length_le (by omega)]
  · simp at hc
    have : j = k := by omega
    subst this
    simp [hn, hH, e1, e2, e4, e6, e7, hps]
    refine hr.len ?_
    have hEH : Ext H Hs := he1.trans hEx
    have hqn : H q = none := hq
    have nn : ∀ z, Hs z = none → H z = none := by
      intro z hz
      cases e : H z with
      | none => rfl
      | some o => rw [hEH z (by rw [e]; simp), e] at hz; cases hz
    have nn1 : ∀ z, H1 z = none → H z = none := by
      intro z hz
      cases e : H z with
      | none => rfl
      | some o => rw [he1 z (by rw [e]; simp), e] at hz; cases hz
    unfold cutM at hk
    simp
    refine condK_of (fun hd => ?_) (fun hd => ?_)
    · simp at hd
      obtain ⟨b, x, rest, rfl, hb⟩ := hr.at (i := 0) (by omega)
      have hsb : Hs b = some (AO.cells (m.ch.map vi ++ rest)) := by rw [hEH b (by rw [hb]; simp), hb]
      have tk : List.take j (m.ch.map vi ++ rest) = (m.ch.take j).map vi := by rw [List.take_append_of_le_length (by simp; omega), List.map_take]
      simp (disch := omega) [hn, hH, e1, e2, e4, e6, e7, hps]
      refine newK_of fun b3 hb3 => ?_
      have y1 : p ≠ b3 := by rintro rfl; rw [hps] at hb3; cases hb3
      have y2 : b ≠ b3 := by rintro rfl; rw [hsb] at hb3; cases hb3
      have y3 : q ≠ b3 := by rintro rfl; rw [hqs'] at hb3; cases hb3
      simp (disch := omega) [hn, hH, e1, e2, e4, e6, e7, hps, hsb, y1, y2, y3, tk]
      refine needK_of ⟨fun x hx => by simp only [← List.map_take, List.mem_map] at hx; obtain ⟨y, _, rfl⟩ := hx; rfl, by omega⟩ ?_
      refine ownK_of fun b4 hb4 => ?_
      have y4 : Hs b4 = none := by
        rcases hb4 with rfl | hb4
        · exact hb3
        · exact (upd_none.1 hb4).2
      have y5 : p ≠ b4 := by rintro rfl; rw [hps] at y4; cases y4
      have y6 : q ≠ b4 := by rintro rfl; rw [hqs'] at y4; cases y4
      simp (disch := omega) [hps, hqs', y1, y3, y5, y6, n1, n2]
      have hE : ∀ o1 o2 o3 o4, Ext H (upd (upd (upd (del (upd Hs b3 o1) b3) b4 o2) p o3) q o4) := fun _ _ _ _ => ((((hEH.upd (nn _ hb3)).del (nn _ hb3)).upd (nn _ y4)).upd hp).upd hqn
      refine hk _ (.sl b4 0 j 1 false) out (hE _ _ _ _) (.inr ⟨b4, false, [], ?_, ?_, .inr (nn _ y4)⟩) ?_
      · simp; omega
      · simp [Ne.symm y5, Ne.symm y6]
      · rcases hout with h | ⟨r, z, g1, g2, g3⟩
        · exact .inl h
        · have w1 : r ≠ b3 := by rintro rfl; rw [g2] at hb3; cases hb3
          have w2 : r ≠ b4 := by rintro rfl; rw [g2] at y4; cases y4
          have w3 : r ≠ p := by rintro rfl; rw [g3] at hp1; cases hp1
          have w4 : r ≠ q := by rintro rfl; rw [g3] at hq1; cases hq1
          refine .inr ⟨r, z, g1, ?_, nn1 _ g3⟩
          simp only [upd_apply, del_apply, if_neg w1, if_neg w2, if_neg w3, if_neg w4]
          exact g2
    · simp at hd
      have hkl : j = m.ch.length := by omega
      have hq8 : 8 ≤ qs.length := by omega
      simp [hps, hqs', n1, n2, hq8, o2]
      have hE : ∀ o1, Ext H (upd Hs q o1) := fun _ => hEH.upd hqn
      refine hk _ a out (hE _) ?_ ?_
      · simp only [hkl, List.take_length]
        exact hr.ext (hE _)
      · rcases hout with h | ⟨r, z, g1, g2, g3⟩
        · exact .inl h
        · have w4 : r ≠ q := by rintro rfl; rw [g3] at hq1; cases hq1
          refine .inr ⟨r, z, g1, ?_, nn1 _ g3⟩
          simp only [upd_apply, if_neg w4]
          exact g2
end Go.Proofs.Ytmchflhambfhkaa
