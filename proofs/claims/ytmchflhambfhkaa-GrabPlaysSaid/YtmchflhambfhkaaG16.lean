/-
  What the specification's Dismiss, Click and Popup do. Conditions: as each lemma states them.
-/
import Derived.Test.YtmchflhambfhkaaG15
namespace Go.Proofs.Ytmchflhambfhkaa
open Go Go.Ab Go.RowKit
set_option linter.unusedSimpArgs false
set_option linter.unusedVariables false
set_option linter.unnecessarySimpa false

attribute [local simp] condK_true condK_false condK_not wpc_skip wpc_ret wpc_exit wpc_seq wpc_reg wpc_regD testA_bool wpc_cond wpc_block thenA_normal thenA_ret thenA_exit blockA_normal blockA_ret blockA_exit blockA_other endA_normal endA_ret ev_tmp' ev_const ev_func ev_global cv_int cv_bool cv_string cv_pointer cv_slice cv_agg put_some put_none wH_s setE_apply less_eq env_cons env_nil upd_apply del_apply startA_eq cells_ag cells_sl one_sl cells_vs one_vs cells_ep one_ep cells_fn one_fn cells_int one_int cells_bool one_bool cells_string one_string cells_pointer one_pointer cells_slice one_slice cells_map one_map cells_agg resK_one resK_nil resK_two rvK_t rvK_c rvsK_nil rvsK_cons iseq_nil iseq_cons gdA_true gdA_false gdA_undef istep_free istep_guard istepV_free istepV_guard dseq_nil dseq_pu dseq_rd dseq_ef chkAll_nil chkAll_cons andK_true pickK_true pickK_false pickK_tb pickK_fb bin2K_pl eqbK_eq eqbK_ne eqpK_eq eqpK_ne un1K_pl convK_int fillK_some fillA_cons fillA_nil cellsK_some needK_true needK_ok seeK_ep seeK_ptr oneK_agg oneK_one nilcK_ptr nilcK_ep fadrK_ptr fadrK_ep fldK_ag iadAK_ptr iadAK_ep iadSK_sl iadSK_vs extK_0 extK_1 extK_2 extK_3 lenK_pl lenK_sl lenK_vs lensK_pl boxK_some minmax1K_int storeK_ptr callvK_fn callvK_pl newsK_nil newsK_vs newsK_sl appK_nil appK_nil0 appK_sl appK_vs bnd1K_int bndK_none bndK_some slsK_vs slsK_nil slsK_sl0 slsK_sl slstrK_pl boolK_some eqsK_ag iop_eqs iop_sls iop_slstr iop_mov iop_pick iop_bin iop_eqb iop_eqp iop_un iop_conv iop_build iop_load iop_nilc iop_fadr iop_fld iop_iadA iop_iadS iop_ext iop_mkf iop_len iop_lens iop_minmax iop_al iop_box iop_bsl iop_store iop_call iop_callv iop_app BIN_add BIN_sub BIN_mul BIN_and BIN_or BIN_xor BIN_andNot BIN_eql BIN_neq BIN_lss BIN_leq BIN_gtr BIN_geq BIN_quo BIN_rem BIN_shl BIN_shr BIN_sadd BIN_seql BIN_sneq BIN_slss BIN_sleq BIN_sgtr BIN_sgeq UN_neg UN_xor UN_not MM_nil MM_cons partsA argsA ptrA lessL eqL min2I
attribute [local simp] slotN_int slotP_int


/-- Behind calls that only add blocks: the argument's block p, the result's block q. -/
theorem two {H H1 H3 : AH} {p q : Nat} {cs ds : List AV} (hp : H p = none) (hq : H q = none) (hpq : q ≠ p) (h1 : H1 = upd (upd H p (.cells cs)) q (.cells ds)) (h : Ext H1 H3) :
    H3 p = some (.cells cs) ∧ H3 q = some (.cells ds) ∧ Ext H H3 ∧ (∀ o, Ext H (upd H3 q o)) ∧ (∀ z, H3 z = none → H z = none) ∧ (∀ z, H1 z = none → H z = none ∧ z ≠ p ∧ z ≠ q) := by
  have g1 : H1 p = some (.cells cs) := by rw [h1]; simp [Ne.symm hpq]
  have g2 : H1 q = some (.cells ds) := by rw [h1]; simp
  have g3 : Ext H H1 := by rw [h1]; exact ((Ext.refl H).upd hp).upd hq
  refine ⟨by rw [h p (by rw [g1]; simp), g1], by rw [h q (by rw [g2]; simp), g2], g3.trans h, fun _ => (g3.trans h).upd hq, fun z hz => ?_, fun z hz => ?_⟩
  · cases e : H z with
    | none => rfl
    | some o => rw [(g3.trans h) z (by rw [e]; simp), e] at hz; cases hz
  · refine ⟨?_, ?_, ?_⟩
    · cases e : H z with
      | none => rfl
      | some o => rw [g3 z (by rw [e]; simp), e] at hz; cases hz
    · rintro rfl; rw [g1] at hz; cases hz
    · rintro rfl; rw [g2] at hz; cases hz

theorem LRow.put {H H1 H3 : AH} {q : Nat} {o : AO} {l : List (Int × Int)} {a : AV} (h : LRow H3 l a (fun k => H1 k = none)) (hz : ∀ z, H1 z = none → H z = none ∧ z ≠ q) : LRow (Ab.upd H3 q o) l a (fun k => H k = none) := by
  rcases h with h | ⟨r, z, g1, g2, g3⟩
  · exact .inl h
  · refine .inr ⟨r, z, g1, ?_, (hz r g3).1⟩
    simp only [upd_apply, if_neg (hz r g3).2]
    exact g2

theorem Row.ext0 {H H' : AH} {l : List Int} {a : AV} {G : Nat → Prop} (h : Row H l a G) (he : Ext H H') : Row H' l a (fun k => G k ∧ H k ≠ none) := by
  rcases h with h | ⟨b, x, rest, h1, h2, h3⟩
  · exact .inl h
  · exact .inr ⟨b, x, rest, h1, by rw [he b (by rw [h2]; simp), h2], h3, by rw [h2]; simp⟩
theorem Row.put {H H2 H3 : AH} {q : Nat} {o : AO} {l : List Int} {a : AV} {G : Nat → Prop} (h : Row H3 l a (fun k => (G k ∧ H k ≠ none) ∨ H2 k = none)) (hq : H q = none) (hq2 : H2 q ≠ none) (hz : ∀ z, H2 z = none → H z = none) :
    Row (Ab.upd H3 q o) l a (fun k => G k ∨ H k = none) := by
  rcases h with h | ⟨r, x, rest, g1, g2, g3⟩
  · exact .inl h
  · have : r ≠ q := by
      rintro rfl
      rcases g3 with g3 | g3
      · exact g3.2 hq
      · exact hq2 g3
    refine .inr ⟨r, x, rest, g1, ?_, ?_⟩
    · simp only [upd_apply, if_neg this]
      exact g2
    · rcases g3 with g3 | g3
      · exact .inl g3.1
      · exact .inr (hz r g3)

theorem c31 {H : AH} {m : M} {a : AV} {G : Nat → Prop} (hI : Inv m) (hr : Row H m.ch a G) (s : Int) {K : AV → AH → Prop} (hk : LP H G (dismissM m s) K) :
    ACall Try.prog 31 [.ag (rcs m a), vi s] H K := by
  refine call_c follows cf31_ok (by simp) ?_
  obtain ⟨o1, o2⟩ := hr.one
  simp [rcs]
  refine newK_of fun p hp => ?_
  simp
  refine newK_of fun q hq => ?_
  obtain ⟨n1, hq⟩ := upd_none.1 hq
  have n2 := Ne.symm n1
  simp [n1, n2]
  generalize hH1 : upd (upd H p _) q _ = H1
  have hr1 : Row H1 m.ch a (fun k => G k ∨ H k = none) := hr.ext (by rw [← hH1]; exact ((Ext.refl H).upd hp).upd hq)
  refine c38 hI hr1 s fun H2 he2 => ?_
  obtain ⟨z1, z2, z3, z4, z5, z6⟩ := two hp hq n1 hH1.symm he2
  unfold dismissM at hk
  by_cases e : fnd s m.ch 0 < 0
  · rw [if_pos e] at hk
    simp [e, z1, z2, n1, n2, o2]
    exact hk _ a _ (z4 _) (hr.ext (z4 _)) (.inl ⟨rfl, rfl⟩)
  · rw [if_neg e] at hk
    simp [e, z1, z2, n1, n2, o2]
    have e2 := fnd_range s m.ch 0
    have e3 : vi (fnd s m.ch 0) = vi ((fnd s m.ch 0).toNat : Nat) := by congr 2; omega
    rw [e3]
    have hr2 := hr.ext0 z3
    refine c39 hI hr2 _ (by omega) fun H3 a3 l3 he3 hr3 hl3 => ?_
    obtain ⟨w1, w2, w3, w4, w5, w6⟩ := two hp hq n1 hH1.symm (he2.trans he3)
    obtain ⟨o3, o4⟩ := hr3.one
    simp [rcs, w1, w2, n1, n2, o4]
    exact hk _ a3 l3 (w4 _) (hr3.put hq (by rw [z2]; simp) z5) (hl3.put fun z hz => ⟨z5 z hz, by rintro rfl; rw [z2] at hz; cases hz⟩)

theorem c32 {H : AH} {m : M} {a : AV} {G : Nat → Prop} (hI : Inv m) (hr : Row H m.ch a G) (c s : Int) {K : AV → AH → Prop} (hk : LP H G (clickM m c s) K) :
    ACall Try.prog 32 [.ag (rcs m a), vi c, vi s] H K := by
  refine call_c follows cf32_ok (by simp) ?_
  obtain ⟨o1, o2⟩ := hr.one
  simp [rcs]
  refine newK_of fun p hp => ?_
  simp
  refine newK_of fun q hq => ?_
  obtain ⟨n1, hq⟩ := upd_none.1 hq
  have n2 := Ne.symm n1
  simp [n1, n2]
  refine hr.len ?_
  unfold clickM at hk
  generalize hH1 : upd (upd H p _) q _ = H1
  obtain ⟨z1, z2, z3, z4, z5, z6⟩ := two hp hq n1 hH1.symm (Ext.refl _)
  by_cases e : m.ch = []
  · rw [if_pos e] at hk
    simp [e, z1, z2, n1, n2, o2]
    exact hk _ a _ (z4 _) (hr.ext (z4 _)) (.inl ⟨rfl, rfl⟩)
  have e0 : ¬ ((m.ch.length : Int) = 0) := by simpa using e
  rw [if_neg e] at hk
  simp [e, e0, z1, z2, n1, n2]
  have hr1 := hr.ext0 z3
  by_cases e1 : c = m.owner
  · rw [if_neg (by simp [e1])] at hk
    simp [e1, z1, z2, n1, n2]
    refine c38 hI hr1 s fun H2 he2 => ?_
    obtain ⟨z1, z2, z3, z4, z5, z6⟩ := two hp hq n1 hH1.symm he2
    by_cases e2 : fnd s m.ch 0 < 0
    · rw [if_pos e2] at hk
      simp [e2, z1, z2, n1, n2, o2]
      exact hk _ a _ (z4 _) (hr.ext (z4 _)) (.inl ⟨rfl, rfl⟩)
    · rw [if_neg e2] at hk
      have e4 := fnd_range s m.ch 0
      have hl := hI.len
      simp (disch := omega) [e2, z1, z2, n1, n2, o2, IntWalk.i64_in]
      have e3 : AV.pl (.int .i64 (fnd s m.ch 0 + 1)) = vi ((fnd s m.ch 0 + 1).toNat : Nat) := by congr 2; omega
      rw [e3]
      have hr2 := hr.ext0 z3
      refine c39 hI hr2 _ (by omega) fun H3 a3 l3 he3 hr3 hl3 => ?_
      obtain ⟨w1, w2, w3, w4, w5, w6⟩ := two hp hq n1 hH1.symm (he2.trans he3)
      obtain ⟨o3, o4⟩ := hr3.one
      simp [rcs, w1, w2, n1, n2, o4]
      exact hk _ a3 l3 (w4 _) (hr3.put hq (by rw [z2]; simp) z5) (hl3.put fun z hz => ⟨z5 z hz, by rintro rfl; rw [z2] at hz; cases hz⟩)
  · rw [if_pos e1] at hk
    have e1' : ¬ m.owner = c := fun h => e1 h.symm
    simp [e1', z1, z2, n1, n2]
    refine c39 hI hr1 0 (by omega) fun H3 a3 l3 he3 hr3 hl3 => ?_
    obtain ⟨w1, w2, w3, w4, w5, w6⟩ := two hp hq n1 hH1.symm he3
    obtain ⟨o3, o4⟩ := hr3.one
    simp [rcs, w1, w2, n1, n2, o4]
    exact hk _ a3 l3 (w4 _) (hr3.put hq (by rw [z2]; simp) z5) (hl3.put fun z hz => ⟨z5 z hz, by rintro rfl; rw [z2] at hz; cases hz⟩)

theorem fresh3 {H HH : AH} {z p q : Nat} (hE : Ext H HH) (hz : HH z = none) (hp : HH p ≠ none) (hq : HH q ≠ none) : H z = none ∧ z ≠ p ∧ z ≠ q := by
  refine ⟨?_, ?_, ?_⟩
  · cases e : H z with
    | none => rfl
    | some o => rw [hE z (by rw [e]; simp), e] at hz; cases hz
  · rintro rfl; exact hp hz
  · rintro rfl; exact hq hz

theorem c30 {H : AH} {m : M} {a : AV} {G : Nat → Prop} (hI : Inv m) (hr : Row H m.ch a G) (c s u : Int) {K : AV → AH → Prop} (hk : RP H G (popupM m c s u).1 fun v H' => K (.tp [v, vi (popupM m c s u).2]) H') :
    ACall Try.prog 30 [.ag (rcs m a), vi c, vi s, vi u] H K := by
  refine call_c follows cf30_ok (by simp) ?_
  obtain ⟨o1, o2⟩ := hr.one
  have hl := hI.len
  simp [rcs]
  refine newK_of fun p hp => ?_
  simp
  refine newK_of fun q hq => ?_
  obtain ⟨n1, hqn⟩ := upd_none.1 hq
  clear hq
  have hq := hqn
  clear hqn
  have n2 := Ne.symm n1
  simp [n1, n2]
  unfold popupM at hk
  generalize hH1 : upd (upd H p _) q _ = H1
  obtain ⟨z1, z2, z3, z4, z5, z6⟩ := two hp hq n1 hH1.symm (Ext.refl _)
  have done : ∀ (e : Int) (H' : AH), Ext H H' → RP H G m (fun v H' => K (.tp [v, vi e]) H') → K (.tp [.ag (rcs m a), vi e]) H' := fun e H' he h => h H' a he (hr.ext he)
  by_cases e1 : c < 1
  · rw [if_pos (.inl e1)] at hk
    simp [e1, z1, z2, n1, n2, o2]
    exact done _ _ (z4 _) hk
  by_cases e2 : s < 1
  · rw [if_pos (.inr (.inl e2))] at hk
    simp [e1, e2, z1, z2, n1, n2, o2]
    exact done _ _ (z4 _) hk
  by_cases e3 : u < 1
  · rw [if_pos (.inr (.inr e3))] at hk
    simp [e1, e2, e3, z1, z2, n1, n2, o2]
    exact done _ _ (z4 _) hk
  rw [if_neg (by omega)] at hk
  simp [e1, e2, e3, z1, z2, n1, n2, o2]
  have hr1 := hr.ext0 z3
  refine c38 hI hr1 s fun H2 he2 => ?_
  clear z1 z2 z3 z4 z5 z6
  obtain ⟨z1, z2, z3, z4, z5, z6⟩ := two hp hq n1 hH1.symm he2
  by_cases e4 : 0 ≤ fnd s m.ch 0
  · rw [if_pos e4] at hk
    simp [e4, z1, z2, n1, n2, o2]
    exact done _ _ (z4 _) hk
  rw [if_neg e4] at hk
  simp [e4, z1, z2, n1, n2, o2]
  refine hr.len ?_
  by_cases e5 : 8 ≤ m.ch.length
  · rw [if_pos e5] at hk
    have e5' : (8 : Int) ≤ m.ch.length := by omega
    simp [e5, e5', z1, z2, n1, n2, o2]
    exact done _ _ (z4 _) hk
  rw [if_neg e5] at hk
  have e5' : ¬ (8 : Int) ≤ m.ch.length := by omega
  -- what is left when the popup is taken
  have fin : ∀ (H3 : AH) (n : Nat) (b : Nat) (o1 o2 : AO), Ext H H3 → H b = none → b ≠ p → b ≠ q → n = m.ch.length + 1 → H3 b = some (.cells ((m.ch ++ [s]).map vi)) →
      RP H G { m with owner := c, ch := m.ch ++ [s] } (fun v H' => K (.tp [v, vi 0]) H') → K (.tp [.ag (rcs { m with owner := c, ch := m.ch ++ [s] } (.sl b 0 n 1 false)), vi 0]) (upd (upd H3 p o1) q o2) := by
    intro H3 n b o1 o2 g1 g2 g3 g4 g5 g6 hk
    have hE : Ext H (upd (upd H3 p o1) q o2) := (g1.upd hp).upd hq
    refine hk _ _ hE (.inr ⟨b, false, [], by simp [g5], ?_, .inr g2⟩)
    simp [g3, g4, g6]
  by_cases e6 : m.ch = []
  · have e7 : ¬ (0 : Int) < m.ch.length := by simp [e6]
    have e7' : ((m.ch.length : Int) = 0) := by simp [e6]
    rw [if_neg (by simp [e6])] at hk
    by_cases e8 : u = s
    · rw [if_pos (.inr ⟨e6, e8⟩)] at hk
      simp [e5, e5', e7, e7', e6, e8, z1, z2, n1, n2, o2]
      exact done _ _ (z4 _) hk
    · rw [if_neg (by simp [e6, e8])] at hk
      simp [e5, e5', e7, e7', e6, e8, z1, z2, n1, n2, o2]
      rcases hr with ⟨_, rfl⟩ | ⟨b, x, rest, rfl, hb, _⟩
      · refine newK_of fun b1 hb1 => ?_
        obtain ⟨u1, u2, u3⟩ := fresh3 (p := p) (q := q) (z3.upd hp) hb1 (by simp [z2, n1]) (by simp [z2, n1])
        simp (disch := omega) [z1, z2, n1, n2, u2, u3, Ne.symm u2, Ne.symm u3]
        refine ownK_of fun b2 hb2' => ?_
        have w : H b2 = none ∧ b2 ≠ p ∧ b2 ≠ q := by
          rcases hb2' with rfl | h
          · exact ⟨u1, u2, u3⟩
          · exact fresh3 (p := p) (q := q) ((z3.upd hp).upd u1) h (by simp [Ne.symm u2]) (by simp [z2, n1, Ne.symm u3])
        obtain ⟨w1, w2, w3⟩ := w
        simp (disch := omega) [z1, z2, n1, n2, u2, u3, Ne.symm u2, Ne.symm u3, w2, w3, Ne.symm w2, Ne.symm w3]
        refine newK_of fun b3 hb3 => ?_
        obtain ⟨x1, x2, x3⟩ := fresh3 (p := p) (q := q) ((((z3.upd hp).upd u1).del u1).upd w1) hb3 (by simp [z1, z2, n1, n2, u2, u3, Ne.symm u2, Ne.symm u3, w2, w3, Ne.symm w2, Ne.symm w3]) (by simp [z1, z2, n1, n2, u2, u3, Ne.symm u2, Ne.symm u3, w2, w3, Ne.symm w2, Ne.symm w3])
        have x4 : b3 ≠ b2 := (upd_none.1 hb3).1
        simp (disch := omega) [z1, z2, n1, n2, u2, u3, Ne.symm u2, Ne.symm u3, w2, w3, Ne.symm w2, Ne.symm w3, x2, x3, x4, Ne.symm x2, Ne.symm x3, Ne.symm x4]
        refine ownK_of fun b4 hb4 => ?_
        have y : H b4 = none ∧ b4 ≠ p ∧ b4 ≠ q := by
          rcases hb4 with rfl | h
          · exact ⟨w1, w2, w3⟩
          · exact fresh3 (p := p) (q := q) (((((z3.upd hp).upd u1).del u1).upd w1).upd x1) h (by simp [z1, z2, n1, n2, u2, u3, Ne.symm u2, Ne.symm u3, w2, w3, Ne.symm w2, Ne.symm w3, Ne.symm x2, Ne.symm x3]) (by simp [z1, z2, n1, n2, u2, u3, Ne.symm u2, Ne.symm u3, w2, w3, Ne.symm w2, Ne.symm w3, Ne.symm x2, Ne.symm x3])
        obtain ⟨y1, y2, y3⟩ := y
        simp (disch := omega) [z1, z2, n1, n2, u2, u3, Ne.symm u2, Ne.symm u3, w2, w3, Ne.symm w2, Ne.symm w3, x2, x3, x4, Ne.symm x2, Ne.symm x3, Ne.symm x4, y2, y3, Ne.symm y2, Ne.symm y3]
        exact fin _ _ b4 _ _ ((((((((z3.upd hp).upd u1).del u1).upd w1).upd x1).del w1).upd y1)) y1 y2 y3 (by simp [e6]) (by simp [e6]) hk
      · have hb2 : H2 b = some (AO.cells (m.ch.map vi ++ rest)) := by rw [z3 b (by rw [hb]; simp), hb]
        have hbp : b ≠ p := by rintro rfl; rw [hp] at hb; cases hb
        have hbq : b ≠ q := by rintro rfl; rw [hq] at hb; cases hb
        have tk : List.take m.ch.length (m.ch.map vi ++ rest) = m.ch.map vi := by rw [List.take_append_of_le_length (by simp), List.take_of_length_le (by simp)]
        refine newK_of fun b1 hb1 => ?_
        obtain ⟨u1, u2, u3⟩ := fresh3 (p := p) (q := q) (z3.upd hp) hb1 (by simp [z2, n1]) (by simp [z2, n1])
        have v1 : b ≠ b1 := by rintro rfl; rw [u1] at hb; cases hb
        simp (disch := omega) [z1, z2, n1, n2, hb2, tk, hbp, hbq, Ne.symm hbp, Ne.symm hbq, v1, u2, u3, Ne.symm u2, Ne.symm u3]
        refine ownK_of fun b2 hb2' => ?_
        have w : H b2 = none ∧ b2 ≠ p ∧ b2 ≠ q := by
          rcases hb2' with rfl | h
          · exact ⟨u1, u2, u3⟩
          · exact fresh3 (p := p) (q := q) ((z3.upd hp).upd u1) h (by simp [Ne.symm u2]) (by simp [z2, n1, Ne.symm u3])
        obtain ⟨w1, w2, w3⟩ := w
        simp (disch := omega) [z1, z2, n1, n2, hb2, tk, hbp, hbq, Ne.symm hbp, Ne.symm hbq, v1, u2, u3, Ne.symm u2, Ne.symm u3, w2, w3, Ne.symm w2, Ne.symm w3]
        refine newK_of fun b3 hb3 => ?_
        obtain ⟨x1, x2, x3⟩ := fresh3 (p := p) (q := q) ((((z3.upd hp).upd u1).del u1).upd w1) hb3 (by simp [z1, z2, n1, n2, hb2, tk, hbp, hbq, Ne.symm hbp, Ne.symm hbq, v1, u2, u3, Ne.symm u2, Ne.symm u3, w2, w3, Ne.symm w2, Ne.symm w3]) (by simp [z1, z2, n1, n2, hb2, tk, hbp, hbq, Ne.symm hbp, Ne.symm hbq, v1, u2, u3, Ne.symm u2, Ne.symm u3, w2, w3, Ne.symm w2, Ne.symm w3])
        have x4 : b3 ≠ b2 := (upd_none.1 hb3).1
        simp (disch := omega) [z1, z2, n1, n2, hb2, tk, hbp, hbq, Ne.symm hbp, Ne.symm hbq, v1, u2, u3, Ne.symm u2, Ne.symm u3, w2, w3, Ne.symm w2, Ne.symm w3, x2, x3, x4, Ne.symm x2, Ne.symm x3, Ne.symm x4]
        refine ownK_of fun b4 hb4 => ?_
        have y : H b4 = none ∧ b4 ≠ p ∧ b4 ≠ q := by
          rcases hb4 with rfl | h
          · exact ⟨w1, w2, w3⟩
          · exact fresh3 (p := p) (q := q) (((((z3.upd hp).upd u1).del u1).upd w1).upd x1) h (by simp [z1, z2, n1, n2, hb2, tk, hbp, hbq, Ne.symm hbp, Ne.symm hbq, v1, u2, u3, Ne.symm u2, Ne.symm u3, w2, w3, Ne.symm w2, Ne.symm w3, Ne.symm x2, Ne.symm x3]) (by simp [z1, z2, n1, n2, hb2, tk, hbp, hbq, Ne.symm hbp, Ne.symm hbq, v1, u2, u3, Ne.symm u2, Ne.symm u3, w2, w3, Ne.symm w2, Ne.symm w3, Ne.symm x2, Ne.symm x3])
        obtain ⟨y1, y2, y3⟩ := y
        simp (disch := omega) [z1, z2, n1, n2, hb2, tk, hbp, hbq, Ne.symm hbp, Ne.symm hbq, v1, u2, u3, Ne.symm u2, Ne.symm u3, w2, w3, Ne.symm w2, Ne.symm w3, x2, x3, x4, Ne.symm x2, Ne.symm x3, Ne.symm x4, y2, y3, Ne.symm y2, Ne.symm y3]
        exact fin _ _ b4 _ _ ((((((((z3.upd hp).upd u1).del u1).upd w1).upd x1).del w1).upd y1)) y1 y2 y3 (by simp [e6]) (by simp [e6]) hk
  · have e6' := List.length_pos_iff.2 e6
    have e7 : (0 : Int) < m.ch.length := by omega
    have e7' : ¬ ((m.ch.length : Int) = 0) := by omega
    obtain ⟨b, x, rest, rfl, hb⟩ := hr.at e6'
    have e9 : ((m.ch.length : Int) - 1).toNat = m.ch.length - 1 := by omega
    have e10 : m.ch.getD (m.ch.length - 1) 0 = m.ch[m.ch.length - 1] := by rw [List.getD_eq_getElem?_getD, List.getElem?_eq_getElem (show m.ch.length - 1 < m.ch.length by omega)]; rfl
    rw [e10] at hk
    have hb2 : H2 b = some (AO.cells (m.ch.map vi ++ rest)) := by rw [z3 b (by rw [hb]; simp), hb]
    by_cases e8 : m.owner = c
    · rw [if_neg (by simp [e8])] at hk
      by_cases e11 : m.ch[m.ch.length - 1] = u
      · rw [if_neg (by simp [e6, e11])] at hk
        simp (disch := omega) [e5, e5', e6', e7, e7', e6, e8, e9, e11, z1, z2, n1, n2, o2, hb2, cell_of, IntWalk.i64_in]
        have hbp : b ≠ p := by rintro rfl; rw [hp] at hb; cases hb
        have hbq : b ≠ q := by rintro rfl; rw [hq] at hb; cases hb
        have tk : List.take m.ch.length (m.ch.map vi ++ rest) = m.ch.map vi := by rw [List.take_append_of_le_length (by simp), List.take_of_length_le (by simp)]
        refine newK_of fun b1 hb1 => ?_
        obtain ⟨u1, u2, u3⟩ := fresh3 (p := p) (q := q) (z3.upd hp) hb1 (by simp [z2, n1]) (by simp [z2, n1])
        have v1 : b ≠ b1 := by rintro rfl; rw [u1] at hb; cases hb
        simp (disch := omega) [z1, z2, n1, n2, hb2, tk, hbp, hbq, Ne.symm hbp, Ne.symm hbq, v1, u2, u3, Ne.symm u2, Ne.symm u3]
        refine ownK_of fun b2 hb2' => ?_
        have w : H b2 = none ∧ b2 ≠ p ∧ b2 ≠ q := by
          rcases hb2' with rfl | h
          · exact ⟨u1, u2, u3⟩
          · exact fresh3 (p := p) (q := q) ((z3.upd hp).upd u1) h (by simp [Ne.symm u2]) (by simp [z2, n1, Ne.symm u3])
        obtain ⟨w1, w2, w3⟩ := w
        simp (disch := omega) [z1, z2, n1, n2, hb2, tk, hbp, hbq, Ne.symm hbp, Ne.symm hbq, v1, u2, u3, Ne.symm u2, Ne.symm u3, w2, w3, Ne.symm w2, Ne.symm w3]
        refine newK_of fun b3 hb3 => ?_
        obtain ⟨x1, x2, x3⟩ := fresh3 (p := p) (q := q) ((((z3.upd hp).upd u1).del u1).upd w1) hb3 (by simp [z1, z2, n1, n2, hb2, tk, hbp, hbq, Ne.symm hbp, Ne.symm hbq, v1, u2, u3, Ne.symm u2, Ne.symm u3, w2, w3, Ne.symm w2, Ne.symm w3]) (by simp [z1, z2, n1, n2, hb2, tk, hbp, hbq, Ne.symm hbp, Ne.symm hbq, v1, u2, u3, Ne.symm u2, Ne.symm u3, w2, w3, Ne.symm w2, Ne.symm w3])
        have x4 : b3 ≠ b2 := (upd_none.1 hb3).1
        simp (disch := omega) [z1, z2, n1, n2, hb2, tk, hbp, hbq, Ne.symm hbp, Ne.symm hbq, v1, u2, u3, Ne.symm u2, Ne.symm u3, w2, w3, Ne.symm w2, Ne.symm w3, x2, x3, x4, Ne.symm x2, Ne.symm x3, Ne.symm x4]
        refine ownK_of fun b4 hb4 => ?_
        have y : H b4 = none ∧ b4 ≠ p ∧ b4 ≠ q := by
          rcases hb4 with rfl | h
          · exact ⟨w1, w2, w3⟩
          · exact fresh3 (p := p) (q := q) (((((z3.upd hp).upd u1).del u1).upd w1).upd x1) h (by simp [z1, z2, n1, n2, hb2, tk, hbp, hbq, Ne.symm hbp, Ne.symm hbq, v1, u2, u3, Ne.symm u2, Ne.symm u3, w2, w3, Ne.symm w2, Ne.symm w3, Ne.symm x2, Ne.symm x3]) (by simp [z1, z2, n1, n2, hb2, tk, hbp, hbq, Ne.symm hbp, Ne.symm hbq, v1, u2, u3, Ne.symm u2, Ne.symm u3, w2, w3, Ne.symm w2, Ne.symm w3, Ne.symm x2, Ne.symm x3])
        obtain ⟨y1, y2, y3⟩ := y
        simp (disch := omega) [z1, z2, n1, n2, hb2, tk, hbp, hbq, Ne.symm hbp, Ne.symm hbq, v1, u2, u3, Ne.symm u2, Ne.symm u3, w2, w3, Ne.symm w2, Ne.symm w3, x2, x3, x4, Ne.symm x2, Ne.symm x3, Ne.symm x4, y2, y3, Ne.symm y2, Ne.symm y3]
        exact fin _ _ b4 _ _ ((((((((z3.upd hp).upd u1).del u1).upd w1).upd x1).del w1).upd y1)) y1 y2 y3 (by simp) (by simp; rw [List.take_of_length_le (by simp)]) hk
      · rw [if_pos (.inl ⟨e6, e11⟩)] at hk
        simp (disch := omega) [e5, e5', e6', e7, e7', e6, e8, e9, e11, z1, z2, n1, n2, o2, hb2, cell_of, IntWalk.i64_in]
        have hk' := fun H' he => done 16 H' he hk
        simp [rcs, e8] at hk'
        exact hk' _ (z4 _)
    · rw [if_pos ⟨e6, e8⟩] at hk
      simp (disch := omega) [e5, e5', e6', e7, e7', e6, e8, z1, z2, n1, n2, o2]
      exact done _ _ (z4 _) hk
end Go.Proofs.Ytmchflhambfhkaa
