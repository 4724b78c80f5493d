/-
  The reference's Clamp is the program's. Conditions: as each lemma states them.
-/
import Derived.Test.YtidcajmbkbamcaaL24
namespace Go.Proofs.Ytidcajmbkbamcaa
open Go Go.Ab Go.RowKit
set_option linter.unusedSimpArgs false
set_option linter.unusedVariables false
set_option linter.unnecessarySimpa false

attribute [local simp] condK_true condK_false condK_not wpc_skip wpc_ret wpc_exit wpc_seq wpc_reg wpc_regD testA_bool wpc_cond wpc_block thenA_normal thenA_ret thenA_exit blockA_normal blockA_ret blockA_exit blockA_other endA_normal endA_ret ev_tmp' ev_const ev_func ev_global cv_int cv_bool cv_string cv_pointer cv_slice cv_agg put_some put_none wH_s setE_apply setE_env less_eq env_cons env_nil upd_upd upd_apply del_apply startA_eq cells_ag cells_sl one_sl cells_vs one_vs cells_ep one_ep cells_fn one_fn cells_int one_int cells_bool one_bool cells_string one_string cells_pointer one_pointer cells_slice one_slice cells_map one_map cells_agg resK_one resK_nil resK_two rvK_t rvK_c rvsK_nil rvsK_cons iseq_nil iseq_cons gdA_true gdA_false gdA_undef istep_free istep_guard istepV_free istepV_guard dseq_nil dseq_pu dseq_rd dseq_ef chkAll_nil chkAll_cons andK_true pickK_true pickK_false pickK_tb pickK_fb bin2K_pl eqbK_eq eqbK_ne eqpK_eq eqpK_ne un1K_pl convK_int fillK_some fillA_cons fillA_nil cellsK_some needK_true needK_ok seeK_ep seeK_ptr oneK_agg oneK_one nilcK_ptr nilcK_ep fadrK_ptr fadrK_ep fldK_ag iadAK_ptr iadAK_ep iadSK_sl iadSK_vs extK_0 extK_1 extK_2 extK_3 lenK_pl lenK_sl lenK_vs lensK_pl boxK_some minmax1K_int storeK_ptr callvK_fn callvK_pl newsK_nil newsK_vs newsK_sl appK_nil appK_nil0 appK_sl appK_vs bnd1K_int bndK_none bndK_some slsK_vs slsK_nil slsK_sl0 slsK_sl slstrK_pl boolK_some eqsK_ag iop_eqs iop_sls iop_slstr seesK_some seesK_ro mapsK_some MAP_some findK_some findK_none plK_pl nmapK_none nmapK_some iop_mlook iop_mlen iop_mmk iop_mupd iop_mdel iop_mrng itK_none itK_some ptr0K_ptr iop_mnxt iop_ment it1K_some entK_some iop_mov iop_pick iop_bin iop_eqb iop_eqp iop_un iop_conv iop_build iop_load iop_nilc iop_fadr iop_fld iop_iadA iop_iadS iop_ext iop_mkf iop_len iop_lens iop_minmax iop_al iop_box iop_bsl iop_store iop_call iop_callv iop_app BIN_add BIN_sub BIN_mul BIN_and BIN_or BIN_xor BIN_andNot BIN_eql BIN_neq BIN_lss BIN_leq BIN_gtr BIN_geq BIN_quo BIN_rem BIN_shl BIN_shr BIN_sadd BIN_seql BIN_sneq BIN_slss BIN_sleq BIN_sgtr BIN_sgeq UN_neg UN_xor UN_not MM_nil MM_cons partsA argsA ptrA lessL eqL min2I slotN_int slotP_int slotI_int
attribute [local simp] oc_len oc_tt oc_dd oc_one oc_ag oc_t1 oc_t2 oc_t3 oc_t4 oc_t5 oc_t6 oc_t7 oc_d1 oc_d2 oc_d3 oc_d4 oc_d5 oc_d6 oc_d7 opq_len opq_tt opq_dd opq_one opq_ag opq_t1 opq_t2 opq_t3 opq_t4 opq_t5 opq_t6 opq_t7 opq_t8 opq_d1 opq_d2 opq_d3 opq_d4 opq_d5 opq_d6 opq_d7 opq_d8 rc_len rc_t4 rc_t1 rc_t2 rc_t3 rc_d1 rc_d2 rc_d3 rc_d4 rc_ag rc_one rc_eq min2_t min2_f

def clip (n : Int) : Int := max (-1048576) (min n 1048576)
theorem clip_near (n : Int) : near (clip n) := by unfold clip near; omega
theorem rclamp_clip {r : R} (h : rempty r = false) (x y : Int) : rclamp r (clip x) (clip y) = rclamp r x y := by
  have := rempty_ok r h
  rw [rclamp_ne h, rclamp_ne h]
  unfold clip
  congr 1 <;> omega
theorem nrr_gen {a b c d : Int} (ha : 0 ≤ a) (hb : 0 ≤ b) (hc : 0 ≤ c) (hd : 0 ≤ d) (h1 : a - c ≤ 40000 ∧ c - a ≤ 40000) (h2 : b - d ≤ 40000 ∧ d - b ≤ 40000) : nrr a b c d = decide (a + b < c + d) := by
  have w1 : b - d ≥ 0 → IntKind.u64.wrap (b - d) = b - d := fun h => by rw [u64w]; omega
  have w2 : c - a ≥ 0 → IntKind.u64.wrap (c - a) = c - a := fun h => by rw [u64w]; omega
  have w3 : a - c ≥ 0 → IntKind.u64.wrap (a - c) = a - c := fun h => by rw [u64w]; omega
  have w4 : d - b ≥ 0 → IntKind.u64.wrap (d - b) = d - b := fun h => by rw [u64w]; omega
  unfold nrr
  by_cases h1 : a ≤ c ∧ b ≤ d
  · rw [if_pos h1]
    by_cases h2 : a + b < c + d
    · rw [decide_eq_true h2]
      by_cases h3 : a < c
      · simp [h3]
      · have : b < d := by omega
        simp [this]
    · rw [decide_eq_false h2]
      have h3 : ¬ a < c := by omega
      have h4 : ¬ b < d := by omega
      simp [h3, h4]
  · rw [if_neg h1]
    by_cases h2 : c ≤ a ∧ d ≤ b
    · rw [if_pos h2, decide_eq_false (by omega)]
    · rw [if_neg h2]
      by_cases h3 : a < c
      · rw [if_pos h3, w1 (by omega), w2 (by omega)]
        by_cases h4 : a + b < c + d
        · rw [decide_eq_true h4, decide_eq_true (by omega)]
        · rw [decide_eq_false h4, decide_eq_false (by omega)]
      · rw [if_neg h3, w3 (by omega), w4 (by omega)]
        by_cases h4 : a + b < c + d
        · rw [decide_eq_true h4, decide_eq_true (by omega)]
        · rw [decide_eq_false h4, decide_eq_false (by omega)]
theorem awy_close {p q x : Int} (hp : -16384 ≤ p ∧ p ≤ 16384) (hq : -16384 ≤ q ∧ q ≤ 16384) (hx : i64r x) : (awy p x - awy q x ≤ 40000 ∧ awy q x - awy p x ≤ 40000) ∧ awy p x - awy q x = awy p (clip x) - awy q (clip x) := by
  have ip : i64r p := by unfold i64r; omega
  have iq : i64r q := by unfold i64r; omega
  have ic := near_r (clip_near x)
  rw [awy_eq ip hx, awy_eq iq hx, awy_eq ip ic, awy_eq iq ic]
  unfold clip
  refine ⟨?_, ?_⟩
  · split <;> split <;> omega
  · repeat' split
    all_goals omega
theorem clS_clip {x y : Int} (hx : i64r x) (hy : i64r y) {acc : Option (Int × Int)} {r : R} (ha : ∀ q, acc = some q → okQ q) (hr : rempty r = false) : clS x y acc r = clS (clip x) (clip y) acc r := by
  have oc := okQ_clamp hr x y
  cases acc with
  | none => simp only [clS, rclamp_clip hr]
  | some q =>
    have oq := ha q rfl
    simp only [clS, rclamp_clip hr]
    generalize rclamp r x y = p at *
    have o1 := okQ_r oc
    have o2 := okQ_r oq
    unfold okQ at oc oq
    have cx := awy_close oc.1 oq.1 hx
    have cy := awy_close oc.2 oq.2 hy
    have nx := near_r (clip_near x)
    have ny := near_r (clip_near y)
    have kx := awy_close oc.1 oq.1 nx
    have ky := awy_close oc.2 oq.2 ny
    rw [nrr_gen (awy_pos o1.1 hx) (awy_pos o1.2 hy) (awy_pos o2.1 hx) (awy_pos o2.2 hy) cx.1 cy.1,
      nrr_gen (awy_pos o1.1 nx) (awy_pos o1.2 ny) (awy_pos o2.1 nx) (awy_pos o2.2 ny) kx.1 ky.1]
    have : (awy p.1 x + awy p.2 y < awy q.1 x + awy q.2 y) ↔ (awy p.1 (clip x) + awy p.2 (clip y) < awy q.1 (clip x) + awy q.2 (clip y)) := by
      have := cx.2; have := cy.2; omega
    simp only [this]
theorem fold_clip {x y : Int} (hx : i64r x) (hy : i64r y) : ∀ (L : List R) (acc : Option (Int × Int)), (∀ r ∈ L, rempty r = false) → (∀ q, acc = some q → okQ q) → L.foldl (clS x y) acc = L.foldl (clS (clip x) (clip y)) acc
  | [], _, _, _ => rfl
  | r :: L, acc, hL, ha => by
    have hr := hL r (by simp)
    rw [List.foldl_cons, List.foldl_cons, clS_clip hx hy ha hr]
    refine fold_clip hx hy L _ (fun z hz => hL z (by simp [hz])) ?_
    intro q e
    cases acc with
    | none => simp only [clS] at e; injection e with e; exact e ▸ okQ_clamp hr _ _
    | some q0 =>
      simp only [clS] at e
      split at e
      · injection e with e; exact e ▸ okQ_clamp hr _ _
      · exact ha q e
theorem clF_clip {m : List O} (h : Inv m) {x y : Int} (hx : i64r x) (hy : i64r y) : clF (sareas m) x y = clF (sareas m) (clip x) (clip y) := by
  rw [clF, clF, fold_clip hx hy _ none (areas_ne h) (fun q e => by cases e)]
theorem c20 {H : AH} {K : AV → AH → Prop} {xx : AV} (L : List O) (x y : Int) (hx : LR H xx L) (hl : L.length ≤ 1000000) (hc : ∀ o ∈ L, chk o = 0)
    (hk : K (.tp [vi (clF (L.map lg) (clip x) (clip y)).1, vi (clF (L.map lg) (clip x) (clip y)).2]) H) : @AC Try.prog 20 [.ag [vb true, xx], vi x, vi y] H ⟨K⟩ := by
  refine AC_of (.forget ?_)
  have ox := hx.one
  refine call_c follows cf20_ok (by simp) ?_
  simp [ox]
  refine newK_of fun z hz => ?_
  have hS := (Sub.refl H).upd hz (o := .cells [vb true, xx])
  have hzz : upd H z (.cells [vb true, xx]) z = some (.cells [vb true, xx]) := by simp [upd_apply]
  have hcx : max (-1048576) (min x 1048576) = clip x := rfl
  have hcy : max (-1048576) (min y 1048576) = clip y := rfl
  simp [hcx, hcy]
  have nx := clip_near x
  have ny := clip_near y
  generalize clip x = cx at *
  generalize clip y = cy at *
  generalize upd H z (.cells [vb true, xx]) = H2 at *
  have hx2 := hx.sub hS
  have lx := fun k => hx.lenK (k := k)
  refine wpc_loop (fun st => ∃ (i : Nat) (bx by_ be : Int), st.n = 78 ∧ st.H = H2 ∧ st.t 1 = vi cx ∧ st.t 2 = vi cy ∧ st.t 3 = pA z ∧ st.t 8 = vi bx ∧ st.t 9 = vi by_ ∧ st.t 10 = vi be ∧ st.t 11 = vi i ∧ i ≤ L.length ∧
      ((be = -1 ∧ bx = 0 ∧ by_ = 0 ∧ ((L.take i).map lg).foldl (clS cx cy) none = none) ∨ (0 ≤ be ∧ be = dst (bx, by_) cx cy ∧ okQ (bx, by_) ∧ ((L.take i).map lg).foldl (clS cx cy) none = some (bx, by_)))) (fun st => L.length - slotN (st.t 11)) ?_ ?_
  · exact FgK.same ⟨0, 0, 0, -1, by simp, by simp, by simp, by simp, by simp, by simp, by simp, by simp, by simp, by omega, .inl ⟨rfl, rfl, rfl, by simp⟩⟩
  rintro st ⟨i, bx, by_, be, hn, hH, e1, e2, e3, e8, e9, e10, e11, hi, hF⟩
  have w := IntWalk.i64_in ((i : Int) + 1) (by omega)
  by_cases hlt : i < L.length
  · have hd := oc_at hlt
    have hsp := take_snoc hlt
    have hco := hc _ (List.getElem_mem hlt)
    have hbd : i * 8 + 8 ≤ (flat oc L).length := by rw [oc_flat_len]; omega
    generalize L[i] = o at hd hsp hco
    obtain ⟨q, f, rfl, hq⟩ := hx2.sl (by omega)
    have hr := lg_ne hco
    have hrng := rempty_ok _ hr
    have hcl := rclamp_ne hr cx cy
    have hok := okQ_clamp hr cx cy
    have hnk := okQ_near hok
    have hF2 : ((L.take (i + 1)).map lg).foldl (clS cx cy) none = clS cx cy (((L.take i).map lg).foldl (clS cx cy) none) (lg o) := by rw [hsp, List.map_append, List.foldl_append]; rfl
    simp (disch := omega) [hn, hH, e1, e2, e3, e8, e9, e10, e11, hzz, hq, hd, hbd, hlt]
    refine (c25 o).ac ?_
    simp (disch := omega) [hn, hH, e1, e2, e3, e8, e9, e10, e11]
    refine newK_of fun u hu => ?_
    have hsu : Sub H2 (upd H2 u (.cells (rc (lg o)))) := (Sub.refl H2).upd hu
    generalize lg o = r at *
    have w1 := IntWalk.i64_in (r.x1 - 1) (by omega)
    have w2 := IntWalk.i64_in (r.y1 - 1) (by omega)
    have q1 : max r.x0 (min cx (r.x1 - 1)) = (rclamp r cx cy).1 := by rw [hcl]; simp only; omega
    have q2 : max r.y0 (min cy (r.y1 - 1)) = (rclamp r cx cy).2 := by rw [hcl]; simp only; omega
    generalize hp : rclamp r cx cy = p at *
    obtain ⟨px, py⟩ := p
    simp only at q1 q2 hnk
    have hdst : dst (px, py) cx cy = max (cx - px) (px - cx) + max (cy - py) (py - cy) := by
      unfold dst
      rw [awy_eq (near_r hnk.1) (near_r nx), awy_eq (near_r hnk.2) (near_r ny)]
      split <;> split <;> omega
    unfold near at nx ny hnk
    have w3 := IntWalk.i64_in (cx - px) (by omega)
    have w4 := IntWalk.i64_in (px - cx) (by omega)
    have w5 := IntWalk.i64_in (cy - py) (by omega)
    have w6 := IntWalk.i64_in (py - cy) (by omega)
    have w7 := IntWalk.i64_in (max (cx - px) (px - cx) + max (cy - py) (py - cy)) (by omega)
    rcases hF with ⟨hb, rfl, rfl, hF⟩ | ⟨hb, hbe, hoq, hF⟩
    · subst hb
      rw [hF] at hF2
      simp only [clS, hp] at hF2
      simp (disch := omega) [hn, hH, e1, e2, e3, e8, e9, e10, e11, w1, w2, q1, q2, w3, w4, w5, w6, w7, w]
      exact FgK.of _ hsu ⟨⟨i + 1, px, py, dst (px, py) cx cy, by simp [hn], rfl, by simp [e1], by simp [e2], by simp [e3], by simp, by simp, by simp [hdst], by simp, by omega, .inr ⟨by rw [hdst]; omega, rfl, hok, hF2⟩⟩, by simp [e11]; omega⟩
    · rw [hF] at hF2
      have hnr := nrr_dst (x := cx) (y := cy) hok hoq (by unfold near; omega) (by unfold near; omega)
      simp only [clS, hp] at hF2
      simp only at hnr
      rw [hnr, ← hbe, hdst] at hF2
      have hbneg : ¬ be < 0 := by omega
      by_cases c1 : max (cx - px) (px - cx) + max (cy - py) (py - cy) < be
      · rw [decide_eq_true c1] at hF2
        simp (disch := omega) [hn, hH, e1, e2, e3, e8, e9, e10, e11, w1, w2, q1, q2, w3, w4, w5, w6, w7, w, hbneg, c1]
        exact FgK.of _ hsu ⟨⟨i + 1, px, py, dst (px, py) cx cy, by simp [hn], rfl, by simp [e1], by simp [e2], by simp [e3], by simp, by simp, by simp [hdst], by simp, by omega, .inr ⟨by rw [hdst]; omega, rfl, hok, by simpa using hF2⟩⟩, by simp [e11]; omega⟩
      · rw [decide_eq_false c1] at hF2
        simp (disch := omega) [hn, hH, e1, e2, e3, e8, e9, e10, e11, w1, w2, q1, q2, w3, w4, w5, w6, w7, w, hbneg, c1]
        exact FgK.of _ hsu ⟨⟨i + 1, bx, by_, be, by simp [hn], rfl, by simp [e1], by simp [e2], by simp [e3], by simp [e8], by simp [e9], by simp [e10], by simp, by omega, .inr ⟨hb, hbe, hoq, by simpa using hF2⟩⟩, by simp [e11]; omega⟩
  · rw [List.take_of_length_le (by omega)] at hF
    have hfin : clF (L.map lg) cx cy = (bx, by_) := by
      rcases hF with ⟨_, rfl, rfl, hF⟩ | ⟨_, _, _, hF⟩ <;> rw [clF, hF] <;> rfl
    rw [hfin] at hk
    simp (disch := omega) [hn, hH, e1, e2, e3, e8, e9, e10, e11, hzz, lx, hlt]
    exact ⟨H, hS, hk⟩
end Go.Proofs.Ytidcajmbkbamcaa
