/-
  LayoutNearest: for every run and two points the law returns true, and its arguments read as they did. No conditions: every input that the row admits.
-/
import Derived.Test.YtidcajmbkbamcaaL15
namespace Go.Proofs.Ytidcajmbkbamcaa
open Go Go.Ab Go.RowKit Go.ChangeShapes Go.WideShapes Go.ChangeAt
set_option linter.unusedSimpArgs false
set_option linter.unusedVariables false
set_option linter.unnecessarySimpa false

attribute [local simp] condK_true condK_false condK_not wpc_skip wpc_ret wpc_exit wpc_seq wpc_reg wpc_regD testA_bool wpc_cond wpc_block thenA_normal thenA_ret thenA_exit blockA_normal blockA_ret blockA_exit blockA_other endA_normal endA_ret ev_tmp' ev_const ev_func ev_global cv_int cv_bool cv_string cv_pointer cv_slice cv_agg put_some put_none wH_s setE_apply setE_env less_eq env_cons env_nil upd_upd upd_apply del_apply startA_eq cells_ag cells_sl one_sl cells_vs one_vs cells_ep one_ep cells_fn one_fn cells_int one_int cells_bool one_bool cells_string one_string cells_pointer one_pointer cells_slice one_slice cells_map one_map cells_agg resK_one resK_nil resK_two rvK_t rvK_c rvsK_nil rvsK_cons iseq_nil iseq_cons gdA_true gdA_false gdA_undef istep_free istep_guard istepV_free istepV_guard dseq_nil dseq_pu dseq_rd dseq_ef chkAll_nil chkAll_cons andK_true pickK_true pickK_false pickK_tb pickK_fb bin2K_pl eqbK_eq eqbK_ne eqpK_eq eqpK_ne un1K_pl convK_int fillK_some fillA_cons fillA_nil cellsK_some needK_true needK_ok seeK_ep seeK_ptr oneK_agg oneK_one nilcK_ptr nilcK_ep fadrK_ptr fadrK_ep fldK_ag iadAK_ptr iadAK_ep iadSK_sl iadSK_vs extK_0 extK_1 extK_2 extK_3 lenK_pl lenK_sl lenK_vs lensK_pl boxK_some minmax1K_int storeK_ptr callvK_fn callvK_pl newsK_nil newsK_vs newsK_sl appK_nil appK_nil0 appK_sl appK_vs bnd1K_int bndK_none bndK_some slsK_vs slsK_nil slsK_sl0 slsK_sl slstrK_pl boolK_some eqsK_ag iop_eqs iop_sls iop_slstr seesK_some seesK_ro mapsK_some MAP_some findK_some findK_none plK_pl nmapK_none nmapK_some iop_mlook iop_mlen iop_mmk iop_mupd iop_mdel iop_mrng itK_none itK_some ptr0K_ptr iop_mnxt iop_ment it1K_some entK_some iop_mov iop_pick iop_bin iop_eqb iop_eqp iop_un iop_conv iop_build iop_load iop_nilc iop_fadr iop_fld iop_iadA iop_iadS iop_ext iop_mkf iop_len iop_lens iop_minmax iop_al iop_box iop_bsl iop_store iop_call iop_callv iop_app BIN_add BIN_sub BIN_mul BIN_and BIN_or BIN_xor BIN_andNot BIN_eql BIN_neq BIN_lss BIN_leq BIN_gtr BIN_geq BIN_quo BIN_rem BIN_shl BIN_shr BIN_sadd BIN_seql BIN_sneq BIN_slss BIN_sleq BIN_sgtr BIN_sgeq UN_neg UN_xor UN_not MM_nil MM_cons partsA argsA ptrA lessL eqL min2I slotN_int slotP_int slotI_int
attribute [local simp] oc_len oc_tt oc_dd oc_one oc_ag oc_t1 oc_t2 oc_t3 oc_t4 oc_t5 oc_t6 oc_t7 oc_d1 oc_d2 oc_d3 oc_d4 oc_d5 oc_d6 oc_d7 opq_len opq_tt opq_dd opq_one opq_ag opq_t1 opq_t2 opq_t3 opq_t4 opq_t5 opq_t6 opq_t7 opq_t8 opq_d1 opq_d2 opq_d3 opq_d4 opq_d5 opq_d6 opq_d7 opq_d8 pnc_len pnc_tt pnc_dd pnc_one pnc_ag pnc_t1 pnc_d1 rc_len rc_t4 rc_t1 rc_t2 rc_t3 rc_d1 rc_d2 rc_d3 rc_d4 rc_ag rc_one rc_eq min2_t min2_f

def med (n : Int) : Prop := 0 ≤ n ∧ n ≤ 1099511627776
theorem nrr_sum {a b c d : Int} (ha : med a) (hb : med b) (hc : med c) (hd : med d) : nrr a b c d = decide (a + b < c + d) := by
  unfold med at *
  have w1 : b - d ≥ 0 → IntKind.u64.wrap (b - d) = b - d := fun h => by rw [u64w]; omega
  have w2 : c - a ≥ 0 → IntKind.u64.wrap (c - a) = c - a := fun h => by rw [u64w]; omega
  have w3 : a - c ≥ 0 → IntKind.u64.wrap (a - c) = a - c := fun h => by rw [u64w]; omega
  have w4 : d - b ≥ 0 → IntKind.u64.wrap (d - b) = d - b := fun h => by rw [u64w]; omega
  unfold nrr
  by_cases h1 : a ≤ c ∧ b ≤ d
  · rw [if_pos h1]
    by_cases h2 : a + b < c + d
    · rw [decide_eq_true h2]
      by_cases h3 : a < c
      · simp [h3]
      · have : b < d := by omega
        simp [this]
    · rw [decide_eq_false h2]
      have h3 : ¬ a < c := by omega
      have h4 : ¬ b < d := by omega
      simp [h3, h4]
  · rw [if_neg h1]
    by_cases h2 : c ≤ a ∧ d ≤ b
    · rw [if_pos h2, decide_eq_false (by omega)]
    · rw [if_neg h2]
      by_cases h3 : a < c
      · rw [if_pos h3, w1 (by omega), w2 (by omega)]
        by_cases h4 : a + b < c + d
        · rw [decide_eq_true h4, decide_eq_true (by omega)]
        · rw [decide_eq_false h4, decide_eq_false (by omega)]
      · rw [if_neg h3, w3 (by omega), w4 (by omega)]
        by_cases h4 : a + b < c + d
        · rw [decide_eq_true h4, decide_eq_true (by omega)]
        · rw [decide_eq_false h4, decide_eq_false (by omega)]
def near (n : Int) : Prop := -1048576 ≤ n ∧ n ≤ 1048576
theorem near_r {n : Int} (h : near n) : i64r n := by unfold near at h; unfold i64r; omega
def dst (q : Int × Int) (x y : Int) : Int := awy q.1 x + awy q.2 y
theorem awy_med {a b : Int} (ha : near a) (hb : near b) : med (awy a b) := by
  rw [awy_eq (near_r ha) (near_r hb)]
  unfold near at *
  unfold med
  split <;> omega
theorem okQ_near {q : Int × Int} (h : okQ q) : near q.1 ∧ near q.2 := by unfold okQ at h; unfold near; omega
theorem nrr_dst {p q : Int × Int} {x y : Int} (hp : okQ p) (hq : okQ q) (hx : near x) (hy : near y) : nrr (awy p.1 x) (awy p.2 y) (awy q.1 x) (awy q.2 y) = decide (dst p x y < dst q x y) :=
  nrr_sum (awy_med (okQ_near hp).1 hx) (awy_med (okQ_near hp).2 hy) (awy_med (okQ_near hq).1 hx) (awy_med (okQ_near hq).2 hy)
theorem cl_min {x y : Int} (hx : near x) (hy : near y) : ∀ (L : List R) (acc : Option (Int × Int)), (∀ r ∈ L, rempty r = false) → (∀ q, acc = some q → okQ q) → ∀ q', L.foldl (clS x y) acc = some q' →
    (∀ q, acc = some q → dst q' x y ≤ dst q x y) ∧ ∀ r ∈ L, dst q' x y ≤ dst (rclamp r x y) x y
  | [], acc, _, _, q', e => by
    refine ⟨fun q h => ?_, fun r hr => ?_⟩
    · simp only [List.foldl_nil] at e
      rw [h] at e
      injection e with e
      rw [e]; omega
    · cases hr
  | r :: L, acc, hL, hq, q', e => by
    have hr := hL r (by simp)
    have oc := okQ_clamp hr x y
    rw [List.foldl_cons] at e
    have ok2 : ∀ q, clS x y acc r = some q → okQ q := by
      intro q e
      cases acc with
      | none => simp only [clS] at e; injection e with e; exact e ▸ oc
      | some q0 =>
        simp only [clS] at e
        split at e
        · injection e with e; exact e ▸ oc
        · exact hq q e
    obtain ⟨h1, h2⟩ := cl_min hx hy L (clS x y acc r) (fun z hz => hL z (by simp [hz])) ok2 q' e
    cases acc with
    | none =>
      have h3 := h1 (rclamp r x y) rfl
      refine ⟨fun q e => (by cases e), fun z hz => ?_⟩
      rcases List.mem_cons.1 hz with rfl | hz
      · exact h3
      · exact h2 z hz
    | some q0 =>
      have o0 := hq q0 rfl
      have hn := nrr_dst oc o0 hx hy
      by_cases h4 : dst (rclamp r x y) x y < dst q0 x y
      · have e5 : clS x y (some q0) r = some (rclamp r x y) := by simp only [clS]; rw [hn, decide_eq_true h4]; rfl
        have h3 := h1 (rclamp r x y) e5
        refine ⟨fun q e => (by injection e with e; rw [← e]; omega), fun z hz => ?_⟩
        rcases List.mem_cons.1 hz with rfl | hz
        · exact h3
        · exact h2 z hz
      · have e5 : clS x y (some q0) r = some q0 := by simp only [clS]; rw [hn, decide_eq_false h4]; rfl
        have h3 := h1 q0 e5
        refine ⟨fun q e => (by injection e with e; rw [← e]; exact h3), fun z hz => ?_⟩
        rcases List.mem_cons.1 hz with rfl | hz
        · omega
        · exact h2 z hz
theorem rclamp_near {r : R} (h : rempty r = false) {x y u v : Int} (hx : near x) (hy : near y) (hc : rcont r u v = true) : dst (rclamp r x y) x y ≤ dst (u, v) x y := by
  have hr := rempty_ok r h
  have hc' := (rcont_iff h u v).1 hc
  have o1 := okQ_near (okQ_clamp h x y)
  have o2 : near u ∧ near v := by unfold near; omega
  unfold dst
  rw [awy_eq (near_r o1.1) (near_r hx), awy_eq (near_r o1.2) (near_r hy), awy_eq (near_r o2.1) (near_r hx), awy_eq (near_r o2.2) (near_r hy), rclamp_ne h]
  simp only
  have a1 : (if min (max x r.x0) (r.x1 - 1) < x then x - min (max x r.x0) (r.x1 - 1) else min (max x r.x0) (r.x1 - 1) - x) ≤ (if u < x then x - u else u - x) := by split <;> split <;> omega
  have a2 : (if min (max y r.y0) (r.y1 - 1) < y then y - min (max y r.y0) (r.y1 - 1) else min (max y r.y0) (r.y1 - 1) - y) ≤ (if v < y then y - v else v - y) := by split <;> split <;> omega
  omega
theorem clF_near {m : List O} (h : Inv m) {x y u v : Int} (hx : near x) (hy : near y) (hc : ∃ r ∈ sareas m, rcont r u v = true) : okQ (clF (sareas m) x y) ∧ near u ∧ near v ∧ dst (clF (sareas m) x y) x y ≤ dst (u, v) x y := by
  obtain ⟨r, hr, hc⟩ := hc
  have hm : m ≠ [] := by
    rintro rfl
    have : sareas [] = [] := List.length_eq_zero_iff.1 (by rw [sareas, List.length_map, souts_len]; rfl)
    rw [this] at hr; cases hr
  have hrn := areas_ne h r hr
  obtain ⟨h1, _⟩ := clF_in h hm x y
  refine ⟨h1, ?_, ?_, ?_⟩
  · have := (rcont_iff hrn u v).1 hc; have := rempty_ok r hrn; unfold near; omega
  · have := (rcont_iff hrn u v).1 hc; have := rempty_ok r hrn; unfold near; omega
  · refine Int.le_trans ?_ (rclamp_near hrn hx hy hc)
    have hne : sareas m ≠ [] := List.ne_nil_of_mem hr
    obtain ⟨q, e, _⟩ := cl_some (P := fun _ => True) (sareas m) (x := x) (y := y) none (fun _ => hne) (fun _ _ => trivial) (fun _ _ => trivial)
    have := (cl_min hx hy (sareas m) none (areas_ne h) (fun q e => by cases e) q e).2 r hr
    rw [clF, e]; exact this
end Go.Proofs.Ytidcajmbkbamcaa
