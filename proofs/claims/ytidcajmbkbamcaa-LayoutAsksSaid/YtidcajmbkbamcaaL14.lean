/-
  The nearest pixel of an output: plain facts. Conditions: as each lemma states them.
-/
import Derived.Test.YtidcajmbkbamcaaL12
namespace Go.Proofs.Ytidcajmbkbamcaa
open Go Go.Ab Go.RowKit
set_option linter.unusedSimpArgs false
set_option linter.unusedVariables false
set_option linter.unnecessarySimpa false

attribute [local simp] condK_true condK_false condK_not wpc_skip wpc_ret wpc_exit wpc_seq wpc_reg wpc_regD testA_bool wpc_cond wpc_block thenA_normal thenA_ret thenA_exit blockA_normal blockA_ret blockA_exit blockA_other endA_normal endA_ret ev_tmp' ev_const ev_func ev_global cv_int cv_bool cv_string cv_pointer cv_slice cv_agg put_some put_none wH_s setE_apply setE_env less_eq env_cons env_nil upd_upd upd_apply del_apply startA_eq cells_ag cells_sl one_sl cells_vs one_vs cells_ep one_ep cells_fn one_fn cells_int one_int cells_bool one_bool cells_string one_string cells_pointer one_pointer cells_slice one_slice cells_map one_map cells_agg resK_one resK_nil resK_two rvK_t rvK_c rvsK_nil rvsK_cons iseq_nil iseq_cons gdA_true gdA_false gdA_undef istep_free istep_guard istepV_free istepV_guard dseq_nil dseq_pu dseq_rd dseq_ef chkAll_nil chkAll_cons andK_true pickK_true pickK_false pickK_tb pickK_fb bin2K_pl eqbK_eq eqbK_ne eqpK_eq eqpK_ne un1K_pl convK_int fillK_some fillA_cons fillA_nil cellsK_some needK_true needK_ok seeK_ep seeK_ptr oneK_agg oneK_one nilcK_ptr nilcK_ep fadrK_ptr fadrK_ep fldK_ag iadAK_ptr iadAK_ep iadSK_sl iadSK_vs extK_0 extK_1 extK_2 extK_3 lenK_pl lenK_sl lenK_vs lensK_pl boxK_some minmax1K_int storeK_ptr callvK_fn callvK_pl newsK_nil newsK_vs newsK_sl appK_nil appK_nil0 appK_sl appK_vs bnd1K_int bndK_none bndK_some slsK_vs slsK_nil slsK_sl0 slsK_sl slstrK_pl boolK_some eqsK_ag iop_eqs iop_sls iop_slstr seesK_some seesK_ro mapsK_some MAP_some findK_some findK_none plK_pl nmapK_none nmapK_some iop_mlook iop_mlen iop_mmk iop_mupd iop_mdel iop_mrng itK_none itK_some ptr0K_ptr iop_mnxt iop_ment it1K_some entK_some iop_mov iop_pick iop_bin iop_eqb iop_eqp iop_un iop_conv iop_build iop_load iop_nilc iop_fadr iop_fld iop_iadA iop_iadS iop_ext iop_mkf iop_len iop_lens iop_minmax iop_al iop_box iop_bsl iop_store iop_call iop_callv iop_app BIN_add BIN_sub BIN_mul BIN_and BIN_or BIN_xor BIN_andNot BIN_eql BIN_neq BIN_lss BIN_leq BIN_gtr BIN_geq BIN_quo BIN_rem BIN_shl BIN_shr BIN_sadd BIN_seql BIN_sneq BIN_slss BIN_sleq BIN_sgtr BIN_sgeq UN_neg UN_xor UN_not MM_nil MM_cons partsA argsA ptrA lessL eqL min2I slotN_int slotP_int slotI_int

theorem rcont_iff {r : R} (h : rempty r = false) (x y : Int) : rcont r x y = true ↔ (r.x0 ≤ x ∧ x < r.x1) ∧ r.y0 ≤ y ∧ y < r.y1 := by
  have e : rcan r = r := by rw [rcan, h]; rfl
  rw [rcont, e]
  simp only [Bool.and_eq_true, decide_eq_true_eq]
  omega
theorem rclamp_ne {r : R} (h : rempty r = false) (x y : Int) : rclamp r x y = (min (max x r.x0) (r.x1 - 1), min (max y r.y0) (r.y1 - 1)) := by rw [rclamp, h]; rfl
theorem rclamp_in {r : R} (h : rempty r = false) (x y : Int) : rcont r (rclamp r x y).1 (rclamp r x y).2 = true := by
  rw [rcont_iff h, rclamp_ne h]
  have := rempty_ok r h
  simp only
  omega
theorem rclamp_self {r : R} (h : rempty r = false) {x y : Int} (hc : rcont r x y = true) : rclamp r x y = (x, y) := by
  rw [rcont_iff h] at hc
  rw [rclamp_ne h]
  congr 1 <;> omega
def i64r (n : Int) : Prop := -9223372036854775808 ≤ n ∧ n ≤ 9223372036854775807
theorem u64w (n : Int) : IntKind.u64.wrap n = n % 18446744073709551616 := rfl
theorem awy_eq {a b : Int} (ha : i64r a) (hb : i64r b) : awy a b = if a < b then b - a else a - b := by
  unfold awy i64r at *
  simp only [u64w]
  split <;> omega
theorem awy_zero {a b : Int} (ha : i64r a) (hb : i64r b) (h : awy a b = 0) : a = b := by
  rw [awy_eq ha hb] at h
  split at h <;> omega
theorem awy_pos {a b : Int} (ha : i64r a) (hb : i64r b) : 0 ≤ awy a b := by
  rw [awy_eq ha hb]
  split <;> omega
theorem awy_self {a : Int} (ha : i64r a) : awy a a = 0 := by
  rw [awy_eq ha ha, if_neg (by omega)]; omega
theorem nrr_last {a b : Int} (ha : 0 ≤ a) (hb : 0 ≤ b) : nrr a b 0 0 = false := by
  unfold nrr
  by_cases h : a ≤ 0 ∧ b ≤ 0
  · rw [if_pos h]
    have h1 : ¬ a < 0 := by omega
    have h2 : ¬ b < 0 := by omega
    simp [h1, h2]
  · rw [if_neg h, if_pos ⟨ha, hb⟩]
theorem nrr_first {c d : Int} (hc : 0 ≤ c) (hd : 0 ≤ d) (h : c ≠ 0 ∨ d ≠ 0) : nrr 0 0 c d = true := by
  unfold nrr
  rw [if_pos ⟨hc, hd⟩]
  by_cases h1 : 0 < c
  · simp [h1]
  · have : 0 < d := by omega
    simp [this]
def okQ (q : Int × Int) : Prop := (-16384 ≤ q.1 ∧ q.1 ≤ 16384) ∧ -16384 ≤ q.2 ∧ q.2 ≤ 16384
theorem okQ_r {q : Int × Int} (h : okQ q) : i64r q.1 ∧ i64r q.2 := by unfold okQ at h; unfold i64r; omega
theorem okQ_clamp {r : R} (h : rempty r = false) (x y : Int) : okQ (rclamp r x y) := by
  have := rempty_ok r h
  rw [rclamp_ne h]; unfold okQ; simp only; omega
theorem cl_fold {x y : Int} (hx : i64r x) (hy : i64r y) : ∀ (L : List R) (acc : Option (Int × Int)), (∀ r ∈ L, rempty r = false) → (∀ q, acc = some q → okQ q) → (acc = some (x, y) ∨ ∃ r ∈ L, rcont r x y = true) → L.foldl (clS x y) acc = some (x, y)
  | [], acc, _, _, h => by
    rcases h with h | ⟨r, hr, _⟩
    · exact h
    · cases hr
  | r :: L, acc, hL, hq, h => by
    have hr := hL r (by simp)
    have oc := okQ_clamp hr x y
    have ocr := okQ_r oc
    rw [List.foldl_cons]
    refine cl_fold hx hy L _ (fun z hz => hL z (by simp [hz])) ?_ ?_
    · intro q e
      cases acc with
      | none => simp only [clS] at e; injection e with e; exact e ▸ oc
      | some q0 =>
        simp only [clS] at e
        split at e
        · injection e with e; exact e ▸ oc
        · exact hq q e
    · rcases h with h | ⟨z, hz, hc⟩
      · left
        subst h
        simp only [clS]
        rw [awy_self hx, awy_self hy, nrr_last (awy_pos ocr.1 hx) (awy_pos ocr.2 hy)]
        rfl
      · rcases List.mem_cons.1 hz with rfl | hz
        · left
          have e := rclamp_self hr hc
          cases acc with
          | none => simp only [clS, e]
          | some q =>
            simp only [clS, e]
            have o1 := okQ_r (hq q rfl)
            rw [awy_self hx, awy_self hy]
            by_cases h1 : awy q.1 x = 0 ∧ awy q.2 y = 0
            · have e1 := awy_zero o1.1 hx h1.1
              have e2 := awy_zero o1.2 hy h1.2
              have e3 : q = (x, y) := by rw [← e1, ← e2]
              split
              · rfl
              · rw [e3]
            · rw [nrr_first (awy_pos o1.1 hx) (awy_pos o1.2 hy) (by omega)]; rfl
        · exact .inr ⟨z, hz, hc⟩
theorem cl_some {P : Int × Int → Prop} {x y : Int} : ∀ (L : List R) (acc : Option (Int × Int)), (acc = none → L ≠ []) → (∀ q, acc = some q → P q) → (∀ r ∈ L, P (rclamp r x y)) → ∃ q, L.foldl (clS x y) acc = some q ∧ P q
  | [], none, h, _, _ => absurd rfl (h rfl)
  | [], some q, _, h, _ => ⟨q, rfl, h q rfl⟩
  | r :: L, acc, _, h, hr => by
    rw [List.foldl_cons]
    have h0 := hr r (by simp)
    refine cl_some L _ ?_ ?_ (fun z hz => hr z (by simp [hz]))
    · intro e
      cases acc with
      | none => simp [clS] at e
      | some q => simp only [clS] at e; split at e <;> cases e
    · intro q e
      cases acc with
      | none => simp only [clS] at e; injection e with e; exact e ▸ h0
      | some q0 =>
        simp only [clS] at e
        split at e
        · injection e with e; exact e ▸ h0
        · exact h q e
theorem souts_mem {m : List O} (h : Inv m) {o : O} : o ∈ souts m ↔ o ∈ m := (souts_perm h.nd).mem_iff
theorem areas_ne {m : List O} (h : Inv m) : ∀ r ∈ sareas m, rempty r = false := by
  intro r hr
  obtain ⟨o, ho, rfl⟩ := List.mem_map.1 hr
  exact lg_ne (h.ck o ((souts_mem h).1 ho))
theorem atF_some {m : List O} (h : Inv m) {x y : Int} : atF (souts m) x y ≠ ⟨#[]⟩ ↔ ∃ r ∈ sareas m, rcont r x y = true := by
  unfold atF
  cases hf : (souts m).find? fun o => rcont (lg o) x y with
  | none =>
    simp only [ne_eq, not_true_eq_false, false_iff]
    rintro ⟨r, hr, hc⟩
    obtain ⟨o, ho, rfl⟩ := List.mem_map.1 hr
    have := List.find?_eq_none.1 hf o ho
    exact this hc
  | some o =>
    simp only
    have h1 := List.mem_of_find?_eq_some hf
    have h2 := List.find?_some hf
    constructor
    · intro _; exact ⟨lg o, List.mem_map.2 ⟨o, h1, rfl⟩, h2⟩
    · intro _; exact nm_ne (h.ck o ((souts_mem h).1 h1))
theorem clF_self {m : List O} (h : Inv m) {x y : Int} (hx : i64r x) (hy : i64r y) (hc : ∃ r ∈ sareas m, rcont r x y = true) : clF (sareas m) x y = (x, y) := by
  rw [clF, cl_fold hx hy _ none (areas_ne h) (fun q e => by cases e) (.inr hc)]; rfl
theorem clF_in {m : List O} (h : Inv m) (hm : m ≠ []) (x y : Int) : okQ (clF (sareas m) x y) ∧ ∃ r ∈ sareas m, rcont r (clF (sareas m) x y).1 (clF (sareas m) x y).2 = true := by
  have hne : sareas m ≠ [] := by
    intro e
    have := congrArg List.length e
    rw [sareas, List.length_map, souts_len] at this
    exact hm (List.length_eq_zero_iff.1 (by simpa using this))
  obtain ⟨q, e, h1, h2⟩ := cl_some (P := fun q => okQ q ∧ ∃ r ∈ sareas m, rcont r q.1 q.2 = true) (sareas m) (x := x) (y := y) none (fun _ => hne) (fun q e => by cases e)
    (fun r hr => ⟨okQ_clamp (areas_ne h r hr) x y, r, hr, rclamp_in (areas_ne h r hr) x y⟩)
  rw [clF, e]
  exact ⟨h1, h2⟩
end Go.Proofs.Ytidcajmbkbamcaa
