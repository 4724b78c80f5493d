/-
  The reference's Pending, walked. Conditions: as each lemma states them.
-/
import Derived.Test.YtbdcnoahalknkaaD10
namespace Go.Proofs.Ytbdcnoahalknkaa
open Go Go.Ab Go.RowKit
set_option linter.unusedSimpArgs false
set_option linter.unusedVariables false
set_option linter.unnecessarySimpa false

attribute [local simp] condK_true condK_false condK_not wpc_skip wpc_ret wpc_exit wpc_seq wpc_reg wpc_regD testA_bool wpc_cond wpc_block thenA_normal thenA_ret thenA_exit blockA_normal blockA_ret blockA_exit blockA_other endA_normal endA_ret ev_tmp' ev_const ev_func ev_global cv_int cv_bool cv_string cv_pointer cv_slice cv_agg cv_map put_some put_none wH_s setE_apply setE_env less_eq env_cons env_nil upd_upd upd_apply del_apply startA_eq cells_ag cells_sl one_sl cells_vs one_vs cells_ep one_ep cells_fn one_fn cells_int one_int cells_bool one_bool cells_string one_string cells_pointer one_pointer cells_slice one_slice cells_map one_map cells_agg resK_one resK_nil resK_two rvK_t rvK_c rvsK_nil rvsK_cons iseq_nil iseq_cons gdA_true gdA_false gdA_undef istep_free istep_guard istepV_free istepV_guard dseq_nil dseq_pu dseq_rd dseq_ef wpc_regT dtree_nil dtree_pu dtree_rd dtree_ef dtree_br chkAll_nil chkAll_cons andK_true pickK_true pickK_false pickK_tb pickK_fb bin2K_pl eqbK_eq eqbK_ne eqpK_eq eqpK_ne eqmK_eq eqmK_ne eqzK_eq eqzK_ne eqzK_sl eqzK_vs un1K_pl convK_int fillK_some fillA_cons fillA_nil cellsK_some needK_true needK_ok seeK_ep seeK_ptr oneK_agg oneK_one nilcK_ptr nilcK_ep fadrK_ptr fadrK_ep fldK_ag iadAK_ptr iadAK_ep iadSK_sl iadSK_vs extK_0 extK_1 extK_2 extK_3 lenK_pl lenK_sl lenK_vs lensK_pl boxK_some minmax1K_int storeK_ptr callvK_fn callvK_pl newsK_nil newsK_vs newsK_sl appK_nil appK_nil0 appK_sl appK_vs bnd1K_int bndK_none bndK_some slsK_vs slsK_nil slsK_sl0 slsK_sl slstrK_pl boolK_some eqsK_ag iop_eqs iop_sls iop_slstr seesK_some seesK_ro mapsK_some MAP_some findK_some findK_none plK_pl nmapK_none nmapK_some iop_mlook iop_mlen iop_mmk iop_mupd iop_mdel iop_mrng itK_none itK_some ptr0K_ptr iop_mnxt iop_ment it1K_some entK_some iop_mov iop_pick iop_bin iop_eqb iop_eqp iop_eqm iop_eqz iop_un iop_conv iop_build iop_load iop_nilc iop_fadr iop_fld iop_iadA iop_iadS iop_ext iop_mkf iop_len iop_lens iop_minmax iop_al iop_box iop_bsl iop_store iop_call iop_callv iop_app BIN_add BIN_sub BIN_mul BIN_and BIN_or BIN_xor BIN_andNot BIN_eql BIN_neq BIN_lss BIN_leq BIN_gtr BIN_geq BIN_quo BIN_rem BIN_shl BIN_shr BIN_sadd BIN_seql BIN_sneq BIN_slss BIN_sleq BIN_sgtr BIN_sgeq UN_neg UN_xor UN_not MM_nil MM_cons partsA argsA ptrA lessL eqL min2I slotN_int slotP_int slotI_int

theorem rising_take {pl : List Int} (h : pl.Pairwise (· < ·)) {k : Nat} (hk : 0 < k) (hk2 : k ≤ pl.length) (c : Int) : (∀ x ∈ pl.take k, x < c) ↔ pl[k - 1] < c := by
  constructor
  · intro hx
    exact hx _ (by rw [List.mem_take_iff_getElem]; exact ⟨k - 1, by omega, rfl⟩)
  · intro hx x hm
    rw [List.mem_take_iff_getElem] at hm
    obtain ⟨j, hj, rfl⟩ := hm
    rcases Nat.lt_or_ge j (k - 1) with h1 | h1
    · have := List.pairwise_iff_getElem.1 h j (k - 1) (by omega) (by omega) h1
      omega
    · have : j = k - 1 := by omega
      subst this; exact hx
theorem next_some {pl : List Int} (h : pl.Pairwise (· < ·)) {k : Nat} (hk : k ≤ pl.length) {best : Int} (hb : best ∈ pl) (hg : ∀ x ∈ pl.take k, x < best) (hm : ∀ c ∈ pl, (∀ x ∈ pl.take k, x < c) → best ≤ c) : ∃ h : k < pl.length, pl[k] = best := by
  obtain ⟨j, hj, rfl⟩ := List.getElem_of_mem hb
  have hjk : k ≤ j := by
    apply Nat.le_of_not_lt
    intro h1
    have := hg pl[j] (by rw [List.mem_take_iff_getElem]; exact ⟨j, by omega, rfl⟩)
    omega
  refine ⟨by omega, ?_⟩
  have h1 := hm pl[k] (List.getElem_mem _) fun x hx => by
    rw [List.mem_take_iff_getElem] at hx
    obtain ⟨i, hi, rfl⟩ := hx
    exact List.pairwise_iff_getElem.1 h i k (by omega) (by omega) (by omega)
  rcases Nat.lt_or_ge k j with h2 | h2
  · have := List.pairwise_iff_getElem.1 h k j (by omega) hj h2
    omega
  · have : j = k := by omega
    subst this; rfl
theorem next_none {pl : List Int} (h : pl.Pairwise (· < ·)) {k : Nat} (hk : k ≤ pl.length) (hm : ∀ c ∈ pl, ¬ ∀ x ∈ pl.take k, x < c) : k = pl.length := by
  apply Classical.byContradiction
  intro h1
  have h2 : k < pl.length := by omega
  refine hm pl[k] (List.getElem_mem h2) fun x hx => ?_
  rw [List.mem_take_iff_getElem] at hx
  obtain ⟨i, hi, rfl⟩ := hx
  exact List.pairwise_iff_getElem.1 h i k (by omega) (by omega) (by omega)
/-- A sequence that can go on. -/
def cnd (W : List Int) (s : Sq) : Prop := W.length < s.ks.length ∧ W <+: s.ks
theorem pend_cnd {S : List Sq} {w : List Int} {c : Int} : c ∈ pend S w ↔ ∃ s ∈ S, cnd (was S w) s ∧ s.ks.getD (was S w).length 0 = c := by
  rw [mem_pend, ← mem_cand]
  simp only [cand, List.mem_map, List.mem_filter, Bool.and_eq_true, decide_eq_true_eq, List.isPrefixOf_iff_prefix, cnd]
  constructor
  · rintro ⟨s, ⟨h1, h2⟩, h3⟩; exact ⟨s, h1, h2, h3⟩
  · rintro ⟨s, h1, h2, h3⟩; exact ⟨s, ⟨h1, h2⟩, h3⟩
/-- The least so far. -/
def Least (pl : List Int) (k : Nat) (W : List Int) (S : List Sq) (best : Int) : Prop :=
  (best = 0 ∧ ∀ s ∈ S, cnd W s → ¬ ∀ x ∈ pl.take k, x < s.ks.getD W.length 0) ∨
  (best ≠ 0 ∧ best ∈ pl ∧ (∀ x ∈ pl.take k, x < best) ∧ ∀ s ∈ S, cnd W s → (∀ x ∈ pl.take k, x < s.ks.getD W.length 0) → best ≤ s.ks.getD W.length 0)
theorem Least.nil (pl : List Int) (k : Nat) (W : List Int) : Least pl k W [] 0 := .inl ⟨rfl, by simp⟩
theorem Least.skip {pl W : List Int} {k : Nat} {S : List Sq} {best : Int} {s : Sq} (h : Least pl k W S best) (hs : cnd W s → (∀ x ∈ pl.take k, x < s.ks.getD W.length 0) → best ≠ 0 ∧ best ≤ s.ks.getD W.length 0) : Least pl k W (S ++ [s]) best := by
  rcases h with ⟨h1, h2⟩ | ⟨h1, h2, h3, h4⟩
  · refine .inl ⟨h1, fun t ht hc hx => ?_⟩
    rcases List.mem_append.1 ht with ht | ht
    · exact h2 t ht hc hx
    · obtain rfl := List.mem_singleton.1 ht
      exact (hs hc hx).1 h1
  · refine .inr ⟨h1, h2, h3, fun t ht hc hx => ?_⟩
    rcases List.mem_append.1 ht with ht | ht
    · exact h4 t ht hc hx
    · obtain rfl := List.mem_singleton.1 ht
      exact (hs hc hx).2
theorem Least.take {pl W : List Int} {k : Nat} {S : List Sq} {best : Int} {s : Sq} (h : Least pl k W S best) (hm : s.ks.getD W.length 0 ∈ pl) (h0 : s.ks.getD W.length 0 ≠ 0) (hg : ∀ x ∈ pl.take k, x < s.ks.getD W.length 0)
    (hb : best = 0 ∨ s.ks.getD W.length 0 < best) : Least pl k W (S ++ [s]) (s.ks.getD W.length 0) := by
  refine .inr ⟨h0, hm, hg, fun t ht hc hx => ?_⟩
  rcases List.mem_append.1 ht with ht | ht
  · rcases h with ⟨h1, h2⟩ | ⟨h1, h2, h3, h4⟩
    · exact absurd hx (h2 t ht hc)
    · have := h4 t ht hc hx
      have := hb.resolve_left h1
      omega
  · obtain rfl := List.mem_singleton.1 ht; omega
theorem c21 {H : AH} {K : AV → AH → Prop} {a b : AV} {mk : Bool} {L : List (AV × Sq)} {w : List Int} (ha : Sr H a L) (hb : Ri H b w) (hl : L.length ≤ 1000000) (hw : w.length ≤ 1000000) (hA : Acc (sqs L))
    (hk : ∀ out H', Row H H' out ((pend (sqs L) w).map vi) (pend (sqs L) w).length 1 → K out H') : @AC Try.prog 21 [.ag [vb mk, a], .ag [b]] H ⟨K⟩ := by
  have oa := ha.row.one
  have ob := hb.one
  have la := fun k => ha.row.lenK (k := k)
  refine AC_of (.forget ?_)
  refine call_c follows cf21_ok (by simp) ?_
  simp [oa, ob]
  refine newK_of fun z hz => ?_
  simp [ob]
  refine newK_of fun y hy => ?_
  obtain ⟨n1, n2, hyH⟩ := upd_none'.1 hy
  have hS : Sub H (upd (upd H z (.cells [vb mk, a])) y (.cells [b])) := ((Sub.refl H).upd hz).upd hyH
  have hzz : (upd (upd H z (.cells [vb mk, a])) y (.cells [b])) z = some (.cells [vb mk, a]) := by simp [upd_apply, n2]
  have hyy : (upd (upd H z (.cells [vb mk, a])) y (.cells [b])) y = some (.cells [b]) := by simp [upd_apply]
  have ha2 := ha.sub hS
  have hb2 := hb.sub hS
  simp [n2]
  generalize upd (upd H z (.cells [vb mk, a])) y (.cells [b]) = H2 at *
  refine c22 ha2 hb2 hl hw fun kw H3 hrow => ?_
  have hS3 := hrow.sub
  have hkw := hrow.ri
  have hz3 := hS3.at hzz
  have ha3 := ha2.sub hS3
  have hH3 := hS.trans hS3
  have lkw := fun k => hkw.lenK (k := k)
  have hwl := was_len hA (w := w)
  have hpr := pend_rising (sqs L) w
  have hpl := pend_len (sqs L) w
  have hpc : ∀ s ∈ sqs L, cnd (was (sqs L) w) s → s.ks.getD (was (sqs L) w).length 0 ∈ pend (sqs L) w := fun s hs hc => pend_cnd.2 ⟨s, hs, hc, rfl⟩
  have hpc' : ∀ c ∈ pend (sqs L) w, ∃ s ∈ sqs L, cnd (was (sqs L) w) s ∧ s.ks.getD (was (sqs L) w).length 0 = c := fun c hc => pend_cnd.1 hc
  have hp1 : ∀ c ∈ pend (sqs L) w, 1 ≤ c := fun c hc => hA.dom_pos (mem_pend.1 hc)
  rw [sqs_len] at hpl
  generalize hW : was (sqs L) w = W at *
  generalize hPl : pend (sqs L) w = pl at *
  simp
  refine wpc_loop (fun s => ∃ (k : Nat) (out : AV), s.n = 89 ∧ s.t 2 = pA z ∧ s.t 5 = kw ∧ s.t 6 = out ∧ s.t 7 = vi k ∧ k ≤ pl.length ∧ Row H3 s.H out ((pl.take k).map vi) (pl.take k).length 1) (fun s => L.length + 1 - slotN (s.t 7)) ?_ ?_
  · exact FgK.same ⟨0, vnil, by simp, by simp, by simp, by simp, by simp, by omega, by simpa using Row.nil H3 1⟩
  rintro s ⟨k, out, hn, e2, e5, e6, e7, hkp, hro⟩
  have hs3 := hro.sub
  have hz4 := hs3.at hz3
  have ha4 := ha3.sub hs3
  have hkw4 := hkw.sub hs3
  have hout := hro.ri
  have lo := fun k => hout.lenK (k := k)
  have oo := hout.one
  have htl : (pl.take k).length = k := by simp; omega
  rw [htl] at lo
  have wr := IntWalk.i64_in ((k : Int) + 1) (by omega)
  have hkL : (k : Int) ≤ L.length := by omega
  have hkL' : k ≤ L.length := by omega
  generalize hHeq : s.H = Hs at *
  simp (disch := omega) [hn, hHeq, e2, e5, e6, e7, la, hz4, hkL']
  refine wpc_loop (fun s' => ∃ (i : Nat) (best : Int), s'.n = 89 ∧ s'.H = Hs ∧ s'.t 2 = pA z ∧ s'.t 5 = kw ∧ s'.t 6 = out ∧ s'.t 7 = vi k ∧ s'.t 8 = vi best ∧ s'.t 9 = vi i ∧ i ≤ L.length ∧ Least pl k W (sqs (L.take i)) best) (fun s' => L.length - slotN (s'.t 9)) ?_ ?_
  · exact FgK.same ⟨0, 0, by simp, by simp, by simp, by simp, by simp, by simp, by simp, by simp, by omega, by simpa [sqs] using Least.nil pl k W⟩
  rintro s' ⟨i, best, gn, gH, g2, g5, g6, g7, g8, g9, hi, hlst⟩
  by_cases hlt : i < L.length
  · have wr' := IntWalk.i64_in ((i : Int) + 1) (by omega)
    obtain ⟨p, q0, q1, hp, hq0, hq1, s0, s1, s2⟩ := ha4.at hlt
    have hkey := ha4.key _ (List.getElem_mem hlt)
    have hst := sqs_take L i hlt
    have hmem : L[i].2 ∈ sqs L := List.mem_map_of_mem (List.getElem_mem hlt)
    generalize L[i] = xx at *
    obtain ⟨ax, sx⟩ := xx
    simp only at hkey hst s0 s1 s2 hmem
    have lx := fun k => hkey.lenK (k := k)
    have hpm := hpc sx hmem
    have nxt : ∀ (s1 : ASt) (b' : Int), s1.n = 89 → s1.H = Hs → s1.t 2 = pA z → s1.t 5 = kw → s1.t 6 = out → s1.t 7 = vi k → s1.t 8 = vi b' → s1.t 9 = vi ((i : Int) + 1) → Least pl k W (sqs (L.take i) ++ [sx]) b' →
        (∃ (i : Nat) (best : Int), s1.n = 89 ∧ s1.H = Hs ∧ s1.t 2 = pA z ∧ s1.t 5 = kw ∧ s1.t 6 = out ∧ s1.t 7 = vi k ∧ s1.t 8 = vi best ∧ s1.t 9 = vi i ∧ i ≤ L.length ∧ Least pl k W (sqs (L.take i)) best) ∧ L.length - slotN (s1.t 9) < L.length - slotN (s'.t 9) :=
      fun s1 b' h1 h2 h3 h4 h5 h6 h7 h8 h9 => ⟨⟨i + 1, b', h1, h2, h3, h4, h5, h6, h7, by rw [h8]; simp, by omega, by rw [hst]; exact h9⟩, by rw [h8, g9]; simp [slotN]; omega⟩
    by_cases c1 : W.length < sx.ks.length
    · obtain ⟨r, hr1, hr2⟩ := hkey.see c1
      have hgd : sx.ks.getD W.length 0 = sx.ks[W.length] := by rw [List.getD_eq_getElem?_getD, List.getElem?_eq_getElem c1]; rfl
      rw [hgd] at hpm
      simp (disch := omega) [gn, gH, g2, g5, g6, g7, g8, g9, la, lkw, hlt, hp, hq0, s1 _ (Sub.refl _), hz4, lx, c1]
      refine c26 hkw4 hkey (by have : maxLen = 9223372036854775807 := rfl; omega) ?_
      cases c2 : W.isPrefixOf sx.ks with
      | true =>
        have hcn : cnd W sx := ⟨c1, List.isPrefixOf_iff_prefix.1 c2⟩
        have hpm := hpm hcn
        have h1 := hp1 _ hpm
        have hpm' : sx.ks.getD W.length 0 ∈ pl := by rw [hgd]; exact hpm
        have go : (k = 0 ∨ ∃ h : 0 < k, pl[k - 1] < sx.ks[W.length]) → ∀ x ∈ pl.take k, x < sx.ks.getD W.length 0 := by
          rintro (rfl | ⟨h, h2⟩)
          · simp
          · rw [hgd]; exact (rising_take hpr h hkp _).2 h2
        rcases Nat.eq_zero_or_pos k with k0 | k0
        · have k0' : (k : Int) = 0 := by omega
          have hg := go (.inl k0)
          by_cases b0 : best = 0
          · have hT := hlst.take hpm' (by rw [hgd]; omega) hg (.inl b0)
            rw [hgd] at hT
            simp (disch := omega) [gH, k0, k0', lo, lkw, g8, b0, hr1, hr2 _ (Sub.refl _), wr']
            refine FgK.same (nxt _ _ ?_ ?_ ?_ ?_ ?_ ?_ ?_ ?_ hT) <;> simp [*]
          · by_cases b1 : sx.ks[W.length] < best
            · have hT := hlst.take hpm' (by rw [hgd]; omega) hg (.inr (by rw [hgd]; exact b1))
              rw [hgd] at hT
              simp (disch := omega) [gH, k0, k0', lo, lkw, g8, b0, b1, hr1, hr2 _ (Sub.refl _), wr']
              refine FgK.same (nxt _ _ ?_ ?_ ?_ ?_ ?_ ?_ ?_ ?_ hT) <;> simp [*]
            · have hT := hlst.skip (s := sx) fun _ _ => ⟨b0, by rw [hgd]; omega⟩
              simp (disch := omega) [gH, k0, k0', lo, lkw, g8, b0, b1, hr1, hr2 _ (Sub.refl _), wr']
              refine FgK.same (nxt _ _ ?_ ?_ ?_ ?_ ?_ ?_ ?_ ?_ hT) <;> simp [*]
        · have k0' : ¬ (k : Int) = 0 := by omega
          have k0n : ¬ k = 0 := by omega
          have w2 : IntKind.i64.wrap ((k : Int) - 1) = ((k - 1 : Nat) : Int) := by rw [IntWalk.i64_in _ (by omega)]; omega
          obtain ⟨u, hu1, hu2⟩ := hout.see (i := k - 1) (by omega)
          rw [List.getElem_take] at hu2
          by_cases d1 : pl[k - 1] < sx.ks[W.length]
          · have hg := go (.inr ⟨k0, d1⟩)
            by_cases b0 : best = 0
            · have hT := hlst.take hpm' (by rw [hgd]; omega) hg (.inl b0)
              rw [hgd] at hT
              simp (disch := omega) [gH, k0n, k0', lo, lkw, g8, b0, hr1, hr2 _ (Sub.refl _), hu1, hu2 _ (Sub.refl _), w2, d1, wr']
              refine FgK.same (nxt _ _ ?_ ?_ ?_ ?_ ?_ ?_ ?_ ?_ hT) <;> simp [*]
            · by_cases b1 : sx.ks[W.length] < best
              · have hT := hlst.take hpm' (by rw [hgd]; omega) hg (.inr (by rw [hgd]; exact b1))
                rw [hgd] at hT
                simp (disch := omega) [gH, k0n, k0', lo, lkw, g8, b0, b1, hr1, hr2 _ (Sub.refl _), hu1, hu2 _ (Sub.refl _), w2, d1, wr']
                refine FgK.same (nxt _ _ ?_ ?_ ?_ ?_ ?_ ?_ ?_ ?_ hT) <;> simp [*]
              · have hT := hlst.skip (s := sx) fun _ _ => ⟨b0, by rw [hgd]; omega⟩
                simp (disch := omega) [gH, k0n, k0', lo, lkw, g8, b0, b1, hr1, hr2 _ (Sub.refl _), hu1, hu2 _ (Sub.refl _), w2, d1, wr']
                refine FgK.same (nxt _ _ ?_ ?_ ?_ ?_ ?_ ?_ ?_ ?_ hT) <;> simp [*]
          · have hT := hlst.skip (s := sx) fun _ hx => absurd ((rising_take hpr k0 hkp _).1 hx) (by rw [hgd]; exact d1)
            simp (disch := omega) [gH, k0n, k0', lo, lkw, g8, hr1, hr2 _ (Sub.refl _), hu1, hu2 _ (Sub.refl _), w2, d1, wr']
            refine FgK.same (nxt _ _ ?_ ?_ ?_ ?_ ?_ ?_ ?_ ?_ hT) <;> simp [*]
      | false =>
        have hT := hlst.skip (s := sx) fun hc _ => by
          have := List.isPrefixOf_iff_prefix.2 hc.2
          rw [c2] at this; cases this
        simp (disch := omega) [wr']
        refine FgK.same (nxt _ _ ?_ ?_ ?_ ?_ ?_ ?_ ?_ ?_ hT) <;> simp [*]
    · have hT := hlst.skip (s := sx) fun hc _ => absurd hc.1 c1
      simp (disch := omega) [gn, gH, g2, g5, g6, g7, g8, g9, la, lkw, hlt, hp, hq0, s1 _ (Sub.refl _), hz4, lx, c1, wr']
      refine FgK.same (nxt _ _ ?_ ?_ ?_ ?_ ?_ ?_ ?_ ?_ hT) <;> simp [*]
  · rw [List.take_of_length_le (by omega)] at hlst
    rcases hlst with ⟨rfl, h2⟩ | ⟨h1, h2, h3, h4⟩
    · have hkk := next_none hpr hkp fun c hc hx => by
        obtain ⟨t, ht, h5, h6⟩ := hpc' c hc
        exact h2 t ht h5 (by rw [h6]; exact hx)
      have hro2 : Row H3 Hs out (pl.map vi) pl.length 1 := by
        have := hro
        rw [List.take_of_length_le (by omega)] at this
        exact this
      obtain ⟨H1, k1, k2⟩ := hro2.out hH3
      simp (disch := omega) [gn, gH, g2, g5, g6, g7, g8, g9, la, hlt, hz4]
      exact ⟨H1, k1, hk _ _ k2⟩
    · obtain ⟨hlk, hbe⟩ := next_some hpr hkp h2 h3 fun c hc hx => by
        obtain ⟨t, ht, h5, h6⟩ := hpc' c hc
        have := h4 t ht h5 (by rw [h6]; exact hx)
        omega
      simp (disch := omega) [gn, gH, g2, g5, g6, g7, g8, g9, la, hlt, hz4, h1]
      refine newK_of fun q hq => ?_
      have hsq : Sub Hs (upd Hs q (.cells [vi best])) := (Sub.refl Hs).upd hq
      generalize hx4 : AV.sl q 0 1 1 true = x4
      have hnw : ∀ k : Nat → List AV → Prop, @NEWS (upd Hs q (.cells [vi best])) x4 1 ⟨k⟩ = k 1 [vi best] := by intro k; rw [← hx4]; simp
      simp [hnw]
      refine hro.app hsq (by decide) (by simp) (by simp) (by omega) fun r H' hr hsr => ?_
      simp (disch := omega) [wr]
      refine FgK.of _ hsr ⟨⟨k + 1, .sl r 0 ((pl.take k).length + 1) 1 false, by simp, by simp [g2], by simp [g5], by simp; omega, by simp, by omega, ?_⟩, by simp [e7]; omega⟩
      have e : pl.take (k + 1) = pl.take k ++ [best] := by rw [List.take_succ_eq_append_getElem hlk, hbe]
      rw [e]
      have := Row.mk (cs := (pl.take k ++ [best]).map vi) (n := (pl.take k ++ [best]).length) (sz := 1) hr
      simpa using this
end Go.Proofs.Ytbdcnoahalknkaa
