/-
  The surfaces with an active role: the program collects them off the map, in whatever order, and sorts them. Conditions: as each lemma states them.
-/
import Derived.Test.YtnlckmkjhpaloaaQ2
import Derived.Test.YtnlckmkjhpaloaaShelf
namespace Go.Proofs.Ytnlckmkjhpaloaa
open Go Go.Ab Go.RowKit
set_option linter.unusedSimpArgs false
set_option linter.unusedVariables false
set_option linter.unnecessarySimpa false

attribute [local simp] condK_true condK_false condK_not wpc_skip wpc_ret wpc_exit wpc_seq wpc_reg wpc_regD testA_bool wpc_cond wpc_block thenA_normal thenA_ret thenA_exit blockA_normal blockA_ret blockA_exit blockA_other endA_normal endA_ret ev_tmp' ev_const ev_func ev_global cv_int cv_bool cv_string cv_pointer cv_slice cv_agg put_some put_none wH_s setE_apply setE_env less_eq env_cons env_nil upd_upd upd_apply del_apply startA_eq cells_ag cells_sl one_sl cells_vs one_vs cells_ep one_ep cells_fn one_fn cells_int one_int cells_bool one_bool cells_string one_string cells_pointer one_pointer cells_slice one_slice cells_map one_map cells_agg resK_one resK_nil resK_two rvK_t rvK_c rvsK_nil rvsK_cons iseq_nil iseq_cons gdA_true gdA_false gdA_undef istep_free istep_guard istepV_free istepV_guard dseq_nil dseq_pu dseq_rd dseq_ef chkAll_nil chkAll_cons andK_true pickK_true pickK_false pickK_tb pickK_fb bin2K_pl eqbK_eq eqbK_ne eqpK_eq eqpK_ne un1K_pl convK_int fillK_some fillA_cons fillA_nil cellsK_some needK_true needK_ok seeK_ep seeK_ptr oneK_agg oneK_one nilcK_ptr nilcK_ep fadrK_ptr fadrK_ep fldK_ag iadAK_ptr iadAK_ep iadSK_sl iadSK_vs extK_0 extK_1 extK_2 extK_3 lenK_pl lenK_sl lenK_vs lensK_pl boxK_some minmax1K_int storeK_ptr callvK_fn callvK_pl newsK_nil newsK_vs newsK_sl appK_nil appK_nil0 appK_sl appK_vs bnd1K_int bndK_none bndK_some slsK_vs slsK_nil slsK_sl0 slsK_sl slstrK_pl boolK_some eqsK_ag iop_eqs iop_sls iop_slstr seesK_some seesK_ro mapsK_some MAP_some findK_some findK_none plK_pl nmapK_none nmapK_some iop_mlook iop_mlen iop_mmk iop_mupd iop_mdel iop_mrng itK_none itK_some ptr0K_ptr iop_mnxt iop_ment it1K_some entK_some iop_mov iop_pick iop_bin iop_eqb iop_eqp iop_un iop_conv iop_build iop_load iop_nilc iop_fadr iop_fld iop_iadA iop_iadS iop_ext iop_mkf iop_len iop_lens iop_minmax iop_al iop_box iop_bsl iop_store iop_call iop_callv iop_app BIN_add BIN_sub BIN_mul BIN_and BIN_or BIN_xor BIN_andNot BIN_eql BIN_neq BIN_lss BIN_leq BIN_gtr BIN_geq BIN_quo BIN_rem BIN_shl BIN_shr BIN_sadd BIN_seql BIN_sneq BIN_slss BIN_sleq BIN_sgtr BIN_sgeq UN_neg UN_xor UN_not MM_nil MM_cons partsA argsA ptrA lessL eqL min2I slotN_int slotP_int slotI_int
attribute [local simp] ent_len ent_tt ent_dd ent_one ent_ag ent_t1 ent_d1 ent_eq

/-- The list of the surfaces with an active role. -/
def OfL (g : Int → Ent) (r : Int) (l : List Int) : Prop := l.Pairwise (· < ·) ∧ ∀ s, s ∈ l ↔ (isR r = true ∧ g s = ⟨r, true⟩)
theorem OfL.eq {g : Int → Ent} {r : Int} {a b : List Int} (h1 : OfL g r a) (h2 : OfL g r b) : a = b := rising_eq a b h1.1 h2.1 fun s => (h1.2 s).trans (h2.2 s).symm
def act (r : Int) (x : Int × Ent) : Bool := eeq x.2 ⟨r, true⟩
theorem ofL_of {m : Es} {g : Int → Ent} {r : Int} (hr : isR r = true) (hn : (m.map ek).Nodup) (hg : ∀ s, get m s = g s) {l : List Int} (hp : l.Perm ((m.filter (act r)).map ek)) : OfL g r (l.mergeSort fun x y => decide (x ≤ y)) := by
  have hnd : l.Nodup := hp.nodup_iff.2 (hn.sublist ((List.filter_sublist ..).map ek))
  refine ⟨sort_rising hnd, fun s => ?_⟩
  rw [sort_mem, hp.mem_iff, List.mem_map]
  constructor
  · rintro ⟨x, hx, rfl⟩
    obtain ⟨h1, h2⟩ := List.mem_filter.1 hx
    refine ⟨hr, ?_⟩
    obtain ⟨m1, m2, rfl⟩ := List.append_of_mem h1
    rw [← hg, get_some (fun y hy => (nodup_mid hn).1 y hy) rfl]
    exact (eeq_iff _ _).1 h2
  · rintro ⟨_, h⟩
    rw [← hg] at h
    rcases split_key ek s m with h3 | ⟨m1, x, m2, rfl, h3, h4⟩
    · rw [get_none h3] at h; cases h
    · rw [get_some h3 h4] at h
      exact ⟨x, List.mem_filter.2 ⟨by simp, (eeq_iff _ _).2 h⟩, h4⟩
theorem app_ac {H : AH} {sz bytes : Nat} {x : AV} {m : Nat} {ns : List AV} {k : AV → AH → Prop} (h : @appK H sz bytes x m ns ⟨k⟩) : @appK H sz bytes x m ns ⟨k⟩ := h
theorem c19 {H : AH} {K : AV → AH → Prop} {p b : Nat} {g : Int → Ent} {m : Es} {st : List Nat} {cl : Nat} (r : Int) (h : RG H p b g m st cl) (hm : m.length ≤ 1000000)
    (hk : ∀ out H' l, Row H H' out (l.map vi) l.length 1 → OfL g r l → K out H') : @AC Try.prog 19 [pA p, vi r] H ⟨K⟩ := by
  have hR := h.rs
  have h1 := hR.ob
  have h2 := hR.mp
  refine AC_of (.forget ?_)
  refine call_c follows cf19_ok (by simp) ?_
  cases c1 : isR r with
  | false =>
    have fin := hk vnil H [] (Row.nil H 1) ⟨.nil, fun s => by simp [c1]⟩
    clear hk
    repeat' (first | simp [*] | (with_reducible (refine newK_of fun _ h_ => ?_); have hn_ := free_ne h_; (try simp only [upd_none', ne_eq] at h_)) | (with_reducible (refine condK_of (fun h_ => ?_) (fun h_ => ?_))) | with_reducible (refine c29 hR ?_) | with_reducible (refine (c30 ..).ac ?_))
    exact ⟨H, .refl _, fin⟩
  | true =>
    repeat' (first | simp [*] | with_reducible (refine c29 hR ?_) | with_reducible (refine (c30 ..).ac ?_))
    refine newK_of fun it hit => ?_
    have hbi : b ≠ it := ne_of_free h2 hit
    simp
    refine wpc_loop (fun s => ∃ (seen : List Nat) (out : AV) (l : List Int) (Hs : AH), s.n = 37 ∧ s.H = Hs ∧ s.t 1 = vi r ∧ s.t 5 = out ∧ s.t 20 = pA it ∧ Row (upd H it (.it b cl cl seen)) Hs out (l.map vi) l.length 1 ∧ l.Perm ((vis (act r) m st seen).map ek))
      (fun s => left st (slotSn s.H it)) ?_ ?_
    · refine FgK.same ⟨[], vnil, [], _, rfl, rfl, by simp, by simp, by simp, Row.nil _ 1, ?_⟩
      rw [vis_nil]; exact .refl _
    rintro s ⟨seen, out, l, Hs, hn, hH, e1, e5, e20, hrow, hperm⟩
    have hsub := hrow.sub
    have hHi : Hs it = some (.it b cl cl seen) := hsub _ _ (by simp [upd_apply])
    have hHb : Hs b = some (.map (mI ek ev m) st cl) := hsub _ _ (by simp [upd_apply, hbi, h2])
    have hms : left st (slotSn s.H it) = left st seen := by rw [hH, slotSn_of hHi]
    simp [*]
    refine nextK_of hR.stp.2.2 (Nat.le_refl _) (fun hall => ?_) (fun j e s1 hj hs1 hns => ?_)
    · -- all were shown
      have hp2 : l.Perm ((m.filter (act r)).map ek) := by rw [← vis_all (act r) m st seen hR.stp.1.symm hall]; exact hperm
      have hO := ofL_of c1 hR.nd h.g hp2
      have hsubH : Sub H (upd H it (.it b cl cl seen)) := (Sub.refl H).upd hit
      rcases hrow with ⟨f1, f2, rfl, rfl⟩ | ⟨q, rfl, hq, rfl⟩
      · obtain rfl : l = [] := by simpa using f2
        simp [*]
        refine AC_of (sort_nil Try.slices_Sort_int_none ?_)
        simp
        exact ⟨H, hsubH, hk vnil H [] (Row.nil H 1) (by simpa using hO)⟩
      · simp [*]
        have hl : l.length < 4611686018427387904 := by
          have := hp2.length_eq
          have h4 : (m.filter (act r)).length ≤ m.length := List.length_filter_le ..
          simp at this; omega
        have hq2 : H q = none := by
          have : q ≠ it := by rintro rfl; simp [upd_apply] at hq
          simpa [upd_apply, this] using hq
        refine AC_of (sort_row (enc := Value.int .i64) (b := q) (pre := []) (post := []) (zs := l) (fun blk off cap zs w => Try.slices_Sort_int blk off cap zs w) (by simp [upd_apply, rowC]) hl ?_)
        simp
        refine ⟨upd H q (.cells ((l.mergeSort fun x y => decide (x ≤ y)).map vi)), ?_, ?_⟩
        · intro j o hj
          simp only [upd_apply, rowC, List.nil_append, List.append_nil] at hj ⊢
          split
          · rename_i e; rw [if_pos e] at hj; exact hj
          · rename_i e
            rw [if_neg e] at hj
            rw [if_neg (by rintro rfl; rw [hit] at hj; cases hj)]
            exact hj
        · have := hk (.sl q 0 l.length 1 false) _ _ (by simpa using Row.mk (cs := (l.mergeSort fun x y => decide (x ≤ y)).map vi) (n := l.length) (sz := 1) hq2 : Row H _ _ ((l.mergeSort fun x y => decide (x ≤ y)).map vi) (l.mergeSort fun x y => decide (x ≤ y)).length 1) hO
          exact this
    · -- one more
      obtain ⟨x, hx, rfl⟩ : ∃ x, m[j]? = some x ∧ e = (.int .i64 (ek x), ev x) := by
        simp only [mI, List.getElem?_map, Option.map_eq_some_iff] at hj
        obtain ⟨x, h3, h4⟩ := hj
        exact ⟨x, h3, h4.symm⟩
      have he := entF_of (mI ek ev m) st j _ s1 hR.stp.2.1 hj hs1
      have hst := vis_step (act r) m st seen j x s1 hR.stp.2.1 hx hs1 hns
      have hrow2 := hrow.turn (X' := .it b cl cl (s1 :: seen))
      have hlt := left_lt (List.mem_of_getElem? hs1) hns
      have hll : l.length ≤ m.length := by
        have h3 := hperm.length_eq
        have h4 := (vis_sub (act r) m st seen)
        simp at h3; omega
      simp [*]
      refine newK_of fun z hz => ?_
      have nz := free_ne hz
      have hz2 := upd_none'.1 hz
      have hsz : Sub (upd Hs it (.it b cl cl (s1 :: seen))) (upd (upd Hs it (.it b cl cl (s1 :: seen))) z (.cells (ent x.2))) := (Sub.refl _).upd hz
      simp [*]
      cases c2 : eeq x.2 ⟨r, true⟩ with
      | false =>
        simp [*]
        refine FgK.of _ hsz ⟨⟨s1 :: seen, out, l, _, by simp [*], rfl, by simp [*], by simp [*], by simp [*], hrow2, ?_⟩, ?_⟩
        · refine hperm.trans ?_
          have : act r x = false := c2
          rw [this] at hst
          simpa using (hst.symm.map ek)
        · rw [slotSn_of (m := b) (since := cl) (last := cl) (seen := s1 :: seen) (by simp [upd_apply]), hms]; exact hlt
      | true =>
        simp [*]
        refine newK_of fun y hy => ?_
        have hsy := hsz.upd (Sub.none_of hsz hy) (o := .cells [vi (ek x)])
        simp [*]
        refine hrow2.app (by exact hsy) (by decide) rfl (by simp) (by omega) fun q H' hq hsq => ?_
        simp [*]
        refine FgK.of _ hsq ⟨⟨s1 :: seen, .sl q 0 (l.length + 1) 1 false, l ++ [ek x], _, by simp [*], rfl, by simp [*], by simp [*], by simp [*], ?_, ?_⟩, ?_⟩
        · have := Row.mk (cs := l.map vi ++ [vi (ek x)]) (n := l.length + 1) (sz := 1) hq
          simpa using this
        · have : act r x = true := c2
          rw [this] at hst
          have h5 := hst.symm.map ek
          simp only [if_true, List.map_append, List.map_cons, List.map_nil] at h5
          exact (hperm.append_right _).trans h5
        · have hqi : q ≠ it := by rintro rfl; simp [upd_apply] at hq
          rw [slotSn_of (m := b) (since := cl) (last := cl) (seen := s1 :: seen) (by simp [upd_apply, Ne.symm hqi]), hms]; exact hlt
end Go.Proofs.Ytnlckmkjhpaloaa
