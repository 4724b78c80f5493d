/-
  Names that entered and left, of the reference; two lists compared. Conditions: as each lemma states them.
-/
import Derived.Test.YtidcajmbkbamcaaL6
namespace Go.Proofs.Ytidcajmbkbamcaa
open Go Go.Ab Go.RowKit
set_option linter.unusedSimpArgs false
set_option linter.unusedVariables false
set_option linter.unnecessarySimpa false

attribute [local simp] condK_true condK_false condK_not wpc_skip wpc_ret wpc_exit wpc_seq wpc_reg wpc_regD testA_bool wpc_cond wpc_block thenA_normal thenA_ret thenA_exit blockA_normal blockA_ret blockA_exit blockA_other endA_normal endA_ret ev_tmp' ev_const ev_func ev_global cv_int cv_bool cv_string cv_pointer cv_slice cv_agg put_some put_none wH_s setE_apply setE_env less_eq env_cons env_nil upd_upd upd_apply del_apply startA_eq cells_ag cells_sl one_sl cells_vs one_vs cells_ep one_ep cells_fn one_fn cells_int one_int cells_bool one_bool cells_string one_string cells_pointer one_pointer cells_slice one_slice cells_map one_map cells_agg resK_one resK_nil resK_two rvK_t rvK_c rvsK_nil rvsK_cons iseq_nil iseq_cons gdA_true gdA_false gdA_undef istep_free istep_guard istepV_free istepV_guard dseq_nil dseq_pu dseq_rd dseq_ef chkAll_nil chkAll_cons andK_true pickK_true pickK_false pickK_tb pickK_fb bin2K_pl eqbK_eq eqbK_ne eqpK_eq eqpK_ne un1K_pl convK_int fillK_some fillA_cons fillA_nil cellsK_some needK_true needK_ok seeK_ep seeK_ptr oneK_agg oneK_one nilcK_ptr nilcK_ep fadrK_ptr fadrK_ep fldK_ag iadAK_ptr iadAK_ep iadSK_sl iadSK_vs extK_0 extK_1 extK_2 extK_3 lenK_pl lenK_sl lenK_vs lensK_pl boxK_some minmax1K_int storeK_ptr callvK_fn callvK_pl newsK_nil newsK_vs newsK_sl appK_nil appK_nil0 appK_sl appK_vs bnd1K_int bndK_none bndK_some slsK_vs slsK_nil slsK_sl0 slsK_sl slstrK_pl boolK_some eqsK_ag iop_eqs iop_sls iop_slstr seesK_some seesK_ro mapsK_some MAP_some findK_some findK_none plK_pl nmapK_none nmapK_some iop_mlook iop_mlen iop_mmk iop_mupd iop_mdel iop_mrng itK_none itK_some ptr0K_ptr iop_mnxt iop_ment it1K_some entK_some iop_mov iop_pick iop_bin iop_eqb iop_eqp iop_un iop_conv iop_build iop_load iop_nilc iop_fadr iop_fld iop_iadA iop_iadS iop_ext iop_mkf iop_len iop_lens iop_minmax iop_al iop_box iop_bsl iop_store iop_call iop_callv iop_app BIN_add BIN_sub BIN_mul BIN_and BIN_or BIN_xor BIN_andNot BIN_eql BIN_neq BIN_lss BIN_leq BIN_gtr BIN_geq BIN_quo BIN_rem BIN_shl BIN_shr BIN_sadd BIN_seql BIN_sneq BIN_slss BIN_sleq BIN_sgtr BIN_sgeq UN_neg UN_xor UN_not MM_nil MM_cons partsA argsA ptrA lessL eqL min2I slotN_int slotP_int slotI_int

theorem c31 {H : AH} {K : AV → AH → Prop} {x y0 : AV} (a b : List ByteArray) (hx : RowR H x a) (hy : RowR H y0 b) (hl : a.length ≤ 1000) (hl2 : b.length ≤ 1000)
    (hk : ∀ out H', Row H H' out ((mis a b).map vs8) (mis a b).length 1 → K out H') : @AC Try.prog 31 [x, y0] H ⟨K⟩ := by
  refine AC_of ?_
  have lx := fun k => hx.lenK (k := k)
  refine call_c follows cf31_ok (by simp) ?_
  simp [lx]
  refine wpc_loop (fun s => ∃ (i : Nat) (out : AV) (L : List ByteArray), s.n = 37 ∧ s.t 1 = y0 ∧ s.t 5 = out ∧ s.t 0 = x ∧ s.t 6 = vi i ∧ i ≤ a.length ∧ L = mis (a.take i) b ∧ Row H s.H out (L.map vs8) L.length 1) (fun s => a.length - slotN (s.t 6)) ?_ ?_
  · exact FgK.same ⟨0, vnil, [], by simp, by simp, by simp, by simp, by simp, by omega, by simp [mis], by simp; exact Row.nil _ 1⟩
  rintro s ⟨i, out, L, hn, e1, e5, e8, e10, hi, hL, hrow⟩
  have w := IntWalk.i64_in ((i : Int) + 1) (by omega)
  have hsub := hrow.sub
  have hx2 := hx.sub hsub
  have hy2 := hy.sub hsub
  have hLl : L.length ≤ i := by
    have := mis_len b (a.take i) []
    rw [hL]; unfold mis; simp at this; omega
  have hin : RowR s.H out L := .inl (hrow.rin (by simp))
  by_cases hlt : i < a.length
  · have hd := nm_at hlt
    have hsp := take_snoc hlt
    generalize a[i] = y at hd hsp
    have hb1 : i + 1 ≤ a.length := by omega
    have hF2 : mis (a.take (i + 1)) b = misS b L y := by rw [hL, hsp, mis, List.foldl_append]; rfl
    have step : ∀ (next : List ByteArray) (out' : AV) (H' H0 : AH), misS b L y = next → Row H H0 out' (next.map vs8) next.length 1 → Sub H0 H' → s.n = 37 → True := fun _ _ _ _ _ _ _ _ => trivial
    by_cases c1 : y ∈ b
    · have hm : misS b L y = L := if_pos c1
      rcases hx2.at (by omega) with ⟨q, f, rfl, hq⟩ | rfl
      · simp (disch := omega) [hn, e1, e5, e8, e10, lx, hlt, hq, hd, hb1]
        refine c52 b y hy2 (by omega) ?_
        simp (disch := omega) [hn, e1, e5, e8, e10, c1, w]
        exact FgK.same ⟨⟨i + 1, out, L, by simp [hn], by simp [e1], by simp [e5], by simp [e8], by simp, by omega, by rw [hF2, hm], by simpa using hrow⟩, by simp [e10]; omega⟩
      · simp (disch := omega) [hn, e1, e5, e8, e10, lx, hlt, hd, hb1]
        refine c52 b y hy2 (by omega) ?_
        simp (disch := omega) [hn, e1, e5, e8, e10, c1, w]
        exact FgK.same ⟨⟨i + 1, out, L, by simp [hn], by simp [e1], by simp [e5], by simp [e8], by simp, by omega, by rw [hF2, hm], by simpa using hrow⟩, by simp [e10]; omega⟩
    · by_cases c2 : y ∈ L
      · have hm : misS b L y = L := by rw [misS, if_neg c1, if_pos c2]
        rcases hx2.at (by omega) with ⟨q, f, rfl, hq⟩ | rfl
        · simp (disch := omega) [hn, e1, e5, e8, e10, lx, hlt, hq, hd, hb1]
          refine c52 b y hy2 (by omega) ?_
          simp (disch := omega) [hn, e1, e5, e8, e10, lx, hlt, hq, hd, hb1, c1]
          refine c52 L y hin (by omega) ?_
          simp (disch := omega) [hn, e1, e5, e8, e10, c2, w]
          exact FgK.same ⟨⟨i + 1, out, L, by simp [hn], by simp [e1], by simp [e5], by simp [e8], by simp, by omega, by rw [hF2, hm], by simpa using hrow⟩, by simp [e10]; omega⟩
        · simp (disch := omega) [hn, e1, e5, e8, e10, lx, hlt, hd, hb1]
          refine c52 b y hy2 (by omega) ?_
          simp (disch := omega) [hn, e1, e5, e8, e10, lx, hlt, hd, hb1, c1]
          refine c52 L y hin (by omega) ?_
          simp (disch := omega) [hn, e1, e5, e8, e10, c2, w]
          exact FgK.same ⟨⟨i + 1, out, L, by simp [hn], by simp [e1], by simp [e5], by simp [e8], by simp, by omega, by rw [hF2, hm], by simpa using hrow⟩, by simp [e10]; omega⟩
      · have hm : misS b L y = L ++ [y] := by rw [misS, if_neg c1, if_neg c2]
        rcases hx2.at (by omega) with ⟨q, f, rfl, hq⟩ | rfl
        · simp (disch := omega) [hn, e1, e5, e8, e10, lx, hlt, hq, hd, hb1]
          refine c52 b y hy2 (by omega) ?_
          simp (disch := omega) [hn, e1, e5, e8, e10, lx, hlt, hq, hd, hb1, c1]
          refine c52 L y hin (by omega) ?_
          simp (disch := omega) [hn, e1, e5, e8, e10, lx, hlt, hq, hd, hb1, c2]
          refine newK_of fun u hu => ?_
          have hsu : Sub s.H (upd s.H u (.cells [vs8 y])) := (Sub.refl _).upd hu
          try simp (disch := omega) [hn, e1, e5, e8, e10]
          refine hrow.app (by exact hsu) (by decide) rfl (by simp) (by omega) fun g H' hg hsg => ?_
          simp (disch := omega) [hn, e1, e5, e8, e10, w]
          refine FgK.of _ hsg ⟨⟨i + 1, .sl g 0 (L.length + 1) 1 false, L ++ [y], by simp [hn], by simp [e1], by simp, by simp [e8], by simp, by omega, by rw [hF2, hm], ?_⟩, by simp [e10]; omega⟩
          have := Row.mk (cs := L.map vs8 ++ [vs8 y]) (n := L.length + 1) (sz := 1) hg
          simpa using this
        · simp (disch := omega) [hn, e1, e5, e8, e10, lx, hlt, hd, hb1]
          refine c52 b y hy2 (by omega) ?_
          simp (disch := omega) [hn, e1, e5, e8, e10, lx, hlt, hd, hb1, c1]
          refine c52 L y hin (by omega) ?_
          simp (disch := omega) [hn, e1, e5, e8, e10, lx, hlt, hd, hb1, c2]
          refine newK_of fun u hu => ?_
          have hsu : Sub s.H (upd s.H u (.cells [vs8 y])) := (Sub.refl _).upd hu
          try simp (disch := omega) [hn, e1, e5, e8, e10]
          refine hrow.app (by exact hsu) (by decide) rfl (by simp) (by omega) fun g H' hg hsg => ?_
          simp (disch := omega) [hn, e1, e5, e8, e10, w]
          refine FgK.of _ hsg ⟨⟨i + 1, .sl g 0 (L.length + 1) 1 false, L ++ [y], by simp [hn], by simp [e1], by simp, by simp [e8], by simp, by omega, by rw [hF2, hm], ?_⟩, by simp [e10]; omega⟩
          have := Row.mk (cs := L.map vs8 ++ [vs8 y]) (n := L.length + 1) (sz := 1) hg
          simpa using this
  · rw [List.take_of_length_le (by omega)] at hL
    subst hL
    simp (disch := omega) [hn, e1, e5, e8, e10, lx, hlt]
    exact hk _ _ hrow
theorem c10 {H : AH} {K : AV → AH → Prop} {x y0 : AV} (a b : List ByteArray) (hx : RowR H x a) (hy : RowR H y0 b) (hl : a.length ≤ 1000) (hl2 : b.length ≤ 1000)
    (hk : ∀ o1 o2 H', Sub H H' → RowR H' o1 (mis b a) → RowR H' o2 (mis a b) → K (.tp [o1, o2]) H') : @AC Try.prog 10 [x, y0] H ⟨K⟩ := by
  refine AC_of ?_
  refine call_c follows cf10_ok (by simp) ?_
  simp
  refine c30 b a hy hx hl2 hl fun o1 H1 r1 => ?_
  simp
  refine c30 a b (hx.sub r1.sub) (hy.sub r1.sub) hl hl2 fun o2 H2 r2 => ?_
  simp
  exact hk _ _ _ (r1.sub.trans r2.sub) (.inl ((r1.rin (by simp)).sub r2.sub)) (.inl (r2.rin (by simp)))
theorem c11 {H : AH} {K : AV → AH → Prop} {x y0 : AV} (a b : List ByteArray) (hx : RowR H x a) (hy : RowR H y0 b) (hl : a.length ≤ 1000) (hl2 : b.length ≤ 1000)
    (hk : ∀ o1 o2 H', Sub H H' → RowR H' o1 (mis b a) → RowR H' o2 (mis a b) → K (.tp [o1, o2]) H') : @AC Try.prog 11 [x, y0] H ⟨K⟩ := by
  refine AC_of ?_
  refine call_c follows cf11_ok (by simp) ?_
  simp
  refine c31 b a hy hx hl2 hl fun o1 H1 r1 => ?_
  simp
  refine c31 a b (hx.sub r1.sub) (hy.sub r1.sub) hl hl2 fun o2 H2 r2 => ?_
  simp
  exact hk _ _ _ (r1.sub.trans r2.sub) (.inl ((r1.rin (by simp)).sub r2.sub)) (.inl (r2.rin (by simp)))
theorem c12 {H : AH} {K : AV → AH → Prop} {x y : AV} {a c : List ByteArray} (hx : RowR H x a) (hy : RowR H y c) (ha : a.length ≤ 1000000) (he : a = c)
    (hk : K (vb true) H) : @AC Try.prog 12 [x, y] H ⟨K⟩ := by
  subst he
  have lx := fun k => hx.lenK (k := k)
  have ly := fun k => hy.lenK (k := k)
  refine AC_of ?_
  refine call_c follows cf12_ok (by simp) ?_
  simp [lx, ly]
  refine wpc_loop (fun s => ∃ i : Nat, s.n = 26 ∧ s.H = H ∧ s.t 0 = x ∧ s.t 1 = y ∧ s.t 5 = vi i ∧ i ≤ a.length) (fun s => a.length - slotN (s.t 5)) ?_ ?_
  · exact FgK.same ⟨0, by simp, by simp, by simp, by simp, by simp, by omega⟩
  rintro s ⟨i, hn, hH, e0, e1, e5, hi⟩
  have w := IntWalk.i64_in ((i : Int) + 1) (by omega)
  by_cases hlt : i < a.length
  · have hd := nm_at hlt
    have hb1 : i + 1 ≤ a.length := by omega
    generalize a[i] = v at hd
    rcases hx.at (by omega) with ⟨q, f, rfl, hq⟩ | rfl <;> rcases hy.at (by omega) with ⟨q2, f2, rfl, hq2⟩ | rfl
    · simp (disch := omega) [hn, hH, e0, e1, e5, lx, ly, hlt, hq, hq2, hd, hb1, w]
      exact FgK.same ⟨⟨i + 1, by simp [hn], by simp [hH], by simp [e0], by simp [e1], by simp, by omega⟩, by simp [e5]; omega⟩
    · simp (disch := omega) [hn, hH, e0, e1, e5, lx, ly, hlt, hq, hd, hb1, w]
      exact FgK.same ⟨⟨i + 1, by simp [hn], by simp [hH], by simp [e0], by simp [e1], by simp, by omega⟩, by simp [e5]; omega⟩
    · simp (disch := omega) [hn, hH, e0, e1, e5, lx, ly, hlt, hq2, hd, hb1, w]
      exact FgK.same ⟨⟨i + 1, by simp [hn], by simp [hH], by simp [e0], by simp [e1], by simp, by omega⟩, by simp [e5]; omega⟩
    · simp (disch := omega) [hn, hH, e0, e1, e5, lx, ly, hlt, hd, hb1, w]
      exact FgK.same ⟨⟨i + 1, by simp [hn], by simp [hH], by simp [e0], by simp [e1], by simp, by omega⟩, by simp [e5]; omega⟩
  · simp (disch := omega) [hn, hH, e0, e1, e5, lx, ly, hlt]
    exact hk
end Go.Proofs.Ytidcajmbkbamcaa
