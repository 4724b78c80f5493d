/-
  Names that entered and left, of the program and of the reference. Conditions: as each lemma states them.
-/
import Derived.Test.YtidcajmbkbamcaaL5
namespace Go.Proofs.Ytidcajmbkbamcaa
open Go Go.Ab Go.RowKit
set_option linter.unusedSimpArgs false
set_option linter.unusedVariables false
set_option linter.unnecessarySimpa false

attribute [local simp] condK_true condK_false condK_not wpc_skip wpc_ret wpc_exit wpc_seq wpc_reg wpc_regD testA_bool wpc_cond wpc_block thenA_normal thenA_ret thenA_exit blockA_normal blockA_ret blockA_exit blockA_other endA_normal endA_ret ev_tmp' ev_const ev_func ev_global cv_int cv_bool cv_string cv_pointer cv_slice cv_agg put_some put_none wH_s setE_apply setE_env less_eq env_cons env_nil upd_upd upd_apply del_apply startA_eq cells_ag cells_sl one_sl cells_vs one_vs cells_ep one_ep cells_fn one_fn cells_int one_int cells_bool one_bool cells_string one_string cells_pointer one_pointer cells_slice one_slice cells_map one_map cells_agg resK_one resK_nil resK_two rvK_t rvK_c rvsK_nil rvsK_cons iseq_nil iseq_cons gdA_true gdA_false gdA_undef istep_free istep_guard istepV_free istepV_guard dseq_nil dseq_pu dseq_rd dseq_ef chkAll_nil chkAll_cons andK_true pickK_true pickK_false pickK_tb pickK_fb bin2K_pl eqbK_eq eqbK_ne eqpK_eq eqpK_ne un1K_pl convK_int fillK_some fillA_cons fillA_nil cellsK_some needK_true needK_ok seeK_ep seeK_ptr oneK_agg oneK_one nilcK_ptr nilcK_ep fadrK_ptr fadrK_ep fldK_ag iadAK_ptr iadAK_ep iadSK_sl iadSK_vs extK_0 extK_1 extK_2 extK_3 lenK_pl lenK_sl lenK_vs lensK_pl boxK_some minmax1K_int storeK_ptr callvK_fn callvK_pl newsK_nil newsK_vs newsK_sl appK_nil appK_nil0 appK_sl appK_vs bnd1K_int bndK_none bndK_some slsK_vs slsK_nil slsK_sl0 slsK_sl slstrK_pl boolK_some eqsK_ag iop_eqs iop_sls iop_slstr seesK_some seesK_ro mapsK_some MAP_some findK_some findK_none plK_pl nmapK_none nmapK_some iop_mlook iop_mlen iop_mmk iop_mupd iop_mdel iop_mrng itK_none itK_some ptr0K_ptr iop_mnxt iop_ment it1K_some entK_some iop_mov iop_pick iop_bin iop_eqb iop_eqp iop_un iop_conv iop_build iop_load iop_nilc iop_fadr iop_fld iop_iadA iop_iadS iop_ext iop_mkf iop_len iop_lens iop_minmax iop_al iop_box iop_bsl iop_store iop_call iop_callv iop_app BIN_add BIN_sub BIN_mul BIN_and BIN_or BIN_xor BIN_andNot BIN_eql BIN_neq BIN_lss BIN_leq BIN_gtr BIN_geq BIN_quo BIN_rem BIN_shl BIN_shr BIN_sadd BIN_seql BIN_sneq BIN_slss BIN_sleq BIN_sgtr BIN_sgeq UN_neg UN_xor UN_not MM_nil MM_cons partsA argsA ptrA lessL eqL min2I slotN_int slotP_int slotI_int

instance memB (v : ByteArray) (l : List ByteArray) : Decidable (v ∈ l) := decidable_of_iff ((l.any fun x => decide (x = v)) = true) (by simp [List.any_eq_true])
/-- A row of names that is looked at: one's own, or handed in. -/
def RowR (H : AH) (x : AV) (l : List ByteArray) : Prop := RowIn H x (l.map vs8) l.length 1 ∨ x = .vs l.length false (l.map vs8)
theorem RowR.sub {H H' : AH} {x : AV} {l : List ByteArray} (h : RowR H x l) (hs : Sub H H') : RowR H' x l := by
  rcases h with h | h
  · exact .inl (h.sub hs)
  · exact .inr h
theorem RowR.lenK {H : AH} {x : AV} {l : List ByteArray} (h : RowR H x l) {k : AV → Prop} : @lenK x ⟨k⟩ = k (vi l.length) := by
  rcases h with h | rfl
  · exact h.lenK
  · simp
theorem RowR.at {H : AH} {x : AV} {l : List ByteArray} (h : RowR H x l) (hn : 0 < l.length) : (∃ q f, x = .sl q 0 l.length 1 f ∧ H q = some (.cells (l.map vs8))) ∨ x = .vs l.length false (l.map vs8) := by
  rcases h with h | h
  · exact .inl (h.sl hn)
  · exact .inr h
theorem c67 {H : AH} {K : AV → AH → Prop} {x : AV} (l : List ByteArray) (v : ByteArray) (hx : RowR H x l) (hl : l.length ≤ 1000000)
    (hk : ∀ n : Int, (decide (0 ≤ n) = decide (v ∈ l)) → K (vi n) H) : @AC Try.prog 67 [x, vs8 v] H ⟨K⟩ := by
  refine AC_of ?_
  have lx := fun k => hx.lenK (k := k)
  refine call_c follows cf67_ok (by simp) ?_
  simp [lx]
  refine wpc_loop (fun s => ∃ (i : Nat), s.n = 19 ∧ s.t 0 = x ∧ s.t 1 = vs8 v ∧ s.t 7 = vi l.length ∧ s.t 8 = vi i ∧ i ≤ l.length ∧ v ∉ l.take i ∧ s.H = H) (fun s => l.length - slotN (s.t 8)) ?_ ?_
  · exact FgK.same ⟨0, by simp, by simp, by simp, by simp, by simp, by omega, by simp, by simp⟩
  rintro s ⟨i, hn, e0, e1, e7, e8, hi, ht, hH⟩
  have w := IntWalk.i64_in ((i : Int) + 1) (by omega)
  by_cases hlt : i < l.length
  · have hd := nm_at hlt
    have hsp := take_snoc hlt
    have hmem : l[i] ∈ l := List.getElem_mem hlt
    generalize l[i] = y at hd hsp hmem
    have hb1 : i + 1 ≤ l.length := by omega
    by_cases c1 : v = y
    · have := hk i (by rw [c1]; simp [hmem])
      rcases hx.at (by omega) with ⟨q, f, rfl, hq⟩ | rfl
      · simp (disch := omega) [hn, hH, e0, e1, e7, e8, hlt, hq, hd, hb1, bytes_beq, c1]
        exact this
      · simp (disch := omega) [hn, hH, e0, e1, e7, e8, hlt, hd, hb1, bytes_beq, c1]
        exact this
    · have ht' : v ∉ l.take (i + 1) := by
        rw [hsp]; intro h
        rcases List.mem_append.1 h with h | h
        · exact ht h
        · exact c1 (List.mem_singleton.1 h)
      rcases hx.at (by omega) with ⟨q, f, rfl, hq⟩ | rfl
      · simp (disch := omega) [hn, hH, e0, e1, e7, e8, hlt, hq, hd, hb1, bytes_beq, c1, w]
        exact FgK.same ⟨⟨i + 1, by simp [hn], by simp [e0], by simp [e1], by simp [e7], by simp, by omega, ht', by simp [hH]⟩, by simp [e8]; omega⟩
      · simp (disch := omega) [hn, hH, e0, e1, e7, e8, hlt, hd, hb1, bytes_beq, c1, w]
        exact FgK.same ⟨⟨i + 1, by simp [hn], by simp [e0], by simp [e1], by simp [e7], by simp, by omega, ht', by simp [hH]⟩, by simp [e8]; omega⟩
  · rw [List.take_of_length_le (by omega)] at ht
    have := hk (-1) (by simp [ht])
    simp (disch := omega) [hn, hH, e0, e1, e7, e8, hlt]
    exact this
theorem c51 {H : AH} {K : AV → AH → Prop} {x : AV} (l : List ByteArray) (v : ByteArray) (hx : RowR H x l) (hl : l.length ≤ 1000000)
    (hk : K (vb (decide (v ∈ l))) H) : @AC Try.prog 51 [x, vs8 v] H ⟨K⟩ := by
  refine AC_of ?_
  refine call_c follows cf51_ok (by simp) ?_
  simp
  refine c67 l v hx hl fun n hn => ?_
  rw [← hn] at hk
  simp
  exact hk
theorem c52 {H : AH} {K : AV → AH → Prop} {x : AV} (l : List ByteArray) (v : ByteArray) (hx : RowR H x l) (hl : l.length ≤ 1000000)
    (hk : K (vb (decide (v ∈ l))) H) : @AC Try.prog 52 [x, vs8 v] H ⟨K⟩ := by
  refine AC_of ?_
  have lx := fun k => hx.lenK (k := k)
  refine call_c follows cf52_ok (by simp) ?_
  simp [lx]
  refine wpc_loop (fun s => ∃ (i : Nat), s.n = 18 ∧ s.t 0 = x ∧ s.t 1 = vs8 v ∧ s.t 5 = vi i ∧ i ≤ l.length ∧ v ∉ l.take i ∧ s.H = H) (fun s => l.length - slotN (s.t 5)) ?_ ?_
  · exact FgK.same ⟨0, by simp, by simp, by simp, by simp, by omega, by simp, by simp⟩
  rintro s ⟨i, hn, e0, e1, e5, hi, ht, hH⟩
  have w := IntWalk.i64_in ((i : Int) + 1) (by omega)
  by_cases hlt : i < l.length
  · have hd := nm_at hlt
    have hsp := take_snoc hlt
    have hmem : l[i] ∈ l := List.getElem_mem hlt
    generalize l[i] = y at hd hsp hmem
    have hb1 : i + 1 ≤ l.length := by omega
    by_cases c1 : y = v
    · have hv : v ∈ l := c1 ▸ hmem
      rw [decide_eq_true hv] at hk
      rcases hx.at (by omega) with ⟨q, f, rfl, hq⟩ | rfl
      · simp (disch := omega) [hn, hH, e0, e1, e5, hlt, hq, hd, hb1, bytes_beq, c1]
        exact hk
      · simp (disch := omega) [hn, hH, e0, e1, e5, hlt, hd, hb1, bytes_beq, c1]
        exact hk
    · have ht' : v ∉ l.take (i + 1) := by
        rw [hsp]; intro h
        rcases List.mem_append.1 h with h | h
        · exact ht h
        · exact c1 (List.mem_singleton.1 h).symm
      rcases hx.at (by omega) with ⟨q, f, rfl, hq⟩ | rfl
      · simp (disch := omega) [hn, hH, e0, e1, e5, hlt, hq, hd, hb1, bytes_beq, c1, w]
        exact FgK.same ⟨⟨i + 1, by simp [hn], by simp [e0], by simp [e1], by simp, by omega, ht', by simp [hH]⟩, by simp [e5]; omega⟩
      · simp (disch := omega) [hn, hH, e0, e1, e5, hlt, hd, hb1, bytes_beq, c1, w]
        exact FgK.same ⟨⟨i + 1, by simp [hn], by simp [e0], by simp [e1], by simp, by omega, ht', by simp [hH]⟩, by simp [e5]; omega⟩
  · rw [List.take_of_length_le (by omega)] at ht
    rw [decide_eq_false ht] at hk
    simp (disch := omega) [hn, hH, e0, e1, e5, lx, hlt]
    exact hk
def misS (b : List ByteArray) (out : List ByteArray) (n : ByteArray) : List ByteArray := if n ∈ b then out else if n ∈ out then out else out ++ [n]
def mis (a b : List ByteArray) : List ByteArray := a.foldl (misS b) []
theorem mis_len (b : List ByteArray) : ∀ (a out : List ByteArray), (a.foldl (misS b) out).length ≤ out.length + a.length
  | [], out => by simp
  | n :: a, out => by
    have := mis_len b a (misS b out n)
    have h1 : (misS b out n).length ≤ out.length + 1 := by unfold misS; (repeat' split) <;> simp
    simp only [List.foldl_cons, List.length_cons]; omega
theorem c30 {H : AH} {K : AV → AH → Prop} {x y0 : AV} (a b : List ByteArray) (hx : RowR H x a) (hy : RowR H y0 b) (hl : a.length ≤ 1000) (hl2 : b.length ≤ 1000)
    (hk : ∀ out H', Row H H' out ((mis a b).map vs8) (mis a b).length 1 → K out H') : @AC Try.prog 30 [x, y0] H ⟨K⟩ := by
  refine AC_of ?_
  have lx := fun k => hx.lenK (k := k)
  refine call_c follows cf30_ok (by simp) ?_
  simp [lx]
  refine wpc_loop (fun s => ∃ (i : Nat) (out : AV) (L : List ByteArray), s.n = 30 ∧ s.t 1 = y0 ∧ s.t 5 = out ∧ s.t 8 = x ∧ s.t 9 = vi a.length ∧ s.t 10 = vi i ∧ i ≤ a.length ∧ L = mis (a.take i) b ∧ Row H s.H out (L.map vs8) L.length 1) (fun s => a.length - slotN (s.t 10)) ?_ ?_
  · exact FgK.same ⟨0, vnil, [], by simp, by simp, by simp, by simp, by simp, by simp, by omega, by simp [mis], by simp; exact Row.nil _ 1⟩
  rintro s ⟨i, out, L, hn, e1, e5, e8, e9, e10, hi, hL, hrow⟩
  have w := IntWalk.i64_in ((i : Int) + 1) (by omega)
  have hsub := hrow.sub
  have hx2 := hx.sub hsub
  have hy2 := hy.sub hsub
  have hLl : L.length ≤ i := by
    have := mis_len b (a.take i) []
    rw [hL]; unfold mis; simp at this; omega
  have hin : RowR s.H out L := .inl (hrow.rin (by simp))
  by_cases hlt : i < a.length
  · have hd := nm_at hlt
    have hsp := take_snoc hlt
    generalize a[i] = y at hd hsp
    have hb1 : i + 1 ≤ a.length := by omega
    have hF2 : mis (a.take (i + 1)) b = misS b L y := by rw [hL, hsp, mis, List.foldl_append]; rfl
    have step : ∀ (next : List ByteArray) (out' : AV) (H' H0 : AH), misS b L y = next → Row H H0 out' (next.map vs8) next.length 1 → Sub H0 H' → s.n = 30 → True := fun _ _ _ _ _ _ _ _ => trivial
    by_cases c1 : y ∈ b
    · have hm : misS b L y = L := if_pos c1
      rcases hx2.at (by omega) with ⟨q, f, rfl, hq⟩ | rfl
      · simp (disch := omega) [hn, e1, e5, e8, e9, e10, hlt, hq, hd, hb1]
        refine c51 b y hy2 (by omega) ?_
        simp (disch := omega) [hn, e1, e5, e8, e9, e10, c1, w]
        exact FgK.same ⟨⟨i + 1, out, L, by simp [hn], by simp [e1], by simp [e5], by simp [e8], by simp [e9], by simp, by omega, by rw [hF2, hm], by simpa using hrow⟩, by simp [e10]; omega⟩
      · simp (disch := omega) [hn, e1, e5, e8, e9, e10, hlt, hd, hb1]
        refine c51 b y hy2 (by omega) ?_
        simp (disch := omega) [hn, e1, e5, e8, e9, e10, c1, w]
        exact FgK.same ⟨⟨i + 1, out, L, by simp [hn], by simp [e1], by simp [e5], by simp [e8], by simp [e9], by simp, by omega, by rw [hF2, hm], by simpa using hrow⟩, by simp [e10]; omega⟩
    · by_cases c2 : y ∈ L
      · have hm : misS b L y = L := by rw [misS, if_neg c1, if_pos c2]
        rcases hx2.at (by omega) with ⟨q, f, rfl, hq⟩ | rfl
        · simp (disch := omega) [hn, e1, e5, e8, e9, e10, hlt, hq, hd, hb1]
          refine c51 b y hy2 (by omega) ?_
          simp (disch := omega) [hn, e1, e5, e8, e9, e10, c1]
          refine c51 L y hin (by omega) ?_
          simp (disch := omega) [hn, e1, e5, e8, e9, e10, c2, w]
          exact FgK.same ⟨⟨i + 1, out, L, by simp [hn], by simp [e1], by simp [e5], by simp [e8], by simp [e9], by simp, by omega, by rw [hF2, hm], by simpa using hrow⟩, by simp [e10]; omega⟩
        · simp (disch := omega) [hn, e1, e5, e8, e9, e10, hlt, hd, hb1]
          refine c51 b y hy2 (by omega) ?_
          simp (disch := omega) [hn, e1, e5, e8, e9, e10, c1]
          refine c51 L y hin (by omega) ?_
          simp (disch := omega) [hn, e1, e5, e8, e9, e10, c2, w]
          exact FgK.same ⟨⟨i + 1, out, L, by simp [hn], by simp [e1], by simp [e5], by simp [e8], by simp [e9], by simp, by omega, by rw [hF2, hm], by simpa using hrow⟩, by simp [e10]; omega⟩
      · have hm : misS b L y = L ++ [y] := by rw [misS, if_neg c1, if_neg c2]
        rcases hx2.at (by omega) with ⟨q, f, rfl, hq⟩ | rfl
        · simp (disch := omega) [hn, e1, e5, e8, e9, e10, hlt, hq, hd, hb1]
          refine c51 b y hy2 (by omega) ?_
          simp (disch := omega) [hn, e1, e5, e8, e9, e10, c1]
          refine c51 L y hin (by omega) ?_
          simp (disch := omega) [hn, e1, e5, e8, e9, e10, c2]
          refine newK_of fun u hu => ?_
          have hsu : Sub s.H (upd s.H u (.cells [vs8 y])) := (Sub.refl _).upd hu
          try simp (disch := omega) [hn, e1, e5, e8, e9, e10]
          refine hrow.app (by exact hsu) (by decide) rfl (by simp) (by omega) fun g H' hg hsg => ?_
          simp (disch := omega) [hn, e1, e5, e8, e9, e10, w]
          refine FgK.of _ hsg ⟨⟨i + 1, .sl g 0 (L.length + 1) 1 false, L ++ [y], by simp [hn], by simp [e1], by simp, by simp [e8], by simp [e9], by simp, by omega, by rw [hF2, hm], ?_⟩, by simp [e10]; omega⟩
          have := Row.mk (cs := L.map vs8 ++ [vs8 y]) (n := L.length + 1) (sz := 1) hg
          simpa using this
        · simp (disch := omega) [hn, e1, e5, e8, e9, e10, hlt, hd, hb1]
          refine c51 b y hy2 (by omega) ?_
          simp (disch := omega) [hn, e1, e5, e8, e9, e10, c1]
          refine c51 L y hin (by omega) ?_
          simp (disch := omega) [hn, e1, e5, e8, e9, e10, c2]
          refine newK_of fun u hu => ?_
          have hsu : Sub s.H (upd s.H u (.cells [vs8 y])) := (Sub.refl _).upd hu
          try simp (disch := omega) [hn, e1, e5, e8, e9, e10]
          refine hrow.app (by exact hsu) (by decide) rfl (by simp) (by omega) fun g H' hg hsg => ?_
          simp (disch := omega) [hn, e1, e5, e8, e9, e10, w]
          refine FgK.of _ hsg ⟨⟨i + 1, .sl g 0 (L.length + 1) 1 false, L ++ [y], by simp [hn], by simp [e1], by simp, by simp [e8], by simp [e9], by simp, by omega, by rw [hF2, hm], ?_⟩, by simp [e10]; omega⟩
          have := Row.mk (cs := L.map vs8 ++ [vs8 y]) (n := L.length + 1) (sz := 1) hg
          simpa using this
  · rw [List.take_of_length_le (by omega)] at hL
    subst hL
    simp (disch := omega) [hn, e1, e5, e8, e9, e10, hlt]
    exact hk _ _ hrow
end Go.Proofs.Ytidcajmbkbamcaa
