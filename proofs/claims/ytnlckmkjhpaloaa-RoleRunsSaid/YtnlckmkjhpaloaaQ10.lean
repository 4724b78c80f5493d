/-
  RoleLists: for every run the law returns true, and its arguments read as they did. No conditions: every input that the row admits.
-/
import Derived.Test.YtnlckmkjhpaloaaQ9
namespace Go.Proofs.Ytnlckmkjhpaloaa
open Go Go.Ab Go.RowKit Go.ChangeShapes Go.WideShapes Go.ChangeAt
set_option linter.unusedSimpArgs false
set_option linter.unusedVariables false
set_option linter.unnecessarySimpa false

attribute [local simp] condK_true condK_false condK_not wpc_skip wpc_ret wpc_exit wpc_seq wpc_reg wpc_regD testA_bool wpc_cond wpc_block thenA_normal thenA_ret thenA_exit blockA_normal blockA_ret blockA_exit blockA_other endA_normal endA_ret ev_tmp' ev_const ev_func ev_global cv_int cv_bool cv_string cv_pointer cv_slice cv_agg put_some put_none wH_s setE_apply setE_env less_eq env_cons env_nil upd_upd upd_apply del_apply startA_eq cells_ag cells_sl one_sl cells_vs one_vs cells_ep one_ep cells_fn one_fn cells_int one_int cells_bool one_bool cells_string one_string cells_pointer one_pointer cells_slice one_slice cells_map one_map cells_agg resK_one resK_nil resK_two rvK_t rvK_c rvsK_nil rvsK_cons iseq_nil iseq_cons gdA_true gdA_false gdA_undef istep_free istep_guard istepV_free istepV_guard dseq_nil dseq_pu dseq_rd dseq_ef chkAll_nil chkAll_cons andK_true pickK_true pickK_false pickK_tb pickK_fb bin2K_pl eqbK_eq eqbK_ne eqpK_eq eqpK_ne un1K_pl convK_int fillK_some fillA_cons fillA_nil cellsK_some needK_true needK_ok seeK_ep seeK_ptr oneK_agg oneK_one nilcK_ptr nilcK_ep fadrK_ptr fadrK_ep fldK_ag iadAK_ptr iadAK_ep iadSK_sl iadSK_vs extK_0 extK_1 extK_2 extK_3 lenK_pl lenK_sl lenK_vs lensK_pl boxK_some minmax1K_int storeK_ptr callvK_fn callvK_pl newsK_nil newsK_vs newsK_sl appK_nil appK_nil0 appK_sl appK_vs bnd1K_int bndK_none bndK_some slsK_vs slsK_nil slsK_sl0 slsK_sl slstrK_pl boolK_some eqsK_ag iop_eqs iop_sls iop_slstr seesK_some seesK_ro mapsK_some MAP_some findK_some findK_none plK_pl nmapK_none nmapK_some iop_mlook iop_mlen iop_mmk iop_mupd iop_mdel iop_mrng itK_none itK_some ptr0K_ptr iop_mnxt iop_ment it1K_some entK_some iop_mov iop_pick iop_bin iop_eqb iop_eqp iop_un iop_conv iop_build iop_load iop_nilc iop_fadr iop_fld iop_iadA iop_iadS iop_ext iop_mkf iop_len iop_lens iop_minmax iop_al iop_box iop_bsl iop_store iop_call iop_callv iop_app BIN_add BIN_sub BIN_mul BIN_and BIN_or BIN_xor BIN_andNot BIN_eql BIN_neq BIN_lss BIN_leq BIN_gtr BIN_geq BIN_quo BIN_rem BIN_shl BIN_shr BIN_sadd BIN_seql BIN_sneq BIN_slss BIN_sleq BIN_sgtr BIN_sgeq UN_neg UN_xor UN_not MM_nil MM_cons partsA argsA ptrA lessL eqL min2I slotN_int slotP_int slotI_int
attribute [local simp] ent_len ent_tt ent_dd ent_one ent_ag ent_t1 ent_d1 opc_len opc_tt opc_dd opc_one opc_ag opc_t1 opc_t2 opc_d1 opc_d2 ent_eq upm_upm

theorem op_in {g : Int → Ent} {x : Op} (h : ∀ t, g t ≠ e0 → 1 ≤ t ∧ t ≤ 20) (hx : x.s ≤ 20) (t : Int) (ht : opG g x t ≠ e0) : 1 ≤ t ∧ t ≤ 20 := by
  by_cases e : x.s = t
  · subst e
    unfold opG at ht
    split at ht
    · unfold asgG at ht
      split at ht
      · rename_i c
        unfold asgE at c
        split at c
        · cases c
        · rename_i c2; omega
      · exact h _ ht
    · split at ht
      · unfold relG at ht
        split at ht
        · rename_i c
          exact h _ fun e => by rw [e] at c; cases c
        · exact h _ ht
      · unfold dstG at ht
        split at ht
        · simp [gset] at ht
        · exact h _ ht
  · rw [op_other e] at ht; exact h _ ht
/-- The surfaces below s with a role. -/
def Upto (g : Int → Ent) (n s : Int) (l : List Int) : Prop := l.Pairwise (· < ·) ∧ ∀ t, t ∈ l ↔ (1 ≤ t ∧ t < s ∧ g t = ⟨n, true⟩)
theorem Upto.yes {g : Int → Ent} {n s : Int} {l : List Int} (h : Upto g n s l) (h1 : 1 ≤ s) (h2 : g s = ⟨n, true⟩) : Upto g n (s + 1) (l ++ [s]) := by
  refine ⟨List.pairwise_append.2 ⟨h.1, by simp, fun a ha b hb => ?_⟩, fun t => ?_⟩
  · have := ((h.2 a).1 ha).2.1
    simp at hb; omega
  · rw [List.mem_append, h.2]
    constructor
    · rintro (⟨a, b, c⟩ | e)
      · exact ⟨a, by omega, c⟩
      · obtain rfl : t = s := by simpa using e
        exact ⟨h1, by omega, h2⟩
    · rintro ⟨a, b, c⟩
      by_cases e : t = s
      · exact .inr (by simp [e])
      · exact .inl ⟨a, by omega, c⟩
theorem Upto.no {g : Int → Ent} {n s : Int} {l : List Int} (h : Upto g n s l) (h2 : g s ≠ ⟨n, true⟩) : Upto g n (s + 1) l := by
  refine ⟨h.1, fun t => ?_⟩
  rw [h.2]
  constructor
  · rintro ⟨a, b, c⟩; exact ⟨a, by omega, c⟩
  · rintro ⟨a, b, c⟩
    refine ⟨a, ?_, c⟩
    have : t ≠ s := fun e => h2 (e ▸ c)
    omega
theorem Upto.of {g : Int → Ent} {n : Int} {l : List Int} (h : Upto g n 21 l) (hn : isR n = true) (hg : ∀ t, g t ≠ e0 → 1 ≤ t ∧ t ≤ 20) : OfL g n l := by
  refine ⟨h.1, fun t => ?_⟩
  rw [h.2]
  constructor
  · rintro ⟨_, _, c⟩; exact ⟨hn, c⟩
  · rintro ⟨_, c⟩
    have := hg t fun e => by rw [e] at c; cases c
    exact ⟨this.1, by omega, c⟩
theorem not_isR {g : Int → Ent} {n : Int} {l : List Int} (h : OfL g n l) (hn : isR n = false) : l = [] := by
  cases l with
  | nil => rfl
  | cons x t => have := ((h.2 x).1 (by simp)).1; rw [hn] at this; cases this
theorem c6 (l : List Op) (ot : Int) : PC Try.prog 6 [.vs l.length false (flat opc l), vi ot] (vb true) := by
  refine .tell fun H => ?_
  refine call_c follows cf6_ok (by simp) ?_
  by_cases d1 : (60 : Int) < l.length
  · repeat' (first | simp [*] | with_reducible (refine (c9 ..).ac ?_))
    exact Sub.refl _
  simp [d1]
  refine c10 fun p b hp hb hg => ?_
  have hS : Sub H (upd (upd H b (.map [] [] 0)) p (.cells [vb true, .pl (.map (some b))])) := ((Sub.refl H).upd hb).upd hp
  generalize upd (upd H b (.map [] [] 0)) p (.cells [vb true, .pl (.map (some b))]) = H1 at hg hS ⊢
  simp
  refine wpc_loop (fun s => ∃ (i : Nat) (m : Es) (st : List Nat) (cl : Nat) (g : Int → Ent), s.n = 79 ∧ s.H = upm H1 b m st cl ∧ s.t 0 = .vs l.length false (flat opc l) ∧ s.t 1 = vi ot ∧ s.t 5 = pA p ∧ s.t 6 = vi i ∧
      RG (upm H1 b m st cl) p b g m st cl ∧ i ≤ l.length ∧ m.length ≤ i ∧ (∀ t, g t ≠ e0 → 1 ≤ t ∧ t ≤ 20)) (fun s => l.length - slotN (s.t 6)) ?_ ?_
  · refine FgK.same ⟨0, [], [], 0, fun _ => e0, by simp, ?_, by simp, by simp, by simp, by simp, ?_, by omega, by simp, fun _ h => absurd rfl h⟩
    · exact hg.self.symm
    · rw [hg.self]; exact hg
  rintro s ⟨i, m, st, cl, g, hn, hH, e0', e1, e5, e6, hG, hi, hml, k1⟩
  have w := IntWalk.i64_in ((i : Int) + 1) (by omega)
  by_cases hlt : i < l.length
  · obtain ⟨rest, hd⟩ := op_at hlt
    generalize l[i] = x at hd
    obtain ⟨xk, xs, xr⟩ := x
    simp only at hd
    by_cases b1 : xs ≤ 20
    · simp (disch := omega) [hn, hH, e0', e1, e5, e6, hlt, hd, b1]
      refine c13 _ hG fun m1 s1 c1 l1 g1 => ?_
      rw [upm_upm] at g1
      have q := op_in (x := ⟨xk, xs, xr⟩) k1 b1
      simp (disch := omega) [hn, hH, e0', e1, e5, e6, w]
      exact FgK.same ⟨⟨i + 1, m1, s1, c1, _, by simp [hn], by simp [hH], by simp [*], by simp [*], by simp [*], by simp [*], g1, by omega, by omega, q⟩, by simp [*]; omega⟩
    · simp (disch := omega) [hn, hH, e0', e1, e5, e6, hlt, hd, b1, w]
      exact FgK.same ⟨⟨i + 1, m, st, cl, g, by simp [hn], by simp [hH], by simp [*], by simp [*], by simp [*], by simp [*], hG, by omega, by omega, k1⟩, by simp [*]; omega⟩
  · have hSS : Sub H (upm H1 b m st cl) := hS.upd hb
    have hm6 : m.length ≤ 60 := by omega
    generalize upm H1 b m st cl = H2 at hG hH hSS
    simp (disch := omega) [hn, hH, e0', e1, e5, e6, hlt]
    clear hn hH e0' e1 e5 e6 w hlt hi d1
    refine wpc_loop (fun s => ∃ (n : Nat), s.n = 79 ∧ s.H = H2 ∧ s.t 1 = vi ot ∧ s.t 5 = pA p ∧ s.t 7 = vi n ∧ 1 ≤ n ∧ n ≤ 6) (fun s => 6 - slotN (s.t 7)) ?_ ?_
    · exact FgK.same ⟨1, by simp [*], by simp [*], by simp [*], by simp [*], by simp, by omega, by omega⟩
    rintro s ⟨n, hn, hH, e1, e5, e7, hn1, hn2⟩
    have w := IntWalk.i64_in ((n : Int) + 1) (by omega)
    by_cases b2 : (n : Int) ≤ 5
    · have hR : isR n = true := by simp [isR]; omega
      simp (disch := omega) [hn, hH, e1, e5, e7, b2]
      refine wpc_loop (fun s => ∃ (k : Nat) (out : AV) (L : List Int) (Hs : AH), s.n = 79 ∧ s.H = Hs ∧ s.t 1 = vi ot ∧ s.t 5 = pA p ∧ s.t 7 = vi n ∧ s.t 8 = out ∧ s.t 9 = vi k ∧ Row H2 Hs out (L.map vi) L.length 1 ∧ 1 ≤ k ∧ k ≤ 21 ∧ L.length ≤ k ∧ Upto g n k L) (fun s => 21 - slotN (s.t 9)) ?_ ?_
      · exact FgK.same ⟨1, vnil, [], _, by simp [*], rfl, by simp [*], by simp [*], by simp [*], by simp, by simp, by simpa [*] using Row.nil H2 1, by omega, by omega, by simp, .nil, fun t => by simp; omega⟩
      rintro s' ⟨k, out, L, Hs, hn', hH', e1', e5', e7', e8', e9', hrow, hk1, hk2, hL, hU⟩
      have hG' := hG.sub hrow.sub
      have w' := IntWalk.i64_in ((k : Int) + 1) (by omega)
      by_cases b3 : (k : Int) ≤ 20
      · simp (disch := omega) [hn', hH', e1', e5', e7', e8', e9', b3]
        refine c14 _ hG' ?_
        by_cases b4 : (g k).r = n
        · simp (disch := omega) [b4, hn', hH', e1', e5', e7', e8', e9']
          refine c16 _ hG' ?_
          cases b5 : (g k).a with
          | true =>
            have q : g k = ⟨n, true⟩ := by rw [← b4, ← b5]
            have hU' := hU.yes (by omega) q
            simp (disch := omega) [b5, hn', hH', e1', e5', e7', e8', e9']
            refine newK_of fun y hy => ?_
            have nz := free_ne hy
            have hsy : Sub Hs (upd Hs y (.cells [vi k])) := (Sub.refl _).upd hy
            simp (disch := omega) [hn', hH', e1', e5', e7', e8', e9']
            refine hrow.app (by exact hsy) (by decide) rfl (by simp) (by omega) fun q H' hq hsq => ?_
            simp (disch := omega) [hn', hH', e1', e5', e7', e8', e9', w']
            refine FgK.of _ hsq ⟨⟨k + 1, .sl q 0 (L.length + 1) 1 false, L ++ [(k : Int)], _, by simp [*], rfl, by simp [*], by simp [*], by simp [*], by simp [*], by simp [*], ?_, by omega, by omega, by simp; omega, by simpa using hU'⟩, by simp [*]; omega⟩
            have := Row.mk (cs := L.map vi ++ [vi (k : Int)]) (n := L.length + 1) (sz := 1) hq
            simpa using this
          | false =>
            have hU' := hU.no (fun e => by rw [e] at b5; cases b5)
            simp (disch := omega) [b5, hn', hH', e1', e5', e7', e8', e9', w']
            exact FgK.same ⟨⟨k + 1, out, L, _, by simp [*], rfl, by simp [*], by simp [*], by simp [*], by simp [*], by simp [*], by simpa [*] using hrow, by omega, by omega, by omega, by simpa using hU'⟩, by simp [*]; omega⟩
        · have hU' := hU.no (fun e => b4 (by rw [e]))
          simp (disch := omega) [b4, hn', hH', e1', e5', e7', e8', e9', w']
          exact FgK.same ⟨⟨k + 1, out, L, _, by simp [*], rfl, by simp [*], by simp [*], by simp [*], by simp [*], by simp [*], by simpa [*] using hrow, by omega, by omega, by omega, by simpa using hU'⟩, by simp [*]; omega⟩
      · obtain rfl : k = 21 := by omega
        have hO := hU.of hR k1
        simp (disch := omega) [hn', hH', e1', e5', e7', e8', e9', b3]
        refine c19 _ hG' (by omega) fun o2 H3 lo r3 of3 => ?_
        simp (disch := omega) [hn', hH', e1', e5', e7', e8', e9']
        have hle := of3.eq hO
        refine c18 (r3.rin (by simp)) ((hrow.rin (by simp)).sub r3.sub) (by rw [hle]; omega) ?_
        simp (disch := omega) [hle, hn', hH', e1', e5', e7', e8', e9', w]
        refine FgK.of _ (hrow.sub.trans r3.sub) ⟨⟨n + 1, by simp [*], by simp [*], by simp [*], by simp [*], by simp [*], by omega, by omega⟩, by simp [*]; omega⟩
    · by_cases c1 : (1 : Int) ≤ ot
      · by_cases c2 : ot ≤ 5
        · simp (disch := omega) [hn, hH, e1, e5, e7, b2, c1, c2]
          refine (c9).ac ?_
          simp
          exact hSS
        · have c3 : isR ot = false := by simp [isR]; omega
          simp (disch := omega) [hn, hH, e1, e5, e7, b2, c1, c2]
          refine c19 _ hG (by omega) fun o2 H3 lo r3 of3 => ?_
          obtain rfl := not_isR of3 c3
          have hln := fun k => (r3.rin (by simp)).lenK (k := k)
          simp (disch := omega) [hn, hH, e1, e5, e7, hln]
          refine (c9).ac ?_
          simp
          exact hSS.trans r3.sub
      · have c3 : isR ot = false := by simp [isR]; omega
        simp (disch := omega) [hn, hH, e1, e5, e7, b2, c1]
        refine c19 _ hG (by omega) fun o2 H3 lo r3 of3 => ?_
        obtain rfl := not_isR of3 c3
        have hln := fun k => (r3.rin (by simp)).lenK (k := k)
        simp (disch := omega) [hn, hH, e1, e5, e7, hln]
        refine (c9).ac ?_
        simp
        exact hSS.trans r3.sub
theorem law_RoleLists (xs : List AV) (hf : FitsT [(false, [.sl opL]), (false, [.i .i64])] xs) : ACall Try.prog 6 xs (fun _ => none) (fun v _ => v = vb true) := by
  match xs, hf with
  | [a, b], ⟨h1, h2, _⟩ =>
    obtain ⟨l, rfl, _⟩ := fitOps h1
    obtain ⟨x, rfl⟩ := fitInt h2
    exact (c6 l x).same rfl

theorem roleLists_lifted (os : Os) (started : os.Started) (H : Type) (enc : TypeId × Value → H) :
    ReturnsInHanded {} Try.checked os 6 .any (Rows.roleListsSpec.pre6 enc Try.prog Try.f6 Rows.roleListsRow.domain false) (Rows.roleListsSpec.post enc Try.prog Try.f6 false true false false) := by
  refine returnsInHanded_of_change_sized (C := Try.checked) own started (by kernel_rfl) Try.func6
    (ChangeSpec.witness6 (enc := enc) (C := Try.checked) false ⟨#[], #[.slice none 0 0, .int .i64 0], []⟩ 8 (by kernel_rfl) (by kernel_rfl) (by kernel_rfl) (by kernel_rfl)) ?_
  intro W base args ds gs before hval hW _ _ _
  refine law_contract (L := [(false, [.sl opL]), (false, [.i .i64])]) laidOut (by kernel_rfl) rfl (fun ds hd => ?_) ⟨_, rfl, by kernel_rfl⟩ ?_ (fun xs hf => law_RoleLists xs hf) W base args ds gs before hval hW
  · match ds, hd with
    | [d0, d1], _ => exact ⟨rfl, rfl, rfl⟩
  · exact of_decide_eq_true (by kernel_rfl)

theorem roleLists_holds : Rows.RoleListsSaid :=
  OpenClaim.holds_of_wide 6 Try.f6 rfl rfl rfl rfl rfl rfl rfl ⟨rfl, rfl, rfl, rfl, rfl⟩ rfl rfl rfl rfl rfl (by kernel_rfl) Try.func6 (by kernel_rfl)
    (of_decide_eq_true (by kernel_rfl)) (by unfold Func.isWrapper; first | (rw [if_pos (by decide +kernel)]; kernel_rfl) | (rw [if_neg (by decide +kernel)]; exact ⟨rfl, rfl⟩))
    (fun os started H enc _ => roleLists_lifted os started H enc)
end Go.Proofs.Ytnlckmkjhpaloaa
