/-
  LayoutClamp: for every run and point the law returns true, and its arguments read as they did. No conditions: every input that the row admits.
-/
import Derived.Test.YtidcajmbkbamcaaL14
namespace Go.Proofs.Ytidcajmbkbamcaa
open Go Go.Ab Go.RowKit Go.ChangeShapes Go.WideShapes Go.ChangeAt
set_option linter.unusedSimpArgs false
set_option linter.unusedVariables false
set_option linter.unnecessarySimpa false

attribute [local simp] condK_true condK_false condK_not wpc_skip wpc_ret wpc_exit wpc_seq wpc_reg wpc_regD testA_bool wpc_cond wpc_block thenA_normal thenA_ret thenA_exit blockA_normal blockA_ret blockA_exit blockA_other endA_normal endA_ret ev_tmp' ev_const ev_func ev_global cv_int cv_bool cv_string cv_pointer cv_slice cv_agg put_some put_none wH_s setE_apply setE_env less_eq env_cons env_nil upd_upd upd_apply del_apply startA_eq cells_ag cells_sl one_sl cells_vs one_vs cells_ep one_ep cells_fn one_fn cells_int one_int cells_bool one_bool cells_string one_string cells_pointer one_pointer cells_slice one_slice cells_map one_map cells_agg resK_one resK_nil resK_two rvK_t rvK_c rvsK_nil rvsK_cons iseq_nil iseq_cons gdA_true gdA_false gdA_undef istep_free istep_guard istepV_free istepV_guard dseq_nil dseq_pu dseq_rd dseq_ef chkAll_nil chkAll_cons andK_true pickK_true pickK_false pickK_tb pickK_fb bin2K_pl eqbK_eq eqbK_ne eqpK_eq eqpK_ne un1K_pl convK_int fillK_some fillA_cons fillA_nil cellsK_some needK_true needK_ok seeK_ep seeK_ptr oneK_agg oneK_one nilcK_ptr nilcK_ep fadrK_ptr fadrK_ep fldK_ag iadAK_ptr iadAK_ep iadSK_sl iadSK_vs extK_0 extK_1 extK_2 extK_3 lenK_pl lenK_sl lenK_vs lensK_pl boxK_some minmax1K_int storeK_ptr callvK_fn callvK_pl newsK_nil newsK_vs newsK_sl appK_nil appK_nil0 appK_sl appK_vs bnd1K_int bndK_none bndK_some slsK_vs slsK_nil slsK_sl0 slsK_sl slstrK_pl boolK_some eqsK_ag iop_eqs iop_sls iop_slstr seesK_some seesK_ro mapsK_some MAP_some findK_some findK_none plK_pl nmapK_none nmapK_some iop_mlook iop_mlen iop_mmk iop_mupd iop_mdel iop_mrng itK_none itK_some ptr0K_ptr iop_mnxt iop_ment it1K_some entK_some iop_mov iop_pick iop_bin iop_eqb iop_eqp iop_un iop_conv iop_build iop_load iop_nilc iop_fadr iop_fld iop_iadA iop_iadS iop_ext iop_mkf iop_len iop_lens iop_minmax iop_al iop_box iop_bsl iop_store iop_call iop_callv iop_app BIN_add BIN_sub BIN_mul BIN_and BIN_or BIN_xor BIN_andNot BIN_eql BIN_neq BIN_lss BIN_leq BIN_gtr BIN_geq BIN_quo BIN_rem BIN_shl BIN_shr BIN_sadd BIN_seql BIN_sneq BIN_slss BIN_sleq BIN_sgtr BIN_sgeq UN_neg UN_xor UN_not MM_nil MM_cons partsA argsA ptrA lessL eqL min2I slotN_int slotP_int slotI_int
attribute [local simp] oc_len oc_tt oc_dd oc_one oc_ag oc_t1 oc_t2 oc_t3 oc_t4 oc_t5 oc_t6 oc_t7 oc_d1 oc_d2 oc_d3 oc_d4 oc_d5 oc_d6 oc_d7 opq_len opq_tt opq_dd opq_one opq_ag opq_t1 opq_t2 opq_t3 opq_t4 opq_t5 opq_t6 opq_t7 opq_t8 opq_d1 opq_d2 opq_d3 opq_d4 opq_d5 opq_d6 opq_d7 opq_d8 rc_len rc_t4 rc_t1 rc_t2 rc_t3 rc_d1 rc_d2 rc_d3 rc_d4 rc_ag rc_one rc_eq min2_t min2_f

structure Pn where
  x : Int
  y : Int
  deriving DecidableEq
def pnc (r : Pn) : List AV := [vi r.x, vi r.y]
theorem pnc_len (r : Pn) : (pnc r).length = 2 := rfl
theorem pnc_tt (r : Pn) : (pnc r).take 2 = pnc r := rfl
theorem pnc_dd (r : Pn) : (pnc r).drop 2 = [] := rfl
theorem pnc_one (r : Pn) : (pnc r).all AV.one = true := rfl
theorem pnc_t1 (r : Pn) : (pnc r).take 1 = [vi r.x] := rfl
theorem pnc_d1 (r : Pn) : (pnc r).tail = [vi r.y] := rfl
theorem pnc_ag (c0 : Int) (c1 : Int) : AV.ag [vi c0, vi c1] = .ag (pnc ⟨c0, c1⟩) := rfl
attribute [local simp] pnc_len pnc_tt pnc_dd pnc_one pnc_ag pnc_t1 pnc_d1
theorem ne_empty {b : ByteArray} (h : b ≠ ⟨#[]⟩) : b.toList.isEmpty = false := by
  cases e : b.toList with
  | nil => exact absurd (bytes_ext (by rw [e, ByteArray.toList_eq])) h
  | cons x l => rfl
theorem c4 (l : List Op) (a : Pn) (hx : i64r a.x) (hy : i64r a.y) : PC Try.prog 4 [.vs l.length false (flat opq l), .ag (pnc a)] (vb true) := by
  refine .tell fun H => ?_
  refine call_c follows cf4_ok (by simp) ?_
  simp
  refine newK_of fun z hz => ?_
  have hz1 : Sub H (upd H z (.cells (pnc a))) := (Sub.refl H).upd hz
  have hzz : upd H z (.cells (pnc a)) z = some (.cells (pnc a)) := by simp [upd_apply]
  generalize upd H z (.cells (pnc a)) = H0 at *
  by_cases d1 : (60 : Int) < l.length
  · simp [d1]
    refine (c9).ac ?_
    simp
    exact hz1
  simp [d1]
  refine c13 l (by omega) fun p b st cl H1 hs1 hb0 hG => ?_
  have hrl := run_len l []
  have hml : (run l).length ≤ 60 := by unfold run; simp at hrl; omega
  have hinv : Inv (run l) := inv_run l [] inv_nil
  have hz2 := hs1.at hzz
  have hS1 := hz1.trans hs1
  generalize run l = m at *
  simp [hz2]
  refine c14 a.x a.y hG (by omega) ?_
  simp
  refine c15 hG (by omega) fun o1 H2 r1 => ?_
  have hG2 := hG.sub r1.sub
  have hz3 := r1.sub.at hz2
  have hS2 := hS1.trans r1.sub
  have l1 := fun k => (r1.rin (by rw [oc_flat_len])).lenK (k := k)
  rw [souts_len] at l1
  by_cases c1 : m = []
  · subst c1
    have e1 : clF (sareas []) a.x a.y = (0, 0) := by
      have : sareas [] = [] := List.length_eq_zero_iff.1 (by rw [sareas, List.length_map, souts_len]; rfl)
      rw [this]; rfl
    have e2 : atF (souts []) a.x a.y = ⟨#[]⟩ := by
      have : souts [] = [] := List.length_eq_zero_iff.1 (by rw [souts_len]; rfl)
      rw [this]; rfl
    simp [l1, e1, hz3]
    refine c16 a.x a.y hG2 (by omega) ?_
    rw [e2]
    simp
    refine (c9).ac ?_
    simp
    exact hS2
  have c2 : ¬ (m.length : Int) = 0 := by
    intro e
    exact c1 (List.length_eq_zero_iff.1 (by omega))
  obtain ⟨hok, hin⟩ := clF_in hinv c1 a.x a.y
  have hself := fun h => clF_self hinv hx hy h
  have hat := @atF_some m hinv a.x a.y
  have hat2 := (@atF_some m hinv (clF (sareas m) a.x a.y).1 (clF (sareas m) a.x a.y).2).2 hin
  have hself2 := clF_self hinv (okQ_r hok).1 (okQ_r hok).2 hin
  generalize clF (sareas m) a.x a.y = q at *
  obtain ⟨qx, qy⟩ := q
  simp only at hat2 hself2 hself
  have hcl : m.length ≠ 0 := by omega
  simp [l1, c2, hcl, c1, hz3]
  refine c16 a.x a.y hG2 (by omega) ?_
  have fin : ∀ H', Sub H H' → LS H' p b m st cl → True := fun _ _ _ => trivial
  by_cases c3 : atF (souts m) a.x a.y = ⟨#[]⟩
  · simp [c3]
    refine c14 qx qy hG2 (by omega) ?_
    rw [hself2]
    simp
    refine c16 qx qy hG2 (by omega) ?_
    simp [bytes_beq, hat2, ne_empty hat2]
    refine (c9).ac ?_
    simp
    exact hS2
  · have e3 := hself (hat.1 c3)
    injection e3 with e4 e5
    subst e4 e5
    simp [bytes_beq, c3, ne_empty c3, hz3]
    refine c14 _ _ hG2 (by omega) ?_
    rw [hself2]
    simp
    refine c16 _ _ hG2 (by omega) ?_
    simp [bytes_beq, hat2, ne_empty hat2]
    refine (c9).ac ?_
    simp
    exact hS2
theorem i64r_of {n : Int} (h : (Lit.int .i64 n).wf = true) : i64r n := by
  simp [Lit.wf, IntKind.min, IntKind.max, IntKind.bits, IntKind.signed] at h
  unfold i64r; omega
abbrev pnL : List Lf := [.i .i64, .i .i64]
theorem fitPn {a : AV} (h : FitT true pnL a) : ∃ o : Pn, a = .ag (pnc o) ∧ i64r o.x ∧ i64r o.y := by
  obtain ⟨cs, rfl, h⟩ := h
  obtain ⟨_, _, rfl, h1, h⟩ := h.cons_inv
  obtain ⟨_, _, rfl, h2, h⟩ := h.cons_inv
  obtain rfl := h.nil_inv
  obtain ⟨_, rfl, g1⟩ := h1.i_inv
  obtain ⟨_, rfl, g2⟩ := h2.i_inv
  exact ⟨⟨_, _⟩, rfl, i64r_of g1, i64r_of g2⟩
theorem law_LayoutClamp (xs : List AV) (hf : FitsT [(false, [.sl opqL]), (true, pnL)] xs) : ACall Try.prog 4 xs (fun _ => none) (fun v _ => v = vb true) := by
  match xs, hf with
  | [a, b], ⟨h1, h2, _⟩ =>
    obtain ⟨l, rfl⟩ := fitOps h1
    obtain ⟨o, rfl, g1, g2⟩ := fitPn h2
    exact (c4 l o g1 g2).same rfl
set_option maxRecDepth 100000

theorem layoutClamp_lifted (os : Os) (started : os.Started) (H : Type) (enc : TypeId × Value → H) :
    ReturnsInHanded {} Try.checked os 4 .any (Rows.layoutClampSpec.pre6 enc Try.prog Try.f4 Rows.layoutClampRow.domain false) (Rows.layoutClampSpec.post enc Try.prog Try.f4 false true false false) := by
  refine returnsInHanded_of_change_sized (C := Try.checked) own started (by kernel_rfl) Try.func4
    (ChangeSpec.witness6 (enc := enc) (C := Try.checked) false ⟨#[], #[.slice none 0 0, .agg #[.int .i64 0, .int .i64 0]], []⟩ 8 (by kernel_rfl) (by kernel_rfl) (by kernel_rfl) (by kernel_rfl)) ?_
  intro W base args ds gs before hval hW _ _ _
  refine law_contract (L := [(false, [.sl opqL]), (true, pnL)]) laidOut (by kernel_rfl) rfl (fun ds hd => ?_) ⟨_, rfl, by kernel_rfl⟩ ?_ (fun xs hf => law_LayoutClamp xs hf) W base args ds gs before hval hW
  · match ds, hd with
    | [d0, d1], _ => exact ⟨rfl, rfl, rfl⟩
  · exact of_decide_eq_true (by kernel_rfl)

theorem layoutClamp_holds : Rows.LayoutClampSaid :=
  OpenClaim.holds_of_wide 4 Try.f4 rfl rfl rfl rfl rfl rfl rfl ⟨rfl, rfl, rfl, rfl, rfl⟩ rfl rfl rfl rfl rfl (by kernel_rfl) Try.func4 (by kernel_rfl)
    (of_decide_eq_true (by kernel_rfl)) (by unfold Func.isWrapper; first | (rw [if_pos (by decide +kernel)]; kernel_rfl) | (rw [if_neg (by decide +kernel)]; exact ⟨rfl, rfl⟩))
    (fun os started H enc _ => layoutClamp_lifted os started H enc)
end Go.Proofs.Ytidcajmbkbamcaa
