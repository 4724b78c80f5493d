/-
  Several texts in one: C21; C23. Conditions: as each lemma states them.
-/
import Derived.Test.YtkjkolacnpknoaaMD
import Derived.Test.YtkjkolacnpknoaaXRow
import Derived.Test.YtkjkolacnpknoaaRows
import Derived.WalkKit
import Derived.ProofKit
/-! CodecRunsRoundTrip, walked. Conditions: as each lemma states them. -/
section
namespace Go.Proofs.Ytkjkolacnpknoaa
open Go Go.Ab Go.RowKit
set_option linter.unusedSimpArgs false
set_option linter.unusedVariables false
set_option linter.unnecessarySimpa false

attribute [local simp] condK_true condK_false condK_not wpc_skip wpc_ret wpc_exit wpc_seq wpc_reg wpc_regD testA_bool wpc_cond wpc_block thenA_normal thenA_ret thenA_exit blockA_normal blockA_ret blockA_exit blockA_other endA_normal endA_ret ev_tmp' ev_const ev_func ev_global cv_int cv_bool cv_string cv_pointer cv_slice cv_agg cv_map put_some put_none wH_s setE_apply setE_env less_eq env_cons env_nil upd_upd upd_apply del_apply startA_eq cells_ag cells_sl one_sl cells_vs one_vs cells_ep one_ep cells_fn one_fn cells_int one_int cells_bool one_bool cells_string one_string cells_pointer one_pointer cells_slice one_slice cells_map one_map cells_agg resK_one resK_nil resK_two rvK_t rvK_c rvsK_nil rvsK_cons iseq_nil iseq_cons gdA_true gdA_false gdA_undef istep_free istep_guard istepV_free istepV_guard dseq_nil dseq_pu dseq_rd dseq_ef wpc_regT dtree_nil dtree_pu dtree_rd dtree_ef dtree_br chkAll_nil chkAll_cons andK_true pickK_true pickK_false pickK_tb pickK_fb bin2K_pl eqbK_eq eqbK_ne eqpK_eq eqpK_ne eqmK_eq eqmK_ne eqzK_eq eqzK_ne eqzK_sl eqzK_vs un1K_pl convK_int fillK_some fillA_cons fillA_nil cellsK_some needK_true needK_ok seeK_ep seeK_ptr oneK_agg oneK_one nilcK_ptr nilcK_ep fadrK_ptr fadrK_ep fldK_ag iadAK_ptr iadAK_ep iadSK_sl iadSK_vs extK_0 extK_1 extK_2 extK_3 lenK_pl lenK_sl lenK_vs lensK_pl boxK_some minmax1K_int storeK_ptr callvK_fn callvK_pl newsK_nil newsK_vs newsK_sl appK_nil appK_nil0 appK_sl appK_vs bnd1K_int bndK_none bndK_some slsK_vs slsK_nil slsK_sl0 slsK_sl slstrK_pl boolK_some eqsK_ag iop_eqs iop_sls iop_slstr seesK_some seesK_ro mapsK_some MAP_some findK_some findK_none plK_pl nmapK_none nmapK_some iop_mlook iop_mlen iop_mmk iop_mupd iop_mdel iop_mrng itK_none itK_some ptr0K_ptr iop_mnxt iop_ment it1K_some entK_some iop_mov iop_pick iop_bin iop_eqb iop_eqp iop_eqm iop_eqz iop_un capK_pl capK_sl capK_vs iop_cap iop_b2s b2sK_nil b2sK_sl b2sK_vs strK_some iop_idxv idxvK_ag atK_some apzK_nil iop_apz mksK_int iop_mks clrK_sl clrK_vs clrK_nil iop_clr iop_conv iop_build iop_load iop_nilc iop_fadr iop_fld iop_iadA iop_iadS iop_ext iop_mkf iop_len iop_lens iop_minmax iop_al iop_box iop_bsl iop_store iop_call iop_callv iop_app BIN_add BIN_sub BIN_mul BIN_and BIN_or BIN_xor BIN_andNot BIN_eql BIN_neq BIN_lss BIN_leq BIN_gtr BIN_geq BIN_quo BIN_rem BIN_shl BIN_shr BIN_sadd BIN_seql BIN_sneq BIN_slss BIN_sleq BIN_sgtr BIN_sgeq UN_neg UN_xor UN_not MM_nil MM_cons partsA argsA ptrA lessL eqL min2I slotN_int slotP_int slotI_int
attribute [local simp] rc_len rc_t4 rc_t1 rc_t2 rc_t3 rc_d1 rc_d2 rc_d3 rc_d4 rc_ag rc_one rc_eq

theorem unr_cut1 (most : Int) : ∀ (rs : List (Nat × Int)) (last size : Int) (out : List Int), ROk last size rs → rs ≠ [] → (out.length : Int) + (expR rs).length ≤ most → unrF most ((encR rs).take ((encR rs).length - 1)) last size out = ([], 4)
  | [], _, _, _, _, h, _ => absurd rfl h
  | [(n, v)], last, size, out, h, _, hm => unr_short (by simp [encR, b4]) (by simp [encR, b4])
  | (n, v) :: q :: r, last, size, out, h, _, hm => by
    obtain ⟨h1, h2, h3, h4, h5⟩ := h
    have hv := val_b4 h3
    rw [expR_cons] at hm
    simp only [List.length_append, List.length_replicate] at hm
    have ih := unr_cut1 most (q :: r) v n (out ++ List.replicate (n : Int).toNat v) h5 (by simp) (by simp; simp at hm; omega)
    have e : encR ((n, v) :: q :: r) = (n : Int) :: (v % 256) :: (v / 256 % 256) :: (v / 65536 % 256) :: (v / 16777216 % 256) :: encR (q :: r) := rfl
    have hl : (encR (q :: r)).length = 5 * (r.length + 1) := by rw [encR_len, List.length_cons]
    have hlen : (encR ((n, v) :: q :: r)).length - 1 = ((encR (q :: r)).length - 1) + 5 := by rw [e]; simp only [List.length_cons]; omega
    rw [hlen, e]
    simp only [List.take_succ_cons]
    rw [unr_step (by omega) (by rw [hv]; exact h4) (by omega), hv]
    exact ih
theorem runs_ne {l : List Int} (h : l ≠ []) : runsF l ≠ [] := by
  cases l with
  | nil => exact absurd rfl h
  | cons x l => unfold runsF; simp
set_option maxHeartbeats 1000000 in
theorem c4 {H : AH} {K : AV → AH → Prop} {a b : AV} {l bs : List Int} (ha : Rw H a (l.map v32) l.length 1) (hb : Rw H b (bs.map v8) bs.length 1) (h32 : ∀ x ∈ l, U32 x) (h8 : ∀ x ∈ bs, U8 x) (hk : K (vb true) H) :
    @AC Try.prog 4 [a, b] H ⟨K⟩ := by
  have la := fun k => Rw.lenK ha (k := k)
  have lb := fun k => Rw.lenK hb (k := k)
  have ca := Rw.cells ha
  have cb := Rw.cells hb
  refine AC_of (.forget ?_)
  refine call_c follows cf4_ok (by simp) ?_
  by_cases h1 : 2000 < l.length
  · have h1' : (2000 : Int) < l.length := by omega
    simp [la, h1, h1']
    refine c8 ?_
    simp
    exact ⟨H, Sub.refl _, hk⟩
  by_cases h2 : 4000 < bs.length
  · have h2' : (4000 : Int) < bs.length := by omega
    have h1' : ¬ (2000 : Int) < l.length := by omega
    simp [la, lb, h1, h1', h2, h2']
    refine c8 ?_
    simp
    exact ⟨H, Sub.refl _, hk⟩
  have h1' : ¬ (2000 : Int) < l.length := by omega
  have h2' : ¬ (4000 : Int) < bs.length := by omega
  have hrl := runs_len l
  have hel := encR_len (runsF l)
  have hx8 := encR_u8 _ _ _ (runs0 h32)
  have hU1 := unr_runs h32 (most := l.length) (by omega)
  simp [la, lb, h1, h1', h2, h2', ca]
  refine c11 ha (by omega) fun x H1 hx => ?_
  have hxr : Rw H1 x ((encR (runsF l)).map v8) (encR (runsF l)).length 1 := (hx.rin (by simp)).rd
  have cx := Rw.cells hxr
  have lx := fun k => Rw.lenK hxr (k := k)
  have hs1 := hx.sub
  simp [cx, la]
  refine c9 hxr (by omega) hx8 (by omega) (by omega) fun y H2 hy => ?_
  rw [hU1] at hy ⊢
  simp only at hy ⊢
  have hyr : Rw H2 y (l.map v32) l.length 1 := (hy.rin (by simp)).rd
  have cy := Rw.cells hyr
  have hs2 := hs1.trans hy.sub
  simp [cy]
  refine c13 hyr (ha.sub hs2) (by omega) ?_
  have hmod : Int.tmod ((encR (runsF l)).length : Int) 5 = 0 := by
    rw [hel]
    rw [Int.tmod_eq_emod_of_nonneg (by omega)]
    omega
  simp [lx, hmod]
  have goal2 : ∀ (H3 : AH), Sub H H3 → True := fun _ _ => trivial
  by_cases h0 : l = []
  case' pos =>
    have h0' : l.length = 0 := by rw [h0]; rfl
    have hsF := hs2
    simp [la, h0', h0]
  case' neg =>
    have hpos : 0 < l.length := by
      cases l with
      | nil => exact absurd rfl h0
      | cons x l => simp
    have hU2 : unrF ((l.length : Int) - 1) (encR (runsF l)) 0 255 [] = ([], 5) := by
      have := unr_many ((l.length : Int) - 1) (runsF l) 0 255 [] [] (runs0 h32) (by simp; omega) (by rw [exp_runs]; simp; omega)
      rw [List.append_nil] at this
      exact this
    have hU3 : unrF (l.length : Int) ((encR (runsF l)).take ((encR (runsF l)).length - 1)) 0 255 [] = ([], 4) := unr_cut1 _ (runsF l) 0 255 [] (runs0 h32) (runs_ne h0) (by rw [exp_runs]; simp)
    have wl := IntWalk.i64_in ((l.length : Int) - 1) (by omega)
    have hen : 0 < (encR (runsF l)).length := by
      rw [hel]
      have : (runsF l).length ≠ 0 := fun h => runs_ne h0 (List.length_eq_zero_iff.1 h)
      omega
    have wx := IntWalk.i64_in (((encR (runsF l)).length : Int) - 1) (by omega)
    simp [la, hpos, wl]
    refine c9 (hxr.sub hy.sub) (by omega) hx8 (by omega) (by omega) fun z H3 hz => ?_
    rw [hU2] at hz ⊢
    simp only at hz ⊢
    have hzr : Rw H3 z (([] : List Int).map v32) 0 1 := (hz.rin (by simp)).rd
    have cz := Rw.cells hzr
    have lz := fun k => Rw.lenK hzr (k := k)
    have hcast : (((encR (runsF l)).length - 1 : Nat) : Int) = ((encR (runsF l)).length : Int) - 1 := by omega
    simp [cz, lx, wx]
    refine Rw.slice hxr (l := 0) (u := (encR (runsF l)).length - 1) (by omega) (by omega) (fun k => bndK_none) (fun k => by rw [hcast]; simp) fun x2 hx2 => ?_
    have hx2 : Rw H1 x2 (((encR (runsF l)).take ((encR (runsF l)).length - 1)).map v8) ((encR (runsF l)).take ((encR (runsF l)).length - 1)).length 1 := by
      have := hx2
      simp only [Nat.zero_mul, List.drop_zero, Nat.sub_zero, Nat.mul_one, ← List.map_take] at this
      rw [List.length_take, Nat.min_eq_left (by omega)]
      exact this
    have cx2 := Rw.cells hx2
    have hlx : ((encR (runsF l)).take ((encR (runsF l)).length - 1)).length ≤ 1000000 := by rw [List.length_take, hel]; omega
    simp [cx2, la]
    refine c9 ((hx2.sub hy.sub).sub hz.sub) hlx (fun v hv => hx8 v (List.mem_of_mem_take hv)) (by omega) (by omega) fun w H4 hw => ?_
    rw [hU3] at hw ⊢
    simp only at hw ⊢
    have hwr : Rw H4 w (([] : List Int).map v32) 0 1 := (hw.rin (by simp)).rd
    have cw := Rw.cells hwr
    have lw := fun k => Rw.lenK hwr (k := k)
    have hsF := (hs2.trans hz.sub).trans hw.sub
    simp [cw, lz, lw]
  all_goals
    refine c9 (most := 300000) (hb.sub hsF) (by omega) h8 (by omega) (by omega) fun u H5 hu => ?_
    have hur : Rw H5 u ((unrF 300000 bs 0 255 []).1.map v32) (unrF 300000 bs 0 255 []).1.length 1 := (hu.rin (by simp)).rd
    have cu := Rw.cells hur
    have hsG := hsF.trans hu.sub
    obtain ⟨⟨U, e⟩, hU⟩ : ∃ q, unrF 300000 bs 0 255 [] = q := ⟨_, rfl⟩
    rw [hU] at hur hu ⊢
    simp only at hur hu ⊢
    simp [cu]
    by_cases he : e = 0
    · subst he
      obtain ⟨rs, q1, q2, q3⟩ := unr_inv _ _ _ _ _ _ h8 hU
      rw [List.nil_append] at q3
      have hlu := unr_len 300000 bs 0 255 [] U (by simp) hU h8
      have hstb := fun k => Rw.str (hb.sub hsG) (k := k)
      simp [hstb]
      refine c11 hur (by omega) fun t H6 ht => ?_
      have htr : Rw H6 t ((encR (runsF U)).map v8) (encR (runsF U)).length 1 := (ht.rin (by simp)).rd
      have hstt := fun k => Rw.str htr (k := k)
      have hstb6 := fun k => Rw.str (hb.sub (hsG.trans ht.sub)) (k := k)
      rw [q3, runs_exp _ _ _ q2, ← q1] at hstt
      simp [hstt, hstb6]
      refine c8 ?_
      simp
      exact ⟨H, hsG.trans ht.sub, hk⟩
    · simp [he]
      refine c8 ?_
      simp
      exact ⟨H, hsG, hk⟩
end Go.Proofs.Ytkjkolacnpknoaa
end

/-! CodecRunsRoundTrip: for every numbers and bytes the law returns true, and its arguments read as they did. No conditions: every input that the row admits. -/
section
namespace Go.Proofs.Ytkjkolacnpknoaa
open Go Go.Ab Go.RowKit Go.ChangeShapes Go.WideShapes Go.ChangeAt
set_option linter.unusedSimpArgs false
set_option linter.unusedVariables false
set_option linter.unnecessarySimpa false

attribute [local simp] condK_true condK_false condK_not wpc_skip wpc_ret wpc_exit wpc_seq wpc_reg wpc_regD testA_bool wpc_cond wpc_block thenA_normal thenA_ret thenA_exit blockA_normal blockA_ret blockA_exit blockA_other endA_normal endA_ret ev_tmp' ev_const ev_func ev_global cv_int cv_bool cv_string cv_pointer cv_slice cv_agg cv_map put_some put_none wH_s setE_apply setE_env less_eq env_cons env_nil upd_upd upd_apply del_apply startA_eq cells_ag cells_sl one_sl cells_vs one_vs cells_ep one_ep cells_fn one_fn cells_int one_int cells_bool one_bool cells_string one_string cells_pointer one_pointer cells_slice one_slice cells_map one_map cells_agg resK_one resK_nil resK_two rvK_t rvK_c rvsK_nil rvsK_cons iseq_nil iseq_cons gdA_true gdA_false gdA_undef istep_free istep_guard istepV_free istepV_guard dseq_nil dseq_pu dseq_rd dseq_ef wpc_regT dtree_nil dtree_pu dtree_rd dtree_ef dtree_br chkAll_nil chkAll_cons andK_true pickK_true pickK_false pickK_tb pickK_fb bin2K_pl eqbK_eq eqbK_ne eqpK_eq eqpK_ne eqmK_eq eqmK_ne eqzK_eq eqzK_ne eqzK_sl eqzK_vs un1K_pl convK_int fillK_some fillA_cons fillA_nil cellsK_some needK_true needK_ok seeK_ep seeK_ptr oneK_agg oneK_one nilcK_ptr nilcK_ep fadrK_ptr fadrK_ep fldK_ag iadAK_ptr iadAK_ep iadSK_sl iadSK_vs extK_0 extK_1 extK_2 extK_3 lenK_pl lenK_sl lenK_vs lensK_pl boxK_some minmax1K_int storeK_ptr callvK_fn callvK_pl newsK_nil newsK_vs newsK_sl appK_nil appK_nil0 appK_sl appK_vs bnd1K_int bndK_none bndK_some slsK_vs slsK_nil slsK_sl0 slsK_sl slstrK_pl boolK_some eqsK_ag iop_eqs iop_sls iop_slstr seesK_some seesK_ro mapsK_some MAP_some findK_some findK_none plK_pl nmapK_none nmapK_some iop_mlook iop_mlen iop_mmk iop_mupd iop_mdel iop_mrng itK_none itK_some ptr0K_ptr iop_mnxt iop_ment it1K_some entK_some iop_mov iop_pick iop_bin iop_eqb iop_eqp iop_eqm iop_eqz iop_un capK_pl capK_sl capK_vs iop_cap iop_b2s b2sK_nil b2sK_sl b2sK_vs strK_some iop_idxv idxvK_ag atK_some apzK_nil iop_apz mksK_int iop_mks clrK_sl clrK_vs clrK_nil iop_clr iop_conv iop_build iop_load iop_nilc iop_fadr iop_fld iop_iadA iop_iadS iop_ext iop_mkf iop_len iop_lens iop_minmax iop_al iop_box iop_bsl iop_store iop_call iop_callv iop_app BIN_add BIN_sub BIN_mul BIN_and BIN_or BIN_xor BIN_andNot BIN_eql BIN_neq BIN_lss BIN_leq BIN_gtr BIN_geq BIN_quo BIN_rem BIN_shl BIN_shr BIN_sadd BIN_seql BIN_sneq BIN_slss BIN_sleq BIN_sgtr BIN_sgeq UN_neg UN_xor UN_not MM_nil MM_cons partsA argsA ptrA lessL eqL min2I slotN_int slotP_int slotI_int

theorem law_CodecRunsRoundTrip (xs : List AV) (hf : FitsT [(false, [.sl [.i .u32]]), (false, [.sl [.i .u8]])] xs) : ACall Try.prog 4 xs (fun _ => none) (fun v _ => v = vb true) := by
  obtain ⟨a, r, rfl, h1, hf⟩ := hf.cons
  obtain ⟨b, rfl, h2⟩ := hf.one
  obtain ⟨l, g1, g2, _⟩ := fitU (P := U32) (fun n h => u32_of h) (fitOne (ls := []) h1)
  obtain ⟨bs, g3, g4, _⟩ := fitU (P := U8) (fun n h => u8_of h) (fitOne (ls := []) h2)
  exact c4 (g1 _) (g3 _) g2 g4 rfl
set_option maxRecDepth 100000

theorem codecRunsRoundTrip_lifted (os : Os) (started : os.Started) (H : Type) (enc : TypeId × Value → H) :
    ReturnsInHanded {} Try.checked os 4 .any (Rows.codecRunsRoundTripSpec.pre6 enc Try.prog Try.f4 Rows.codecRunsRoundTripRow.domain false) (Rows.codecRunsRoundTripSpec.post enc Try.prog Try.f4 false true false false) := by
  refine returnsInHanded_of_change_sized (C := Try.checked) own started (by kernel_rfl) Try.func4
    (ChangeSpec.witness6 (enc := enc) (C := Try.checked) false ⟨#[], #[.slice none 0 0, .slice none 0 0], []⟩ 8 (by kernel_rfl) (by kernel_rfl) (by kernel_rfl) (by kernel_rfl)) ?_
  intro W base args ds gs before hval hW _ _ _
  refine law_contract (L := [(false, [.sl [.i .u32]]), (false, [.sl [.i .u8]])]) laidOut (by kernel_rfl) rfl (fun ds hd => ?_) ⟨_, rfl, by kernel_rfl⟩ ?_ (fun xs hf => law_CodecRunsRoundTrip xs hf) W base args ds gs before hval hW
  · match ds, hd with
    | [d0, d1], _ => exact ⟨rfl, rfl, rfl⟩
  · exact of_decide_eq_true (by kernel_rfl)

theorem codecRunsRoundTrip_holds : Rows.CodecRunsRoundTripSaid :=
  OpenClaim.holds_of_wide 4 Try.f4 rfl rfl rfl rfl rfl rfl rfl ⟨rfl, rfl, rfl, rfl, rfl⟩ rfl rfl rfl rfl rfl (by kernel_rfl) Try.func4 (by kernel_rfl)
    (of_decide_eq_true (by kernel_rfl)) (by unfold Func.isWrapper; first | (rw [if_pos (by decide +kernel)]; kernel_rfl) | (rw [if_neg (by decide +kernel)]; exact ⟨rfl, rfl⟩))
    (fun os started H enc _ => codecRunsRoundTrip_lifted os started H enc)
end Go.Proofs.Ytkjkolacnpknoaa
end
