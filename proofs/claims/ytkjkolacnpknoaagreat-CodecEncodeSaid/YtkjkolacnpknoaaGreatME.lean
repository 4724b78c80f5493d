/-
  Several texts in one: C36; C37. Conditions: as each lemma states them.
-/
import Derived.Test.YtkjkolacnpknoaaGreatMF
import Derived.Test.YtkjkolacnpknoaaGreatMD
import Derived.Test.YtkjkolacnpknoaaGreatXRow
import Derived.Test.YtkjkolacnpknoaaGreatRows
import Derived.WalkKit
import Derived.ProofKit
/-! The reference's Literal, and CodecEncode, walked. Conditions: as each lemma states them. -/
section
namespace Go.Proofs.YtkjkolacnpknoaaGreat
open Go Go.Ab Go.RowKit
set_option linter.unusedSimpArgs false
set_option linter.unusedVariables false
set_option linter.unnecessarySimpa false

attribute [local simp] condK_true condK_false condK_not wpc_skip wpc_ret wpc_exit wpc_seq wpc_reg wpc_regD testA_bool wpc_cond wpc_block thenA_normal thenA_ret thenA_exit blockA_normal blockA_ret blockA_exit blockA_other endA_normal endA_ret ev_tmp' ev_const ev_func ev_global cv_int cv_bool cv_string cv_pointer cv_slice cv_agg cv_map put_some put_none wH_s setE_apply setE_env less_eq env_cons env_nil upd_upd upd_apply del_apply startA_eq cells_ag cells_sl one_sl cells_vs one_vs cells_ep one_ep cells_fn one_fn cells_int one_int cells_bool one_bool cells_string one_string cells_pointer one_pointer cells_slice one_slice cells_map one_map cells_agg resK_one resK_nil resK_two rvK_t rvK_c rvsK_nil rvsK_cons iseq_nil iseq_cons gdA_true gdA_false gdA_undef istep_free istep_guard istepV_free istepV_guard dseq_nil dseq_pu dseq_rd dseq_ef wpc_regT dtree_nil dtree_pu dtree_rd dtree_ef dtree_br chkAll_nil chkAll_cons andK_true pickK_true pickK_false pickK_tb pickK_fb bin2K_pl eqbK_eq eqbK_ne eqpK_eq eqpK_ne eqmK_eq eqmK_ne eqzK_eq eqzK_ne eqzK_sl eqzK_vs un1K_pl convK_int fillK_some fillA_cons fillA_nil cellsK_some needK_true needK_ok seeK_ep seeK_ptr oneK_agg oneK_one nilcK_ptr nilcK_ep fadrK_ptr fadrK_ep fldK_ag iadAK_ptr iadAK_ep iadSK_sl iadSK_vs extK_0 extK_1 extK_2 extK_3 lenK_pl lenK_sl lenK_vs lensK_pl boxK_some minmax1K_int storeK_ptr callvK_fn callvK_pl newsK_nil newsK_vs newsK_sl appK_nil appK_nil0 appK_sl appK_vs bnd1K_int bndK_none bndK_some slsK_vs slsK_nil slsK_sl0 slsK_sl slstrK_pl boolK_some eqsK_ag iop_eqs iop_sls iop_slstr seesK_some seesK_ro mapsK_some MAP_some findK_some findK_none plK_pl nmapK_none nmapK_some iop_mlook iop_mlen iop_mmk iop_mupd iop_mdel iop_mrng itK_none itK_some ptr0K_ptr iop_mnxt iop_ment it1K_some entK_some iop_mov iop_pick iop_bin iop_eqb iop_eqp iop_eqm iop_eqz iop_un capK_pl capK_sl capK_vs iop_cap iop_b2s b2sK_nil b2sK_sl b2sK_vs strK_some iop_idxv idxvK_ag atK_some apzK_nil iop_apz mksK_int iop_mks clrK_sl clrK_vs clrK_nil iop_clr iop_conv iop_build iop_load iop_nilc iop_fadr iop_fld iop_iadA iop_iadS iop_ext iop_mkf iop_len iop_lens iop_minmax iop_al iop_box iop_bsl iop_store iop_call iop_callv iop_app BIN_add BIN_sub BIN_mul BIN_and BIN_or BIN_xor BIN_andNot BIN_eql BIN_neq BIN_lss BIN_leq BIN_gtr BIN_geq BIN_quo BIN_rem BIN_shl BIN_shr BIN_sadd BIN_seql BIN_sneq BIN_slss BIN_sleq BIN_sgtr BIN_sgeq UN_neg UN_xor UN_not MM_nil MM_cons partsA argsA ptrA lessL eqL min2I slotN_int slotP_int slotI_int
attribute [local simp] rc_len rc_t4 rc_t1 rc_t2 rc_t3 rc_d1 rc_d2 rc_d3 rc_d4 rc_ag rc_one rc_eq

theorem c13 {H : AH} {K : AV → AH → Prop} {ap : AV} {b : Bf} (hb : Rw H ap (flat pxc b.px) b.px.length 4) (bb : BB b) (lb : b.px.length ≤ 10000000)
    (hk : ∀ out H', Row H H' out ((litM b).1.map v8) (litM b).1.length 1 → K (.tp [out, vi (litM b).2]) H') : @AC Tryz.prog 13 [.ag (bfc b.w b.h ap)] H ⟨K⟩ := by
  have oap := Rw.one hb
  have lap := fun k => Rw.lenK hb (k := k)
  have bl : ∀ (w h : Int) (a : AV), (bfc w h a).length = 3 := fun _ _ _ => rfl
  have t3 : ∀ (w h : Int) (a : AV), (bfc w h a).take 3 = bfc w h a := fun _ _ _ => rfl
  have d0 : ∀ (w h : Int) (a : AV), (bfc w h a).take 1 = [vi w] := fun _ _ _ => rfl
  have d1 : ∀ (w h : Int) (a : AV), ((bfc w h a).drop 1).take 1 = [vi h] := fun _ _ _ => rfl
  have d1' : ∀ (w h : Int) (a : AV), (bfc w h a).tail.take 1 = [vi h] := fun _ _ _ => rfl
  have d2 : ∀ (w h : Int) (a : AV), ((bfc w h a).drop 2).take 1 = [a] := fun _ _ _ => rfl
  refine AC_of (.forget ?_)
  refine call_c follows cf13_ok (by simp) ?_
  simp [bl]
  refine newK_of fun z hz => ?_
  have hsz : Sub H (upd H z (.cells (bfc b.w b.h ap))) := (Sub.refl H).upd hz
  have kz : upd H z (.cells (bfc b.w b.h ap)) z = some (.cells (bfc b.w b.h ap)) := by simp [upd_apply]
  generalize upd H z (.cells (bfc b.w b.h ap)) = H1 at *
  simp [kz, bl, t3]
  refine c23 (hb.sub hsz) lb ?_
  have hm : litM b = if bOk b = true then encM (zeroB b) b [fr b.w b.h] else ([], 15) := rfl
  cases hv : bufOk b.w b.h b.px with
  | false =>
    rw [if_neg (by rw [show bOk b = false from hv]; simp)] at hm
    rw [hm] at hk
    simp
    exact ⟨H, hsz, hk _ _ (Row.nil H 1)⟩
  | true =>
  rw [if_pos (show bOk b = true from hv)] at hm
  have hmk : b.px.length * 4 ≤ 140737488355328 := by omega
  simp [kz, bl, d0, d1, d1', d2, lap, hmk]
  refine newK_of fun y hy => ?_
  have nzy : ¬ z = y := ne_of_free kz hy
  have htn : ((b.px.length : Int)).toNat = b.px.length := by omega
  rw [htn, show (List.replicate b.px.length [AV.pl (Value.int .u8 0), AV.pl (Value.int .u8 0), AV.pl (Value.int .u8 0), AV.pl (Value.int .u8 0)]).flatten = flat pxc (zeroB b).px from flat_rep _]
  have hsy : Sub H1 (upd H1 y (.cells (flat pxc (zeroB b).px))) := (Sub.refl H1).upd hy
  have kzy := hsy _ _ kz
  have hry : Rw (upd H1 y (.cells (flat pxc (zeroB b).px))) (.sl y 0 b.px.length 4 true) (flat pxc (zeroB b).px) (zeroB b).px.length 4 := by
    rw [zeroB_len]
    exact Rw.sl (by rw [flat_len pxc_l, zeroB_len]) (by simp [upd_apply])
  generalize upd H1 y (.cells (flat pxc (zeroB b).px)) = H2 at *
  generalize AV.sl y 0 b.px.length 4 true = ay at *
  have oay := Rw.one hry
  have cay := Rw.cells hry
  simp [kzy, bl, d0, d1, d1', d2, lap, cay]
  refine newK_of fun t4 ht4 => ?_
  have hs4 : Sub H2 (upd H2 t4 (.cells (bfc b.w b.h ay))) := (Sub.refl H2).upd ht4
  have nzt : ¬ z = t4 := ne_of_free kzy ht4
  have hbf : [vi b.w, vi b.h, ay] = bfc b.w b.h ay := rfl
  simp [oay, nzt, kzy, bl, d0, d1, d1', d2, lap]
  rw [hbf]
  have kt4 : upd H2 t4 (.cells (bfc b.w b.h ay)) t4 = some (.cells (bfc b.w b.h ay)) := by simp [upd_apply]
  have kz4 := hs4 _ _ kzy
  have hH4 : Sub H (upd H2 t4 (.cells (bfc b.w b.h ay))) := (hsz.trans hsy).trans hs4
  have hry4 := hry.sub hs4
  generalize upd H2 t4 (.cells (bfc b.w b.h ay)) = H4 at *
  refine newK_of fun y5 hy5 => ?_
  have hfr : rc ⟨0, 0, b.w, b.h⟩ = rc (fr b.w b.h) := rfl
  rw [hfr]
  have hs5 : Sub H4 (upd H4 y5 (.cells (rc (fr b.w b.h)))) := (Sub.refl H4).upd hy5
  have hr5 : Rr (upd H4 y5 (.cells (rc (fr b.w b.h)))) (.sl y5 0 1 4 true) [fr b.w b.h] := Rw.sl rfl (by simp [upd_apply, flat])
  have n4y : ¬ t4 = y5 := ne_of_free kt4 hy5
  have nzy5 : ¬ z = y5 := ne_of_free kz4 hy5
  generalize AV.sl y5 0 1 4 true = a5 at *
  have ca5 := Rw.cells hr5
  try simp [kt4, kz4, bl, t3, n4y, nzy5, ca5]
  refine c11 (o := zeroB b) (n := b) (dam := [fr b.w b.h]) (hry4.sub hs5) (hb.sub (hH4.trans hs5)) hr5 (zeroB_bb b) bb (by rw [zeroB_len]; exact lb) lb (by simp) fun out H' hro => ?_
  rw [← hm] at hro ⊢
  obtain ⟨H6, h6, hrow6⟩ := hro.out (hH4.trans hs5)
  have cc := Rw.cells (hro.rin (by simp)).rd
  simp [cc]
  exact ⟨H6, h6, hk _ _ hrow6⟩

def six (o n : Bf) (p q : AV) : List AV := bfc o.w o.h p ++ bfc n.w n.h q
set_option maxHeartbeats 2000000 in
theorem c4 {H : AH} {K : AV → AH → Prop} {p q ad : AV} {o n : Bf} {dam : List R} (ho : Rw H p (flat pxc o.px) o.px.length 4) (hn : Rw H q (flat pxc n.px) n.px.length 4) (hd : Rr H ad dam) (bo : BB o) (bn : BB n) (hk : K (vb true) H) :
    @AC Tryz.prog 4 [.ag (six o n p q), ad] H ⟨K⟩ := by
  have op := Rw.one ho
  have oq := Rw.one hn
  have lo := fun k => Rw.lenK ho (k := k)
  have ln := fun k => Rw.lenK hn (k := k)
  have ld := fun k => Rw.lenK hd (k := k)
  have cad := Rw.cells hd
  have bl : ∀ (w h : Int) (a : AV), (bfc w h a).length = 3 := fun _ _ _ => rfl
  have t3 : ∀ (w h : Int) (a : AV), (bfc w h a).take 3 = bfc w h a := fun _ _ _ => rfl
  have l6 : (six o n p q).length = 6 := rfl
  have e0 : (six o n p q).take 3 = bfc o.w o.h p := rfl
  have e3 : ((six o n p q).drop 3).take 3 = bfc n.w n.h q := rfl
  refine AC_of (.forget ?_)
  refine call_c follows cf4_ok (by simp) ?_
  simp [l6]
  refine newK_of fun z hz => ?_
  have hsz : Sub H (upd H z (.cells (six o n p q))) := (Sub.refl H).upd hz
  have kz : upd H z (.cells (six o n p q)) z = some (.cells (six o n p q)) := by simp [upd_apply]
  generalize upd H z (.cells (six o n p q)) = H1 at *
  have ex : ∀ {H : AH} {K' : AV → AH → Prop}, K' (vb true) H → @AC Tryz.prog 6 [] H ⟨K'⟩ := fun h => c6 h
  simp [kz, l6, e0]
  refine c5 (ho.sub hsz) ?_
  by_cases h1 : 400 < o.px.length
  · have h1' : (400 : Int) < o.px.length := by omega
    simp [h1, h1']
    refine ex ?_
    simp
    exact ⟨H, hsz, hk⟩
  have h1' : ¬ (400 : Int) < o.px.length := by omega
  simp [h1, h1', kz, l6, e3]
  refine c5 (hn.sub hsz) ?_
  by_cases h2 : 400 < n.px.length
  · have h2' : (400 : Int) < n.px.length := by omega
    simp [h2, h2']
    refine ex ?_
    simp
    exact ⟨H, hsz, hk⟩
  have h2' : ¬ (400 : Int) < n.px.length := by omega
  by_cases h3 : 20 < dam.length
  · have h3' : (20 : Int) < dam.length := by omega
    simp [h2, h2', ld, h3, h3']
    refine ex ?_
    simp
    exact ⟨H, hsz, hk⟩
  have h3' : ¬ (20 : Int) < dam.length := by omega
  simp [h2, h2', ld, h3, h3', kz, l6, e0, e3, cad]
  refine c10 (ho.sub hsz) (hn.sub hsz) (hd.sub hsz) bo bn (by omega) (by omega) (by omega) fun b1 H2 hb1 => ?_
  have hs2 := hsz.trans hb1.sub
  have kz2 := hb1.sub _ _ kz
  obtain ⟨⟨B, e⟩, hE⟩ : ∃ x, encM o n dam = x := ⟨_, rfl⟩
  rw [hE] at hb1 ⊢
  simp only at hb1 ⊢
  have r1 : Rw H2 b1 (B.map v8) B.length 1 := (hb1.rin (by simp)).rd
  have c1 := Rw.cells r1
  simp [c1, kz2, l6, e0, e3, cad]
  refine c11 (ho.sub hs2) (hn.sub hs2) (hd.sub hs2) bo bn (by omega) (by omega) (by omega) fun b2 H3 hb2 => ?_
  rw [hE] at hb2 ⊢
  simp only at hb2 ⊢
  have hs3 := hs2.trans hb2.sub
  have kz3 := hb2.sub _ _ kz2
  have r2 : Rw H3 b2 (B.map v8) B.length 1 := (hb2.rin (by simp)).rd
  have c2 := Rw.cells r2
  simp [c2, kz3, l6, e0, e3]
  refine c12 (b := n) (hn.sub hs3) bn (by omega) fun b3 H4 hb3 => ?_
  obtain ⟨⟨C, g⟩, hG⟩ : ∃ x, litM n = x := ⟨_, rfl⟩
  rw [hG] at hb3 ⊢
  simp only at hb3 ⊢
  have hs4 := hs3.trans hb3.sub
  have kz4 := hb3.sub _ _ kz3
  have r3 : Rw H4 b3 (C.map v8) C.length 1 := (hb3.rin (by simp)).rd
  have c3 := Rw.cells r3
  simp [c3, kz4, l6, e0, e3]
  refine c13 (b := n) (hn.sub hs4) bn (by omega) fun b4 H5 hb4 => ?_
  rw [hG] at hb4 ⊢
  simp only at hb4 ⊢
  have hs5 := hs4.trans hb4.sub
  have r4 : Rw H5 b4 (C.map v8) C.length 1 := (hb4.rin (by simp)).rd
  have c4 := Rw.cells r4
  have s1 := fun k => Rw.str (r1.sub ((hb2.sub.trans hb3.sub).trans hb4.sub)) (k := k)
  have s2 := fun k => Rw.str (r2.sub (hb3.sub.trans hb4.sub)) (k := k)
  have s3 := fun k => Rw.str (r3.sub hb4.sub) (k := k)
  have s4 := fun k => Rw.str r4 (k := k)
  simp [c4, s1, s2, s3, s4]
  refine ex ?_
  simp
  exact ⟨H, hs5, hk⟩
end Go.Proofs.YtkjkolacnpknoaaGreat
end

/-! CodecEncode: for every buffers and rectangles the law returns true, and its arguments read as they did. No conditions: every input that the row admits. -/
section
namespace Go.Proofs.YtkjkolacnpknoaaGreat
open Go Go.Ab Go.RowKit Go.ChangeShapes Go.WideShapes Go.ChangeAt
set_option linter.unusedSimpArgs false
set_option linter.unusedVariables false
set_option linter.unnecessarySimpa false

attribute [local simp] condK_true condK_false condK_not wpc_skip wpc_ret wpc_exit wpc_seq wpc_reg wpc_regD testA_bool wpc_cond wpc_block thenA_normal thenA_ret thenA_exit blockA_normal blockA_ret blockA_exit blockA_other endA_normal endA_ret ev_tmp' ev_const ev_func ev_global cv_int cv_bool cv_string cv_pointer cv_slice cv_agg cv_map put_some put_none wH_s setE_apply setE_env less_eq env_cons env_nil upd_upd upd_apply del_apply startA_eq cells_ag cells_sl one_sl cells_vs one_vs cells_ep one_ep cells_fn one_fn cells_int one_int cells_bool one_bool cells_string one_string cells_pointer one_pointer cells_slice one_slice cells_map one_map cells_agg resK_one resK_nil resK_two rvK_t rvK_c rvsK_nil rvsK_cons iseq_nil iseq_cons gdA_true gdA_false gdA_undef istep_free istep_guard istepV_free istepV_guard dseq_nil dseq_pu dseq_rd dseq_ef wpc_regT dtree_nil dtree_pu dtree_rd dtree_ef dtree_br chkAll_nil chkAll_cons andK_true pickK_true pickK_false pickK_tb pickK_fb bin2K_pl eqbK_eq eqbK_ne eqpK_eq eqpK_ne eqmK_eq eqmK_ne eqzK_eq eqzK_ne eqzK_sl eqzK_vs un1K_pl convK_int fillK_some fillA_cons fillA_nil cellsK_some needK_true needK_ok seeK_ep seeK_ptr oneK_agg oneK_one nilcK_ptr nilcK_ep fadrK_ptr fadrK_ep fldK_ag iadAK_ptr iadAK_ep iadSK_sl iadSK_vs extK_0 extK_1 extK_2 extK_3 lenK_pl lenK_sl lenK_vs lensK_pl boxK_some minmax1K_int storeK_ptr callvK_fn callvK_pl newsK_nil newsK_vs newsK_sl appK_nil appK_nil0 appK_sl appK_vs bnd1K_int bndK_none bndK_some slsK_vs slsK_nil slsK_sl0 slsK_sl slstrK_pl boolK_some eqsK_ag iop_eqs iop_sls iop_slstr seesK_some seesK_ro mapsK_some MAP_some findK_some findK_none plK_pl nmapK_none nmapK_some iop_mlook iop_mlen iop_mmk iop_mupd iop_mdel iop_mrng itK_none itK_some ptr0K_ptr iop_mnxt iop_ment it1K_some entK_some iop_mov iop_pick iop_bin iop_eqb iop_eqp iop_eqm iop_eqz iop_un capK_pl capK_sl capK_vs iop_cap iop_b2s b2sK_nil b2sK_sl b2sK_vs strK_some iop_idxv idxvK_ag atK_some apzK_nil iop_apz mksK_int iop_mks clrK_sl clrK_vs clrK_nil iop_clr iop_conv iop_build iop_load iop_nilc iop_fadr iop_fld iop_iadA iop_iadS iop_ext iop_mkf iop_len iop_lens iop_minmax iop_al iop_box iop_bsl iop_store iop_call iop_callv iop_app BIN_add BIN_sub BIN_mul BIN_and BIN_or BIN_xor BIN_andNot BIN_eql BIN_neq BIN_lss BIN_leq BIN_gtr BIN_geq BIN_quo BIN_rem BIN_shl BIN_shr BIN_sadd BIN_seql BIN_sneq BIN_slss BIN_sleq BIN_sgtr BIN_sgeq UN_neg UN_xor UN_not MM_nil MM_cons partsA argsA ptrA lessL eqL min2I slotN_int slotP_int slotI_int

theorem law_CodecEncode (xs : List AV) (hf : FitsT [(true, bfL ++ bfL), (false, [.sl rcL])] xs) : ACall Tryz.prog 4 xs (fun _ => none) (fun v _ => v = vb true) := by
  obtain ⟨a, r, rfl, h1, hf⟩ := hf.cons
  obtain ⟨b, rfl, h2⟩ := hf.one
  obtain ⟨o, n, p, q, rfl, g1, g2, g3, g4⟩ := fitPair h1
  obtain ⟨l, g5⟩ := fitRs (fitOne (ls := []) h2)
  exact c4 (g1 _) (g2 _) (g5 _) g3 g4 rfl
set_option maxRecDepth 100000

theorem codecEncode_lifted (os : Os) (started : os.Started) (H : Type) (enc : TypeId × Value → H) :
    ReturnsInHanded {} Tryz.checked os 4 .any (Rows.codecEncodeSpec.pre6 enc Tryz.prog Tryz.f4 Rows.codecEncodeRow.domain false) (Rows.codecEncodeSpec.post enc Tryz.prog Tryz.f4 false true false false) := by
  refine returnsInHanded_of_change_sized (C := Tryz.checked) own started (by kernel_rfl) Tryz.func4
    (ChangeSpec.witness6 (enc := enc) (C := Tryz.checked) false ⟨#[], #[.agg #[.int .i64 0, .int .i64 0, .slice none 0 0, .int .i64 0, .int .i64 0, .slice none 0 0], .slice none 0 0], []⟩ 8 (by kernel_rfl) (by kernel_rfl) (by kernel_rfl) (by kernel_rfl)) ?_
  intro W base args ds gs before hval hW _ _ _
  refine law_contract (L := [(true, bfL ++ bfL), (false, [.sl rcL])]) laidOut (by kernel_rfl) rfl (fun ds hd => ?_) ⟨_, rfl, by kernel_rfl⟩ ?_ (fun xs hf => law_CodecEncode xs hf) W base args ds gs before hval hW
  · match ds, hd with
    | [d0, d1], _ => exact ⟨rfl, rfl, rfl⟩
  · exact of_decide_eq_true (by kernel_rfl)

theorem codecEncode_holds : Rows.CodecEncodeSaid :=
  OpenClaim.holds_of_wide 4 Tryz.f4 rfl rfl rfl rfl rfl rfl rfl ⟨rfl, rfl, rfl, rfl, rfl⟩ rfl rfl rfl rfl rfl (by kernel_rfl) Tryz.func4 (by kernel_rfl)
    (of_decide_eq_true (by kernel_rfl)) (by unfold Func.isWrapper; first | (rw [if_pos (by decide +kernel)]; kernel_rfl) | (rw [if_neg (by decide +kernel)]; exact ⟨rfl, rfl⟩))
    (fun os started H enc _ => codecEncode_lifted os started H enc)
end Go.Proofs.YtkjkolacnpknoaaGreat
end
