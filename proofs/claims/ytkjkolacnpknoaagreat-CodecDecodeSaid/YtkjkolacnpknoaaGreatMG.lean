/-
  Several texts in one: C38; C39; C40. Conditions: as each lemma states them.
-/
import Derived.Test.YtkjkolacnpknoaaGreatMF
import Derived.Test.YtkjkolacnpknoaaGreatMD
import Derived.Test.YtkjkolacnpknoaaGreatXRow
import Derived.Test.YtkjkolacnpknoaaGreatRows
import Derived.WalkKit
import Derived.ProofKit
/-! The reference's Decode, walked. Conditions: as each lemma states them. -/
section
namespace Go.Proofs.YtkjkolacnpknoaaGreat
open Go Go.Ab Go.RowKit
set_option linter.unusedSimpArgs false
set_option linter.unusedVariables false
set_option linter.unnecessarySimpa false

attribute [local simp] condK_true condK_false condK_not wpc_skip wpc_ret wpc_exit wpc_seq wpc_reg wpc_regD testA_bool wpc_cond wpc_block thenA_normal thenA_ret thenA_exit blockA_normal blockA_ret blockA_exit blockA_other endA_normal endA_ret ev_tmp' ev_const ev_func ev_global cv_int cv_bool cv_string cv_pointer cv_slice cv_agg cv_map put_some put_none wH_s setE_apply setE_env less_eq env_cons env_nil upd_upd upd_apply del_apply startA_eq cells_ag cells_sl one_sl cells_vs one_vs cells_ep one_ep cells_fn one_fn cells_int one_int cells_bool one_bool cells_string one_string cells_pointer one_pointer cells_slice one_slice cells_map one_map cells_agg resK_one resK_nil resK_two rvK_t rvK_c rvsK_nil rvsK_cons iseq_nil iseq_cons gdA_true gdA_false gdA_undef istep_free istep_guard istepV_free istepV_guard dseq_nil dseq_pu dseq_rd dseq_ef wpc_regT dtree_nil dtree_pu dtree_rd dtree_ef dtree_br chkAll_nil chkAll_cons andK_true pickK_true pickK_false pickK_tb pickK_fb bin2K_pl eqbK_eq eqbK_ne eqpK_eq eqpK_ne eqmK_eq eqmK_ne eqzK_eq eqzK_ne eqzK_sl eqzK_vs un1K_pl convK_int fillK_some fillA_cons fillA_nil cellsK_some needK_true needK_ok seeK_ep seeK_ptr oneK_agg oneK_one nilcK_ptr nilcK_ep fadrK_ptr fadrK_ep fldK_ag iadAK_ptr iadAK_ep iadSK_sl iadSK_vs extK_0 extK_1 extK_2 extK_3 lenK_pl lenK_sl lenK_vs lensK_pl boxK_some minmax1K_int storeK_ptr callvK_fn callvK_pl newsK_nil newsK_vs newsK_sl appK_nil appK_nil0 appK_sl appK_vs bnd1K_int bndK_none bndK_some slsK_vs slsK_nil slsK_sl0 slsK_sl slstrK_pl boolK_some eqsK_ag iop_eqs iop_sls iop_slstr seesK_some seesK_ro mapsK_some MAP_some findK_some findK_none plK_pl nmapK_none nmapK_some iop_mlook iop_mlen iop_mmk iop_mupd iop_mdel iop_mrng itK_none itK_some ptr0K_ptr iop_mnxt iop_ment it1K_some entK_some iop_mov iop_pick iop_bin iop_eqb iop_eqp iop_eqm iop_eqz iop_un capK_pl capK_sl capK_vs iop_cap iop_b2s b2sK_nil b2sK_sl b2sK_vs strK_some iop_idxv idxvK_ag atK_some apzK_nil iop_apz mksK_int iop_mks clrK_sl clrK_vs clrK_nil iop_clr iop_conv iop_build iop_load iop_nilc iop_fadr iop_fld iop_iadA iop_iadS iop_ext iop_mkf iop_len iop_lens iop_minmax iop_al iop_box iop_bsl iop_store iop_call iop_callv iop_app BIN_add BIN_sub BIN_mul BIN_and BIN_or BIN_xor BIN_andNot BIN_eql BIN_neq BIN_lss BIN_leq BIN_gtr BIN_geq BIN_quo BIN_rem BIN_shl BIN_shr BIN_sadd BIN_seql BIN_sneq BIN_slss BIN_sleq BIN_sgtr BIN_sgeq UN_neg UN_xor UN_not MM_nil MM_cons partsA argsA ptrA lessL eqL min2I slotN_int slotP_int slotI_int
attribute [local simp] rc_len rc_t4 rc_t1 rc_t2 rc_t3 rc_d1 rc_d2 rc_d3 rc_d4 rc_ag rc_one rc_eq fd8 m8 sh8 or_nf xor_nf

theorem numb {H : AH} {K : AV → AH → Prop} {a : AV} {l : List Int} {i : Nat} {j : Int} (ha : Rw H a (l.map v8) l.length 1) (hl : l.length ≤ 10000000) (hu : ∀ x ∈ l, U8 x) (hj : j = (i : Int)) (hi : i + 1 < l.length) (hk : K (vi (at2 l i)) H) : @AC Tryz.prog 24 [a, vi j] H ⟨K⟩ := by
  subst hj; exact c24 ha hl hu hi hk
theorem sub_in_upd {H H1 : AH} {r : Nat} {c : AO} (h : Sub H H1) (hr : H1 r = some c) : Sub (upd H r c) H1 := fun j o hj => by
  simp only [upd_apply] at hj
  by_cases e : j = r
  · rw [if_pos e] at hj; rw [e, hr]; exact hj
  · rw [if_neg e] at hj; exact h j o hj
/-- What is held in Decode's loops: the pixels so far, and what is still to come. -/
structure DW (o0 : List Px) (P0 : List Int) (D : List Int) (H2 Hs : AH) (ro b14 : Nat) (bz : List AV) (px : List Px) (k : Nat) (rest : List Int) : Prop where
  sub : Sub H2 Hs
  fro : Hs ro = some (.cells (flat pxc px))
  fbx : Hs b14 = some (.cells bz)
  ne : ro ≠ b14
  pl : px.length = o0.length
  pb : ∀ p ∈ px, PB8 p
  len : k + rest.length = D.length
  app : applyF o0 rest (D.drop k) px = applyF o0 P0 D o0
  pre : ∃ pre, pre ++ rest = P0
set_option maxHeartbeats 4000000 in
set_option maxRecDepth 20000 in
theorem c8 {H : AH} {K : AV → AH → Prop} {ap ab : AV} {o : Bf} {b : List Int} (ho : Rw H ap (flat pxc o.px) o.px.length 4) (hb : Rw H ab (b.map v8) b.length 1)
    (bo : BB o) (hu : ∀ x ∈ b, U8 x) (lo : o.px.length ≤ 10000000) (lb : b.length ≤ 1000000)
    (hk : ∀ out H', Row H H' out (flat pxc (decM o b).1.px) (decM o b).1.px.length 4 → K (.tp [.ag (bfc (decM o b).1.w (decM o b).1.h out), vi (decM o b).2]) H') :
    @AC Tryz.prog 8 [.ag (bfc o.w o.h ap), ab] H ⟨K⟩ := by
  have oap := Rw.one ho
  have cap := Rw.cells ho
  have cab := Rw.cells hb
  have lab := fun k => Rw.lenK hb (k := k)
  have hz : ∀ e : Int, decM o b = (zB, e) → K (.tp [.ag (bfc 0 0 vnil), vi e]) H := fun e he => by
    have := hk vnil H (by rw [he]; exact Row.nil H 4)
    rw [he] at this
    exact this
  refine AC_of (.forget ?_)
  refine call_c follows cf8_ok (by simp) ?_
  have bl : ∀ (w h : Int) (a : AV), (bfc w h a).length = 3 := fun _ _ _ => rfl
  have d3 : ∀ (w h : Int) (a : AV), (bfc w h a).drop 3 = [] := fun _ _ _ => rfl
  have bz1 : (∀ x ∈ bfc 0 0 vnil, x.one = true) = True := eq_true (by simp [bfc])
  have t3 : ∀ (w h : Int) (a : AV), (bfc w h a).take 3 = bfc w h a := fun _ _ _ => rfl
  have d0 : ∀ (w h : Int) (a : AV), (bfc w h a).take 1 = [vi w] := fun _ _ _ => rfl
  have d1 : ∀ (w h : Int) (a : AV), ((bfc w h a).drop 1).take 1 = [vi h] := fun _ _ _ => rfl
  have d1' : ∀ (w h : Int) (a : AV), (bfc w h a).tail.take 1 = [vi h] := fun _ _ _ => rfl
  have d2 : ∀ (w h : Int) (a : AV), ((bfc w h a).drop 2).take 1 = [a] := fun _ _ _ => rfl
  simp [bl]
  refine newK_of fun z2 hz2 => ?_
  have hs2 : Sub H (upd H z2 (.cells (bfc o.w o.h ap))) := (Sub.refl H).upd hz2
  have k2 : upd H z2 (.cells (bfc o.w o.h ap)) z2 = some (.cells (bfc o.w o.h ap)) := by simp [upd_apply]
  simp
  generalize upd H z2 (.cells (bfc o.w o.h ap)) = Ha at *
  refine newK_of fun b4 h4 => ?_
  have hs5 : Sub H (upd Ha b4 (.cells (bfc 0 0 vnil))) := hs2.trans ((Sub.refl Ha).upd h4)
  have k4 : upd Ha b4 (.cells (bfc 0 0 vnil)) b4 = some (.cells (bfc 0 0 vnil)) := by simp [upd_apply]
  have k2 : upd Ha b4 (.cells (bfc 0 0 vnil)) z2 = some (.cells (bfc o.w o.h ap)) := ((Sub.refl Ha).upd h4) _ _ k2
  have hH4 : H b4 = none := hs2.none_of h4
  have bzc : bfc 0 0 vnil = [vi 0, vi 0, vnil] := rfl
  rw [← bzc]
  generalize upd Ha b4 (.cells (bfc 0 0 vnil)) = Hb at *
  simp [k2, t3, bl]
  refine c23 (ho.sub hs5) lo ?_
  have hm : decM o b = if bOk o = true then (if (rectsM o.w o.h b).2 ≠ 0 then (zB, (rectsM o.w o.h b).2) else decR o (rectsM o.w o.h b).1.1 (rectsM o.w o.h b).1.2) else (zB, 15) := rfl
  have fin : ∀ (Hx : AH) (e : Int), Sub Hb Hx → decM o b = (zB, e) → Sub H (upd Hx b4 (.cells (bfc 0 0 vnil))) ∧ K (.tp [.ag (bfc 0 0 vnil), vi e]) H := fun Hx e hx he => ⟨(hs5.trans hx).upd hH4, hz e he⟩
  cases hv : bufOk o.w o.h o.px with
  | false =>
    rw [if_neg (by rw [show bOk o = false from hv]; simp)] at hm
    simp [k4, bl, t3, bz1, ← bzc]
    exact ⟨H, fin Hb 15 (Sub.refl _) hm⟩
  | true =>
  rw [if_pos (show bOk o = true from hv)] at hm
  obtain ⟨bw, bh, blen, bpx⟩ := bufOk_iff.1 hv
  have hN : o.px.length ≤ 65536 := by
    have : o.w * o.h ≤ 256 * 256 := Int.mul_le_mul (by omega) (by omega) (by omega) (by omega)
    omega
  simp [k2, t3, bl, cab, lab]
  by_cases hb2 : b.length < 2
  · have hb2' : (b.length : Int) < 2 := by omega
    have hr : rectsM o.w o.h b = (([], []), 4) := by
      match b, hb2 with
      | [], _ => rfl
      | [x], _ => rfl
      | x :: y :: t, h => exact absurd h (by simp only [List.length_cons]; omega)
    rw [hr] at hm
    simp [hb2, hb2', k4, bl, t3, bz1, ← bzc]
    exact ⟨H, fin Hb 4 (Sub.refl _) (by simpa using hm)⟩
  have hb2' : ¬ (b.length : Int) < 2 := by omega
  obtain ⟨x0, x1, t, hbt⟩ : ∃ x0 x1 t, b = x0 :: x1 :: t := by
    match b, hb2 with
    | x :: y :: t, _ => exact ⟨x, y, t, rfl⟩
    | [], h => simp at h
    | [x], h => simp at h
  have hat : ∀ i, at2 b (2 + i) = at2 t i := fun i => by
    rw [hbt]
    unfold at2
    rw [show 2 + i = i + 1 + 1 by omega, show i + 1 + 1 + 1 = (i + 1) + 1 + 1 by omega]
    rfl
  have hat0 : at2 b 0 = v2 x0 x1 := by rw [hbt]; rfl
  have hbl : b.length = t.length + 2 := by rw [hbt]; rfl
  have hv2 := (le2_v2 (hu x0 (by simp [hbt])) (hu x1 (by simp [hbt]))).2
  unfold W16 at hv2
  have hrm : rectsM o.w o.h b = if 256 < v2 x0 x1 then (([], []), 3) else if t.length < 8 * (v2 x0 x1).toNat then (([], []), 4)
    else if okL o.w o.h (parseR (v2 x0 x1).toNat t) = true then ((parseR (v2 x0 x1).toNat t, t.drop (8 * (v2 x0 x1).toNat)), 0) else (([], []), 3) := by rw [hbt]; rfl
  simp [hb2, hb2', cab]
  refine numb (i := 0) (hb.sub hs5) (by omega) hu rfl (by omega) ?_
  rw [hat0]
  generalize v2 x0 x1 = nI at *
  obtain ⟨n, rfl⟩ : ∃ n : Nat, nI = n := ⟨nI.toNat, by omega⟩
  rw [Int.toNat_natCast] at hrm
  by_cases h256 : 256 < n
  · have h256' : (256 : Int) < n := by omega
    rw [if_pos h256'] at hrm
    rw [hrm] at hm
    simp [h256, h256', k4, bl, t3, bz1, ← bzc]
    exact ⟨H, fin Hb 3 (Sub.refl _) (by simpa using hm)⟩
  have h256' : ¬ (256 : Int) < n := by omega
  rw [if_neg h256'] at hrm
  have w8 := IntWalk.i64_in (8 * (n : Int)) (by omega)
  have w9 := IntWalk.i64_in (2 + 8 * (n : Int)) (by omega)
  by_cases h8 : t.length < 8 * n
  · have h8' : (b.length : Int) < 2 + 8 * n := by omega
    rw [if_pos h8] at hrm
    rw [hrm] at hm
    simp [h256, h256', lab, w8, w9, h8', k4, bl, t3, bz1, ← bzc]
    exact ⟨H, fin Hb 4 (Sub.refl _) (by simpa using hm)⟩
  have h8' : ¬ (b.length : Int) < 2 + 8 * n := by omega
  rw [if_neg h8] at hrm
  simp [h256, h256', lab, w8, w9, h8']
  have hpl := parse_len n t (by omega)
  have hpg := fun i (h : i < n) => parse_get n t i (by omega) h
  have ht8 : ∀ x ∈ t, U8 x := fun x hx => hu x (by rw [hbt]; simp [hx])
  have hp16 := (rbs_parse n t (by omega) ht8).2
  generalize hPL : parseR n t = PL at *
  refine wpc_loop (fun s => ∃ (j q : Nat) (al : AV), s.n = 180 ∧ s.t 1 = ab ∧ s.t 2 = pA z2 ∧ s.t 4 = pA b4 ∧ s.t 6 = vi n ∧ s.t 7 = al ∧ s.t 8 = vi q ∧ q = 2 + 8 * j ∧ j ≤ n ∧ Row Hb s.H al (flat rc (PL.take j)) j 4 ∧ ∀ r ∈ PL.take j, r.x1 ≤ o.w ∧ r.y1 ≤ o.h) (fun s => n + 2 - slotN (s.t 8) / 8) ?_ ?_
  · exact FgK.same ⟨0, 2, vnil, by simp, by simp, by simp, by simp, by simp, by simp, by simp, rfl, by omega, by simpa [flat] using Row.nil Hb 4, by simp⟩
  rintro s ⟨j, q, al, hg, e1, e2, e4, e6, e7, e8, hq, hj, hrow, hin⟩
  generalize hHeq : s.H = Hs at *
  have hbs := hrow.sub
  by_cases hjn : j < n
  · have hqn : (q : Int) < 2 + 8 * n := by omega
    have wq2 := IntWalk.i64_in ((q : Int) + 2) (by omega)
    have wq4 := IntWalk.i64_in ((q : Int) + 4) (by omega)
    have wq6 := IntWalk.i64_in ((q : Int) + 6) (by omega)
    have wq8 := IntWalk.i64_in ((q : Int) + 8) (by omega)
    have hbH := hb.sub (hs5.trans hbs)
    have cbH := Rw.cells hbH
    have hel : PL[j]? = some ⟨at2 b q, at2 b (q + 2), at2 b (q + 4), at2 b (q + 6)⟩ := by
      rw [hpg j hjn, hq, show 2 + 8 * j + 2 = 2 + (8 * j + 2) by omega, show 2 + 8 * j + 4 = 2 + (8 * j + 4) by omega, show 2 + 8 * j + 6 = 2 + (8 * j + 6) by omega, hat, hat, hat, hat]
    have hjl : j < PL.length := by omega
    have hpj : PL[j] = ⟨at2 b q, at2 b (q + 2), at2 b (q + 4), at2 b (q + 6)⟩ := by
      rw [List.getElem?_eq_getElem hjl] at hel
      exact Option.some.inj hel
    simp (disch := omega) [hg, hHeq, e1, e2, e4, e6, e7, e8, w8, w9, hqn, cab]
    refine numb (i := q) hbH (by omega) hu rfl (by omega) ?_
    simp (disch := omega) [e1, e8, wq2, cab]
    refine numb (i := q + 2) hbH (by omega) hu (by omega) (by omega) ?_
    simp (disch := omega) [e1, e8, wq4, cab]
    refine numb (i := q + 4) hbH (by omega) hu (by omega) (by omega) ?_
    simp (disch := omega) [e1, e8, wq6, cab]
    refine numb (i := q + 6) hbH (by omega) hu (by omega) (by omega) ?_
    generalize at2 b q = A at *
    generalize at2 b (q + 2) = B at *
    generalize at2 b (q + 4) = C at *
    generalize at2 b (q + 6) = D at *
    have k2s := hbs _ _ k2
    have k4s := hbs _ _ k4
    simp
    refine newK_of fun y9 hy9 => ?_
    have n2 : ¬ z2 = y9 := ne_of_free k2s hy9
    have n4 : ¬ b4 = y9 := ne_of_free k4s hy9
    have hso : (∀ x ∈ rc ⟨A, B, C, D⟩, x.one = true) = True := eq_true (by simp [rc])
    have hrl : (rc ⟨A, B, C, D⟩).length = 4 := rfl
    have hrd : (rc ⟨A, B, C, D⟩).drop 4 = [] := rfl
    have hs9 : Sub Hs (upd Hs y9 (.cells (rc ⟨A, B, C, D⟩))) := (Sub.refl Hs).upd hy9
    have k9 : upd Hs y9 (.cells (rc ⟨A, B, C, D⟩)) y9 = some (.cells (rc ⟨A, B, C, D⟩)) := by simp [upd_apply]
    have r2 : ((rc ⟨A, B, C, D⟩).drop 2).take 1 = [vi C] := rfl
    have r3 : ((rc ⟨A, B, C, D⟩).drop 3).take 1 = [vi D] := rfl
    have hrt : (rc ⟨A, B, C, D⟩).take 4 = rc ⟨A, B, C, D⟩ := rfl
    have k29 := hs9 _ _ k2s
    have k49 := hs9 _ _ k4s
    have hbad : (o.w < C ∨ o.h < D) → decM o b = (zB, 3) := fun hc => by
      have hok : okL o.w o.h PL = false := by
        unfold okL
        have : (PL.all fun r => decide (r.x1 ≤ o.w) && decide (r.y1 ≤ o.h)) = false := List.all_eq_false.2 ⟨PL[j], List.getElem_mem hjl, by rw [hpj]; simp; omega⟩
        rw [this, Bool.and_false]
      rw [hok, if_neg (by simp)] at hrm
      rw [hrm] at hm
      simpa using hm
    by_cases hc1 : o.w < C
    · simp (disch := omega) [hso, hrl, hrd, n2, n4, k2s, k4s, r2, r3, hrt, bl, d0, d1, d1', t3, bz1, hc1, ← bzc]
      exact ⟨H, fin _ 3 (hbs.trans hs9) (hbad (.inl hc1))⟩
    by_cases hc2 : o.h < D
    · simp (disch := omega) [hso, hrl, hrd, n2, n4, k2s, k4s, r2, r3, hrt, bl, d0, d1, d1', t3, bz1, hc1, hc2, ← bzc]
      exact ⟨H, fin _ 3 (hbs.trans hs9) (hbad (.inr hc2))⟩
    simp (disch := omega) [hso, hrl, hrd, n2, n4, k2s, k4s, r2, r3, hrt, bl, d0, d1, d1', t3, bz1, hc1, hc2]
    generalize upd Hs y9 (.cells (rc ⟨A, B, C, D⟩)) = Hs9 at *
    refine newK_of fun yb hyb => ?_
    have hsb : Sub Hs9 (upd Hs9 yb (.cells (rc ⟨A, B, C, D⟩))) := (Sub.refl Hs9).upd hyb
    generalize hx4 : AV.sl yb 0 1 4 true = x4
    have hnw : ∀ k : Nat → List AV → Prop, @NEWS (upd Hs9 yb (.cells (rc ⟨A, B, C, D⟩))) x4 4 ⟨k⟩ = k 1 (rc ⟨A, B, C, D⟩) := by intro k; rw [← hx4]; simp [hrl]
    simp [hnw, e7]
    refine hrow.app (hs9.trans hsb) (by decide) (by simp) (by rw [flat_len rc_l, List.length_take]; omega) (by omega) fun rq H' hq' hsq => ?_
    simp [e8, wq8]
    refine FgK.of _ hsq ⟨⟨j + 1, q + 8, .sl rq 0 (j + 1) 4 false, by simp, by simp [e1], by simp [e2], by simp [e4], by simp [e6], by simp, by simp, by omega, by omega, ?_, ?_⟩, by simp [e8]; omega⟩
    · rw [take_snoc' hjl, hpj, flat_snoc]
      exact Row.mk hq'
    · rw [take_snoc' hjl, hpj]
      intro r hr
      rcases List.mem_append.1 hr with hr | hr
      · exact hin r hr
      · simp at hr
        subst hr
        exact ⟨by simp only; omega, by simp only; omega⟩
  have hje : j = n := by omega
  subst hje
  have hnq : ¬ (q : Int) < 2 + 8 * (j : Int) := by omega
  rw [List.take_of_length_le (by omega)] at hrow hin
  rw [← hpl] at hrow
  have hLr : Rr Hs al PL := (hrow.rin (flat_len rc_l _)).rd
  have cal := Rw.cells hLr
  have k2s := hbs _ _ k2
  have k4s := hbs _ _ k4
  have hokL : okL o.w o.h PL = decide (canonF PL = PL) := by
    unfold okL
    have : (PL.all fun r => decide (r.x1 ≤ o.w) && decide (r.y1 ≤ o.h)) = true := List.all_eq_true.2 fun r hr => by have := hin r hr; simp; omega
    rw [this, Bool.and_true]
  rw [hokL] at hrm
  simp (disch := omega) [hg, hHeq, e1, e2, e4, e6, e7, e8, w8, w9, hnq, cal]
  refine canon_gen hLr (by omega) ?_
  by_cases hcan : canonF PL = PL
  case neg =>
    rw [decide_eq_false hcan, if_neg (by simp)] at hrm
    rw [hrm] at hm
    rw [decide_eq_false hcan]
    simp [e4, k4s, bl, t3, bz1, ← bzc]
    exact ⟨H, fin _ 3 hbs (by simpa using hm)⟩
  rw [decide_eq_true hcan, if_pos rfl] at hrm
  rw [if_neg (by rw [hrm]; simp), hrm] at hm
  simp only at hm
  rw [decide_eq_true hcan]
  simp [e7, cal]
  refine c26 hLr (by omega) (by rw [hcan]; omega) ?_
  rw [hcan]
  have hp0 : ∀ r ∈ PL, 0 ≤ r.x0 ∧ 0 ≤ r.y0 := fun r hr => by have := hp16 r hr; unfold W16 at this; omega
  have ri3 : InFr o.w o.h PL := fun r hr => by have := hp0 r hr; have := hin r hr; omega
  have har := posF_len (w := o.w) (canon_nemp hcan)
  have hfit : ∀ p ∈ posF PL o.w, 0 ≤ p ∧ p < o.px.length := fun p hp => by have := posF_in ri3 hp; omega
  have hplen := nodup_len _ _ (posF_nodup ri3 (canon_apart hcan)) hfit
  have hbH := hb.sub (hs5.trans hbs)
  simp [e1, e6, w8, w9, cab]
  refine Rw.slice hbH (l := 2 + 8 * j) (u := b.length) (by omega) (by omega) (fun k => by simp) (fun k => bndK_none) fun xR hxR => ?_
  obtain ⟨rest, hrest⟩ : ∃ rest, t.drop (8 * j) = rest := ⟨_, rfl⟩
  have hbd : b.drop (2 + 8 * j) = rest := by rw [hbt, ← hrest, show 2 + 8 * j = (8 * j) + 1 + 1 by omega]; rfl
  have hrl : rest.length = b.length - (2 + 8 * j) := by rw [← hbd, List.length_drop]
  have hR : Rw Hs xR (rest.map v8) rest.length 1 := by
    have := hxR
    rw [Nat.mul_one, Nat.mul_one, ← List.map_drop, hbd, ← hrl, List.take_of_length_le (by simp)] at this
    exact this
  rw [hrest] at hm
  have hrest8 : ∀ x ∈ rest, U8 x := fun x hx => hu x (by rw [← hbd] at hx; exact List.mem_of_mem_drop hx)
  have cR := Rw.cells hR
  simp [cR]
  refine c27 hR (by omega) hrest8 (by omega) (by omega) fun oD H2 hrowD => ?_
  unfold decR at hm
  generalize hU : unrF (areaF PL) rest 0 255 [] = U at *
  obtain ⟨D, e⟩ := U
  simp only at hm hrowD ⊢
  have hrD := (hrowD.rin (by simp)).rd
  have cD := Rw.cells hrD
  have lD := fun k => Rw.lenK hrD (k := k)
  have hs2' : Sub Hb H2 := hbs.trans hrowD.sub
  have k42 := hs2' _ _ k4
  have k22 := hs2' _ _ k2
  simp [cD]
  by_cases e5 : e = 5
  · rw [if_pos e5] at hm
    simp [e5, e4, k42, bl, t3, bz1, ← bzc]
    exact ⟨H, fin H2 3 hs2' hm⟩
  rw [if_neg e5] at hm
  by_cases e0 : e = 0
  case neg =>
    rw [if_pos e0] at hm
    simp [e5, e0, e4, k42, bl, t3, bz1, ← bzc]
    exact ⟨H, fin H2 e hs2' hm⟩
  rw [if_neg (by simpa using e0)] at hm
  by_cases hsh : (D.length : Int) < areaF PL
  · rw [if_pos hsh] at hm
    simp [e5, e0, lD, hsh, e4, k42, bl, t3, bz1, ← bzc]
    exact ⟨H, fin H2 4 hs2' hm⟩
  rw [if_neg hsh] at hm
  have hH2 : Sub H H2 := hs5.trans hs2'
  have hnA := fun k => Rw.news (ho.sub hH2) (k := k)
  have hpos : 1 ≤ o.w * o.h := Int.mul_le_mul (a := 1) (b := 1) (by omega) (by omega) (by omega) (by omega)
  simp [e5, e0, lD, hsh, e2, k22, d0, d1, d1', d2, bl, hnA]
  have hfo : (flat pxc o.px).all AV.one = true := by
    rw [List.all_eq_true]
    intro v hv
    obtain ⟨l, hl, hv⟩ := List.mem_flatten.1 (show v ∈ (o.px.map pxc).flatten from hv)
    obtain ⟨p, _, rfl⟩ := List.mem_map.1 hl
    simp [pxc] at hv
    rcases hv with rfl | rfl | rfl | rfl <;> rfl
  refine (Row.nil H2 4).app (Sub.refl _) (by omega) hfo rfl (by omega) fun ro H4 hro hsq => ?_
  rw [List.nil_append] at hsq
  have hfro : H4 ro = some (.cells (flat pxc o.px)) := hsq _ _ (by simp [upd_apply])
  have hs24 : Sub H2 H4 := ((Sub.refl H2).upd hro).trans hsq
  have k24 := hs24 _ _ k22
  rw [Nat.zero_add]
  simp [e2, k24, bl, d0, d1, d1', d2]
  refine newK_of fun b14 h14 => ?_
  obtain ⟨ax, hax⟩ : ∃ ax, AV.sl ro 0 o.px.length 4 false = ax := ⟨_, rfl⟩
  have hax1 : ax.one = true := by rw [← hax]; rfl
  have haxc : ax.cells = some [ax] := by rw [← hax]; rfl
  have n14 : ¬ ro = b14 := ne_of_free hfro h14
  have n214 : ¬ z2 = b14 := ne_of_free k24 h14
  have k44 := hs24 _ _ k42
  have n414 : ¬ b4 = b14 := ne_of_free k44 h14
  have n4ro : ¬ b4 = ro := ne_of_free k42 hro
  have h214 : H2 b14 = none := hs24.none_of h14
  rw [hax]
  simp [hax1, haxc, k24, bl, d0, d1, d1', d2, d3, n214]
  have hbf : [vi o.w, vi o.h, ax] = bfc o.w o.h ax := rfl
  rw [hbf]
  have hW0 : DW o.px (posF PL o.w) D H2 (upd H4 b14 (.cells (bfc o.w o.h ax))) ro b14 (bfc o.w o.h ax) o.px 0 (posF PL o.w) := by
    refine ⟨hs24.trans ((Sub.refl H4).upd h14), by simp [upd_apply, n14, hfro], by simp [upd_apply], n14, rfl, bo, ?_, by simp, ⟨[], rfl⟩⟩
    have h1 := unr_len (areaF PL) rest 0 255 [] D (by simp; omega) (by rw [hU, e0]) hrest8
    omega
  generalize upd H4 b14 (.cells (bfc o.w o.h ax)) = Hc at *
  obtain ⟨all, hall⟩ : ∃ all, applyF o.px (posF PL o.w) D o.px = all := ⟨_, rfl⟩
  rw [hall] at hm
  have lL := fun k => Rw.lenK hLr (k := k)
  have hrL2 := hLr.sub hrowD.sub
  have hDl : D.length = (posF PL o.w).length := by have := hW0.len; omega
  refine wpc_loop (fun s => ∃ (i k : Nat) (px : List Px), s.n = 180 ∧ s.t 2 = pA z2 ∧ s.t 4 = pA b4 ∧ s.t 7 = al ∧ s.t 11 = oD ∧ s.t 14 = pA b14 ∧ s.t 15 = vi k ∧ s.t 16 = vi i ∧ i ≤ PL.length ∧ DW o.px (posF PL o.w) D H2 s.H ro b14 (bfc o.w o.h ax) px k (posF (PL.drop i) o.w)) (fun s => PL.length - slotN (s.t 16)) ?_ ?_
  · exact FgK.same ⟨0, 0, o.px, by simp, by simp [e2], by simp [e4], by simp [e7], by simp, by simp, by simp, by simp, by omega, hW0⟩
  clear hg hHeq e1 e2 e4 e6 e7 e8 hq hnq hrow hin hW0
  rintro s ⟨i, k, px, hg, a2, a4, a7, a11, a14, a15, a16, hi, hW⟩
  generalize hHeq : s.H = Hs3 at *
  by_cases hil : i < PL.length
  · have wi := IntWalk.i64_in ((i : Int) + 1) (by omega)
    obtain ⟨p, hp1, hp2, hpf⟩ := fat rc_l hrL2 hil
    have hdrop : PL.drop i = PL[i] :: PL.drop (i + 1) := List.drop_eq_getElem_cons hil
    have hrf := ri3 _ (List.getElem_mem hil)
    have hrne := rempty_ok _ (canon_nemp hcan _ (List.getElem_mem hil))
    rw [hdrop] at hW
    generalize PL[i] = r at *
    obtain ⟨q0, f0, g0⟩ := hpf 0 (vi r.x0) rfl
    obtain ⟨q1, f1, g1⟩ := hpf 1 (vi r.y0) rfl
    obtain ⟨q2, f2, g2⟩ := hpf 2 (vi r.x1) rfl
    obtain ⟨q3, f3, g3⟩ := hpf 3 (vi r.y1) rfl
    have hlt : (i : Int) < PL.length := by omega
    simp (disch := omega) [hg, hHeq, a2, a4, a7, a11, a14, a15, a16, lL, hil, hlt, hp1, f1, g1 _ hW.sub]
    refine wpc_loop (fun s2 => ∃ (y : Int) (k : Nat) (px : List Px), s2.n = 180 ∧ s2.t 2 = pA z2 ∧ s2.t 4 = pA b4 ∧ s2.t 7 = al ∧ s2.t 11 = oD ∧ s2.t 14 = pA b14 ∧ s2.t 15 = vi k ∧ s2.t 16 = vi i ∧ s2.t 17 = vi y ∧ (r.y0 ≤ y ∧ y ≤ r.y1) ∧ DW o.px (posF PL o.w) D H2 s2.H ro b14 (bfc o.w o.h ax) px k (((rngI y r.y1).flatMap fun y => rowP o.w y r.x0 r.x1) ++ posF (PL.drop (i + 1)) o.w)) (fun s2 => (r.y1 - slotI (s2.t 17)).toNat) ?_ ?_
    · exact FgK.same ⟨r.y0, k, px, by simp, by simp [a2], by simp [a4], by simp [a7], by simp [a11], by simp [a14], by simp [a15], by simp [a16], by simp, by omega, hW⟩
    clear hW
    rintro s2 ⟨y, k, px, hg2, b2, b4_, b7, b11, b14_, b15, b16, b17, hy, hW⟩
    generalize hHeq2 : s2.H = Hs4 at *
    by_cases hyl : y < r.y1
    · have wy := IntWalk.i64_in (y + 1) (by omega)
      rw [rngI_cons hyl, List.flatMap_cons, List.append_assoc] at hW
      simp (disch := omega) [hg2, hHeq2, b2, b4_, b7, b11, b14_, b15, b16, b17, hp1, f3, g3 _ hW.sub, f0, g0 _ hW.sub, hyl]
      generalize hR : ((rngI (y + 1) r.y1).flatMap fun y => rowP o.w y r.x0 r.x1) ++ posF (PL.drop (i + 1)) o.w = R at *
      refine wpc_loop (fun s3 => ∃ (x : Int) (k : Nat) (px : List Px), s3.n = 180 ∧ s3.t 2 = pA z2 ∧ s3.t 4 = pA b4 ∧ s3.t 7 = al ∧ s3.t 11 = oD ∧ s3.t 14 = pA b14 ∧ s3.t 15 = vi k ∧ s3.t 16 = vi i ∧ s3.t 17 = vi y ∧ s3.t 18 = vi x ∧ (r.x0 ≤ x ∧ x ≤ r.x1) ∧ DW o.px (posF PL o.w) D H2 s3.H ro b14 (bfc o.w o.h ax) px k (rowP o.w y x r.x1 ++ R)) (fun s3 => (r.x1 - slotI (s3.t 18)).toNat) ?_ ?_
      · exact FgK.same ⟨r.x0, k, px, by simp, by simp [b2], by simp [b4_], by simp [b7], by simp [b11], by simp [b14_], by simp [b15], by simp [b16], by simp [b17], by simp, by omega, hW⟩
      clear hW
      rintro s3 ⟨x, k, px, hg3, c2, c4, c7, c11, c14, c15, c16, c17, c18, hx, hW⟩
      generalize hHeq3 : s3.H = Hs5 at *
      by_cases hxl : x < r.x1
      · have wx := IntWalk.i64_in (x + 1) (by omega)
        rw [rowP_cons hxl] at hW
        obtain ⟨pre, hpre⟩ := hW.pre
        have hmem : y * o.w + x ∈ posF PL o.w := by rw [← hpre]; simp
        obtain ⟨hk0, hk1⟩ := hfit _ hmem
        obtain ⟨jj, hke⟩ : ∃ k : Nat, y * o.w + x = k := ⟨(y * o.w + x).toNat, by omega⟩
        have hjo : jj < o.px.length := by omega
        have hWl := hW.len
        have hkD : k < D.length := by simp at hWl; omega
        have hap := hW.app
        rw [List.drop_eq_getElem_cons hkD, List.cons_append, applyF, hall, hke] at hap
        have wk := IntWalk.i64_in ((k : Int) + 1) (by omega)
        have hm0 : 0 ≤ y * o.w ∧ y * o.w ≤ 256 * 256 := ⟨Int.mul_nonneg (by omega) (by omega), Int.mul_le_mul (by omega) (by omega) (by omega) (by omega)⟩
        have wm := IntWalk.i64_in (y * o.w) (by omega)
        have wj := IntWalk.i64_in (jj : Int) (by omega)
        have k25 := hW.sub _ _ k22
        have k45 := hW.sub _ _ k42
        have hHs := hH2.trans hW.sub
        obtain ⟨pd, hpd1, hpd2⟩ := Rw.at1 hrD hkD
        generalize D[k] = dv at *
        simp (disch := omega) [hg3, hHeq3, c2, c4, c7, c11, c14, c15, c16, c17, c18, hp1, f2, g2 _ hW.sub, hxl, k25, bl, t3, hpd1, hpd2 _ hW.sub]
        refine c29 (ho.sub hHs) (by omega) (by omega) (by omega) hke hjo bo ?_
        simp (disch := omega) [k25, bl, t3, c11, c15, hpd1, hpd2 _ hW.sub]
        refine (c28 _ _).ac ?_
        generalize hX : xorI (packF (getP o.px jj)) dv = X at *
        have hXu : U32 X := by rw [← hX]; exact xor_u32 _ _
        simp (disch := omega) [c14, c15, c17, c18, hW.fbx, d2, d0, bl, k25, c2, wk, wm, hke, wj]
        refine (c30 X hXu).ac ?_
        have hub := unpF_b8 X
        have hjp : jj * 4 + 4 ≤ (flat pxc px).length := by rw [flat_len pxc_l, hW.pl]; omega
        have hset := pxs_set px (unpF X) jj (by rw [hW.pl]; omega)
        have hjN : (jj : Int) < o.px.length := by omega
        generalize hup : unpF X = up at *
        have hsetr : List.take (jj * 4) (flat pxc px) ++ (pxc up ++ List.drop (jj * 4 + 4) (flat pxc px)) = flat pxc (px.set jj up) := by rw [← hset]; simp
        have nbr : ¬ b14 = ro := fun h => hW.ne h.symm
        simp (disch := omega) [c14, hW.fbx, ← hax, hW.fro, pxc_l, pxc_one, pxc_t4, hjN, hjp, d2, d0, bl, k25, nbr, t3, c17, c18]
        rw [hsetr, hax]
        have hsub' : Sub H2 (upd Hs5 ro (.cells (flat pxc (px.set jj up)))) := hW.sub.upd hro
        have hfro' : upd Hs5 ro (.cells (flat pxc (px.set jj up))) ro = some (.cells (flat pxc (px.set jj up))) := by simp [upd_apply]
        have hfbx' : upd Hs5 ro (.cells (flat pxc (px.set jj up))) b14 = some (.cells (bfc o.w o.h ax)) := by simp [upd_apply, nbr, hW.fbx]
        have hpl' : (px.set jj up).length = o.px.length := by rw [List.length_set]; exact hW.pl
        have hpb' : ∀ p ∈ px.set jj up, PB8 p := fun p hp => by
          rcases List.mem_or_eq_of_mem_set hp with h | h
          · exact hW.pb p h
          · rw [h]; exact hub
        generalize upd Hs5 ro (.cells (flat pxc (px.set jj up))) = Hs6 at *
        have haxR : Rw Hs6 ax (flat pxc (px.set jj up)) (px.set jj up).length 4 := by
          rw [← hax, ← hpl']
          exact Rw.sl (flat_len pxc_l _) hfro'
        have k46 := hsub' _ _ k42
        refine c29 haxR (by omega) (by omega) (by omega) hke (by omega) hpb' ?_
        have hgx : getP (px.set jj up) (jj : Int) = up := by rw [getP_get (by omega)]; simp
        rw [hgx]
        by_cases hpx : packF up = X
        · rw [if_pos hpx] at hap
          simp (disch := omega) [hpx, wx, c18]
          refine FgK.same ⟨⟨x + 1, k + 1, px.set jj up, by simp [hg3], by simp [c2], by simp [c4], by simp [c7], by simp [c11], by simp [c14], by simp, by simp [c16], by simp [c17], by simp, by omega, ?_⟩, by simp [c18]; omega⟩
          exact ⟨hsub', hfro', hfbx', hW.ne, hpl', hpb', by simp at hWl ⊢; omega, by rw [hall]; simpa using hap, ⟨pre ++ [y * o.w + x], by rw [← hpre]; simp⟩⟩
        · rw [if_neg hpx] at hap
          rw [← hap] at hm
          simp (disch := omega) [hpx, c4, k46, bl, t3, d3, bz1, ← bzc]
          exact ⟨H, fin _ 15 (hs2'.trans hsub') (by simpa using hm)⟩
      · rw [rowP_nil (by omega), List.nil_append] at hW
        simp (disch := omega) [hg3, hHeq3, c2, c4, c7, c11, c14, c15, c16, c17, c18, hp1, f2, g2 _ hW.sub, hxl, wy]
        exact FgK.same ⟨⟨y + 1, k, px, by simp [hg3], by simp [c2], by simp [c4], by simp [c7], by simp [c11], by simp [c14], by simp [c15], by simp [c16], by simp, by omega, by rw [hR]; exact hW⟩, by simp [b17]; omega⟩
    · rw [rngI_nil (by omega), List.flatMap_nil, List.nil_append] at hW
      simp (disch := omega) [hg2, hHeq2, b2, b4_, b7, b11, b14_, b15, b16, b17, hp1, f3, g3 _ hW.sub, hyl, wi]
      exact FgK.same ⟨⟨i + 1, k, px, by simp [hg2], by simp [b2], by simp [b4_], by simp [b7], by simp [b11], by simp [b14_], by simp [b15], by simp, by omega, hW⟩, by simp [a16]; omega⟩
  · have hie : i = PL.length := by omega
    subst hie
    have hlt : ¬ (PL.length : Int) < PL.length := by omega
    rw [List.drop_length] at hW
    have hap := hW.app
    rw [show posF [] o.w = [] from rfl, applyF, hall] at hap
    rw [← hap] at hm
    simp only at hm
    have k45 := hW.sub _ _ k42
    have bzo : (∀ x ∈ bfc o.w o.h ax, x.one = true) = True := eq_true (by simp [bfc, hax1])
    have n4b : ¬ b4 = b14 := n414
    simp (disch := omega) [hg, hHeq, a2, a4, a7, a11, a14, a15, a16, lL, hil, hW.fbx, bl, t3, d3, k45, n414, bzo]
    have hfin : Sub (upd H ro (.cells (flat pxc px))) Hs3 := sub_in_upd (hH2.trans hW.sub) hW.fro
    refine ⟨upd H ro (.cells (flat pxc px)), hfin.upd ?_, ?_⟩
    · simp only [upd_apply]
      rw [if_neg n4ro]
      exact hH4
    · have := hk ax (upd H ro (.cells (flat pxc px)))
      rw [hm] at this
      refine this ?_
      show Row H _ ax (flat pxc px) px.length 4
      rw [← hax, hW.pl]
      exact Row.mk (hH2.none_of hro)
end Go.Proofs.YtkjkolacnpknoaaGreat
end

/-! CodecDecode, walked. Conditions: as each lemma states them. -/
section
namespace Go.Proofs.YtkjkolacnpknoaaGreat
open Go Go.Ab Go.RowKit
set_option linter.unusedSimpArgs false
set_option linter.unusedVariables false
set_option linter.unnecessarySimpa false

attribute [local simp] condK_true condK_false condK_not wpc_skip wpc_ret wpc_exit wpc_seq wpc_reg wpc_regD testA_bool wpc_cond wpc_block thenA_normal thenA_ret thenA_exit blockA_normal blockA_ret blockA_exit blockA_other endA_normal endA_ret ev_tmp' ev_const ev_func ev_global cv_int cv_bool cv_string cv_pointer cv_slice cv_agg cv_map put_some put_none wH_s setE_apply setE_env less_eq env_cons env_nil upd_upd upd_apply del_apply startA_eq cells_ag cells_sl one_sl cells_vs one_vs cells_ep one_ep cells_fn one_fn cells_int one_int cells_bool one_bool cells_string one_string cells_pointer one_pointer cells_slice one_slice cells_map one_map cells_agg resK_one resK_nil resK_two rvK_t rvK_c rvsK_nil rvsK_cons iseq_nil iseq_cons gdA_true gdA_false gdA_undef istep_free istep_guard istepV_free istepV_guard dseq_nil dseq_pu dseq_rd dseq_ef wpc_regT dtree_nil dtree_pu dtree_rd dtree_ef dtree_br chkAll_nil chkAll_cons andK_true pickK_true pickK_false pickK_tb pickK_fb bin2K_pl eqbK_eq eqbK_ne eqpK_eq eqpK_ne eqmK_eq eqmK_ne eqzK_eq eqzK_ne eqzK_sl eqzK_vs un1K_pl convK_int fillK_some fillA_cons fillA_nil cellsK_some needK_true needK_ok seeK_ep seeK_ptr oneK_agg oneK_one nilcK_ptr nilcK_ep fadrK_ptr fadrK_ep fldK_ag iadAK_ptr iadAK_ep iadSK_sl iadSK_vs extK_0 extK_1 extK_2 extK_3 lenK_pl lenK_sl lenK_vs lensK_pl boxK_some minmax1K_int storeK_ptr callvK_fn callvK_pl newsK_nil newsK_vs newsK_sl appK_nil appK_nil0 appK_sl appK_vs bnd1K_int bndK_none bndK_some slsK_vs slsK_nil slsK_sl0 slsK_sl slstrK_pl boolK_some eqsK_ag iop_eqs iop_sls iop_slstr seesK_some seesK_ro mapsK_some MAP_some findK_some findK_none plK_pl nmapK_none nmapK_some iop_mlook iop_mlen iop_mmk iop_mupd iop_mdel iop_mrng itK_none itK_some ptr0K_ptr iop_mnxt iop_ment it1K_some entK_some iop_mov iop_pick iop_bin iop_eqb iop_eqp iop_eqm iop_eqz iop_un capK_pl capK_sl capK_vs iop_cap iop_b2s b2sK_nil b2sK_sl b2sK_vs strK_some iop_idxv idxvK_ag atK_some apzK_nil iop_apz mksK_int iop_mks clrK_sl clrK_vs clrK_nil iop_clr iop_conv iop_build iop_load iop_nilc iop_fadr iop_fld iop_iadA iop_iadS iop_ext iop_mkf iop_len iop_lens iop_minmax iop_al iop_box iop_bsl iop_store iop_call iop_callv iop_app BIN_add BIN_sub BIN_mul BIN_and BIN_or BIN_xor BIN_andNot BIN_eql BIN_neq BIN_lss BIN_leq BIN_gtr BIN_geq BIN_quo BIN_rem BIN_shl BIN_shr BIN_sadd BIN_seql BIN_sneq BIN_slss BIN_sleq BIN_sgtr BIN_sgeq UN_neg UN_xor UN_not MM_nil MM_cons partsA argsA ptrA lessL eqL min2I slotN_int slotP_int slotI_int
attribute [local simp] rc_len rc_t4 rc_t1 rc_t2 rc_t3 rc_d1 rc_d2 rc_d3 rc_d4 rc_ag rc_one rc_eq

theorem dec_bad {o n : Bf} {b : List Int} {e : Int} (h : decM o b = (n, e)) (he : e ≠ 0) : n = zB := by
  unfold decM at h
  split at h
  · split at h
    · injection h with h1 h2; exact h1.symm
    · unfold decR at h
      split at h
      · injection h with h1 h2; exact h1.symm
      · split at h
        · injection h with h1 h2; exact h1.symm
        · split at h
          · injection h with h1 h2; exact h1.symm
          · split at h
            · injection h with h1 h2; exact absurd h2.symm he
            · injection h with h1 h2; exact h1.symm
  · injection h with h1 h2; exact h1.symm
set_option maxHeartbeats 2000000 in
theorem c3 {H : AH} {K : AV → AH → Prop} {p ab : AV} {o : Bf} {b : List Int} (ho : Rw H p (flat pxc o.px) o.px.length 4) (hb : Rw H ab (b.map v8) b.length 1) (bo : BB o) (hu : ∀ x ∈ b, U8 x) (hk : K (vb true) H) :
    @AC Tryz.prog 3 [.ag (bfc o.w o.h p), ab] H ⟨K⟩ := by
  have op := Rw.one ho
  have lb := fun k => Rw.lenK hb (k := k)
  have cab := Rw.cells hb
  have bl : ∀ (w h : Int) (a : AV), (bfc w h a).length = 3 := fun _ _ _ => rfl
  have t3 : ∀ (w h : Int) (a : AV), (bfc w h a).take 3 = bfc w h a := fun _ _ _ => rfl
  have d3 : ∀ (w h : Int) (a : AV), (bfc w h a).drop 3 = [] := fun _ _ _ => rfl
  refine AC_of (.forget ?_)
  refine call_c follows cf3_ok (by simp) ?_
  simp [bl]
  refine newK_of fun z hz => ?_
  have hsz : Sub H (upd H z (.cells (bfc o.w o.h p))) := (Sub.refl H).upd hz
  have kz : upd H z (.cells (bfc o.w o.h p)) z = some (.cells (bfc o.w o.h p)) := by simp [upd_apply]
  generalize upd H z (.cells (bfc o.w o.h p)) = H1 at *
  have ex : ∀ {H : AH} {K' : AV → AH → Prop}, K' (vb true) H → @AC Tryz.prog 6 [] H ⟨K'⟩ := fun h => c6 h
  simp [kz, bl, t3]
  refine c5 (ho.sub hsz) ?_
  by_cases h1 : 400 < o.px.length
  · have h1' : (400 : Int) < o.px.length := by omega
    simp [h1, h1']
    refine ex ?_
    simp
    exact ⟨H, hsz, hk⟩
  have h1' : ¬ (400 : Int) < o.px.length := by omega
  by_cases h2 : 4000 < b.length
  · have h2' : (4000 : Int) < b.length := by omega
    simp [h1, h1', lb, h2, h2']
    refine ex ?_
    simp
    exact ⟨H, hsz, hk⟩
  have h2' : ¬ (4000 : Int) < b.length := by omega
  simp [h1, h1', lb, h2, h2', kz, bl, t3, cab]
  refine c7 (ho.sub hsz) (hb.sub hsz) bo hu (by omega) (by omega) fun o1 H2 hr1 => ?_
  have hs2 := hsz.trans hr1.sub
  have kz2 := hr1.sub _ _ kz
  obtain ⟨⟨⟨gw, gh, gp⟩, e⟩, hE⟩ : ∃ x, decM o b = x := ⟨_, rfl⟩
  have hgl : gp.length ≤ 10000000 := by
    by_cases he : e = 0
    · subst he
      obtain ⟨hbo, _, _, _, _, _, hbn, _, ⟨hw, hh⟩, _⟩ := dec_inv hu bo hE
      have e1 := (bOk_iff.1 hbo).2.2.1
      have e2 := (bOk_iff.1 hbn).2.2.1
      simp only at hw hh e2
      rw [← hw, ← hh] at e2
      omega
    · have := dec_bad hE he
      injection this with _ _ h3
      rw [h3]; simp
  rw [hE] at hr1 ⊢
  simp only at hr1 ⊢
  have w1 : Rw H2 o1 (flat pxc gp) gp.length 4 := (hr1.rin (flat_len pxc_l _)).rd
  have c1 := Rw.cells w1
  have v1 := Rw.one w1
  simp [c1]
  have bz : (∀ x ∈ bfc gw gh o1, x.one = true) = True := eq_true (by simp [bfc, v1])
  refine newK_of fun y5 h5 => ?_
  have n5 : ¬ z = y5 := ne_of_free kz2 h5
  have hs5 : Sub H2 (upd H2 y5 (.cells (bfc gw gh o1))) := (Sub.refl H2).upd h5
  have k5 : upd H2 y5 (.cells (bfc gw gh o1)) y5 = some (.cells (bfc gw gh o1)) := by simp [upd_apply]
  simp [bz, bl, t3, d3, n5, kz2, cab]
  have kz3 := hs5 _ _ kz2
  have hs3 := hs2.trans hs5
  have w2 := w1.sub hs5
  generalize upd H2 y5 (.cells (bfc gw gh o1)) = H3 at *
  refine c8 (ho.sub hs3) (hb.sub hs3) bo hu (by omega) (by omega) fun o2 H4 hr2 => ?_
  rw [hE] at hr2 ⊢
  simp only at hr2 ⊢
  have x1 : Rw H4 o2 (flat pxc gp) gp.length 4 := (hr2.rin (flat_len pxc_l _)).rd
  have x2 := Rw.one x1
  have bz2 : (∀ x ∈ bfc gw gh o2, x.one = true) = True := eq_true (by simp [bfc, x2])
  have k54 := hr2.sub _ _ k5
  have hs4 := hs3.trans hr2.sub
  simp [x2]
  refine newK_of fun y7 h7 => ?_
  have n7 : ¬ y5 = y7 := ne_of_free k54 h7
  have hs6 : Sub H4 (upd H4 y7 (.cells (bfc gw gh o2))) := (Sub.refl H4).upd h7
  simp [bz2, bl, t3, d3, n7, k54]
  refine c9 ((w2.sub hr2.sub).sub hs6) (x1.sub hs6) (by omega) ?_
  simp
  refine ex ?_
  simp
  exact ⟨H, hs4.trans hs6, hk⟩
end Go.Proofs.YtkjkolacnpknoaaGreat
end

/-! CodecDecode: for every buffer and bytes the law returns true, and its arguments read as they did. No conditions: every input that the row admits. -/
section
namespace Go.Proofs.YtkjkolacnpknoaaGreat
open Go Go.Ab Go.RowKit Go.ChangeShapes Go.WideShapes Go.ChangeAt
set_option linter.unusedSimpArgs false
set_option linter.unusedVariables false
set_option linter.unnecessarySimpa false

attribute [local simp] condK_true condK_false condK_not wpc_skip wpc_ret wpc_exit wpc_seq wpc_reg wpc_regD testA_bool wpc_cond wpc_block thenA_normal thenA_ret thenA_exit blockA_normal blockA_ret blockA_exit blockA_other endA_normal endA_ret ev_tmp' ev_const ev_func ev_global cv_int cv_bool cv_string cv_pointer cv_slice cv_agg cv_map put_some put_none wH_s setE_apply setE_env less_eq env_cons env_nil upd_upd upd_apply del_apply startA_eq cells_ag cells_sl one_sl cells_vs one_vs cells_ep one_ep cells_fn one_fn cells_int one_int cells_bool one_bool cells_string one_string cells_pointer one_pointer cells_slice one_slice cells_map one_map cells_agg resK_one resK_nil resK_two rvK_t rvK_c rvsK_nil rvsK_cons iseq_nil iseq_cons gdA_true gdA_false gdA_undef istep_free istep_guard istepV_free istepV_guard dseq_nil dseq_pu dseq_rd dseq_ef wpc_regT dtree_nil dtree_pu dtree_rd dtree_ef dtree_br chkAll_nil chkAll_cons andK_true pickK_true pickK_false pickK_tb pickK_fb bin2K_pl eqbK_eq eqbK_ne eqpK_eq eqpK_ne eqmK_eq eqmK_ne eqzK_eq eqzK_ne eqzK_sl eqzK_vs un1K_pl convK_int fillK_some fillA_cons fillA_nil cellsK_some needK_true needK_ok seeK_ep seeK_ptr oneK_agg oneK_one nilcK_ptr nilcK_ep fadrK_ptr fadrK_ep fldK_ag iadAK_ptr iadAK_ep iadSK_sl iadSK_vs extK_0 extK_1 extK_2 extK_3 lenK_pl lenK_sl lenK_vs lensK_pl boxK_some minmax1K_int storeK_ptr callvK_fn callvK_pl newsK_nil newsK_vs newsK_sl appK_nil appK_nil0 appK_sl appK_vs bnd1K_int bndK_none bndK_some slsK_vs slsK_nil slsK_sl0 slsK_sl slstrK_pl boolK_some eqsK_ag iop_eqs iop_sls iop_slstr seesK_some seesK_ro mapsK_some MAP_some findK_some findK_none plK_pl nmapK_none nmapK_some iop_mlook iop_mlen iop_mmk iop_mupd iop_mdel iop_mrng itK_none itK_some ptr0K_ptr iop_mnxt iop_ment it1K_some entK_some iop_mov iop_pick iop_bin iop_eqb iop_eqp iop_eqm iop_eqz iop_un capK_pl capK_sl capK_vs iop_cap iop_b2s b2sK_nil b2sK_sl b2sK_vs strK_some iop_idxv idxvK_ag atK_some apzK_nil iop_apz mksK_int iop_mks clrK_sl clrK_vs clrK_nil iop_clr iop_conv iop_build iop_load iop_nilc iop_fadr iop_fld iop_iadA iop_iadS iop_ext iop_mkf iop_len iop_lens iop_minmax iop_al iop_box iop_bsl iop_store iop_call iop_callv iop_app BIN_add BIN_sub BIN_mul BIN_and BIN_or BIN_xor BIN_andNot BIN_eql BIN_neq BIN_lss BIN_leq BIN_gtr BIN_geq BIN_quo BIN_rem BIN_shl BIN_shr BIN_sadd BIN_seql BIN_sneq BIN_slss BIN_sleq BIN_sgtr BIN_sgeq UN_neg UN_xor UN_not MM_nil MM_cons partsA argsA ptrA lessL eqL min2I slotN_int slotP_int slotI_int

theorem law_CodecDecode (xs : List AV) (hf : FitsT [(true, bfL), (false, [.sl [.i .u8]])] xs) : ACall Tryz.prog 3 xs (fun _ => none) (fun v _ => v = vb true) := by
  obtain ⟨a, r, rfl, h1, hf⟩ := hf.cons
  obtain ⟨b, rfl, h2⟩ := hf.one
  obtain ⟨o, p, rfl, g1, g2⟩ := fitBf h1
  obtain ⟨bs, g3, g4, _⟩ := fitU (P := U8) (fun n h => u8_of h) (fitOne (ls := []) h2)
  exact c3 (g1 _) (g3 _) g2 g4 rfl
set_option maxRecDepth 100000

theorem codecDecode_lifted (os : Os) (started : os.Started) (H : Type) (enc : TypeId × Value → H) :
    ReturnsInHanded {} Tryz.checked os 3 .any (Rows.codecDecodeSpec.pre6 enc Tryz.prog Tryz.f3 Rows.codecDecodeRow.domain false) (Rows.codecDecodeSpec.post enc Tryz.prog Tryz.f3 false true false false) := by
  refine returnsInHanded_of_change_sized (C := Tryz.checked) own started (by kernel_rfl) Tryz.func3
    (ChangeSpec.witness6 (enc := enc) (C := Tryz.checked) false ⟨#[], #[.agg #[.int .i64 0, .int .i64 0, .slice none 0 0], .slice none 0 0], []⟩ 8 (by kernel_rfl) (by kernel_rfl) (by kernel_rfl) (by kernel_rfl)) ?_
  intro W base args ds gs before hval hW _ _ _
  refine law_contract (L := [(true, bfL), (false, [.sl [.i .u8]])]) laidOut (by kernel_rfl) rfl (fun ds hd => ?_) ⟨_, rfl, by kernel_rfl⟩ ?_ (fun xs hf => law_CodecDecode xs hf) W base args ds gs before hval hW
  · match ds, hd with
    | [d0, d1], _ => exact ⟨rfl, rfl, rfl⟩
  · exact of_decide_eq_true (by kernel_rfl)

theorem codecDecode_holds : Rows.CodecDecodeSaid :=
  OpenClaim.holds_of_wide 3 Tryz.f3 rfl rfl rfl rfl rfl rfl rfl ⟨rfl, rfl, rfl, rfl, rfl⟩ rfl rfl rfl rfl rfl (by kernel_rfl) Tryz.func3 (by kernel_rfl)
    (of_decide_eq_true (by kernel_rfl)) (by unfold Func.isWrapper; first | (rw [if_pos (by decide +kernel)]; kernel_rfl) | (rw [if_neg (by decide +kernel)]; exact ⟨rfl, rfl⟩))
    (fun os started H enc _ => codecDecode_lifted os started H enc)
end Go.Proofs.YtkjkolacnpknoaaGreat
end
