/-
  Several texts in one: C16; C18; C19; C20; C22. Conditions: as each lemma states them.
-/
import Derived.Test.YtkjkolacnpknoaaGreatMC
import Derived.Test.YtkjkolacnpknoaaGreatAbS
/-! Encode, walked. Conditions: as each lemma states them. -/
section
namespace Go.Proofs.YtkjkolacnpknoaaGreat
open Go Go.Ab Go.RowKit
set_option linter.unusedSimpArgs false
set_option linter.unusedVariables false
set_option linter.unnecessarySimpa false

attribute [local simp] condK_true condK_false condK_not wpc_skip wpc_ret wpc_exit wpc_seq wpc_reg wpc_regD testA_bool wpc_cond wpc_block thenA_normal thenA_ret thenA_exit blockA_normal blockA_ret blockA_exit blockA_other endA_normal endA_ret ev_tmp' ev_const ev_func ev_global cv_int cv_bool cv_string cv_pointer cv_slice cv_agg cv_map put_some put_none wH_s setE_apply setE_env less_eq env_cons env_nil upd_upd upd_apply del_apply startA_eq cells_ag cells_sl one_sl cells_vs one_vs cells_ep one_ep cells_fn one_fn cells_int one_int cells_bool one_bool cells_string one_string cells_pointer one_pointer cells_slice one_slice cells_map one_map cells_agg resK_one resK_nil resK_two rvK_t rvK_c rvsK_nil rvsK_cons iseq_nil iseq_cons gdA_true gdA_false gdA_undef istep_free istep_guard istepV_free istepV_guard dseq_nil dseq_pu dseq_rd dseq_ef wpc_regT dtree_nil dtree_pu dtree_rd dtree_ef dtree_br chkAll_nil chkAll_cons andK_true pickK_true pickK_false pickK_tb pickK_fb bin2K_pl eqbK_eq eqbK_ne eqpK_eq eqpK_ne eqmK_eq eqmK_ne eqzK_eq eqzK_ne eqzK_sl eqzK_vs un1K_pl convK_int fillK_some fillA_cons fillA_nil cellsK_some needK_true needK_ok seeK_ep seeK_ptr oneK_agg oneK_one nilcK_ptr nilcK_ep fadrK_ptr fadrK_ep fldK_ag iadAK_ptr iadAK_ep iadSK_sl iadSK_vs extK_0 extK_1 extK_2 extK_3 lenK_pl lenK_sl lenK_vs lensK_pl boxK_some minmax1K_int storeK_ptr callvK_fn callvK_pl newsK_nil newsK_vs newsK_sl appK_nil appK_nil0 appK_sl appK_vs bnd1K_int bndK_none bndK_some slsK_vs slsK_nil slsK_sl0 slsK_sl slstrK_pl boolK_some eqsK_ag iop_eqs iop_sls iop_slstr seesK_some seesK_ro mapsK_some MAP_some findK_some findK_none plK_pl nmapK_none nmapK_some iop_mlook iop_mlen iop_mmk iop_mupd iop_mdel iop_mrng itK_none itK_some ptr0K_ptr iop_mnxt iop_ment it1K_some entK_some iop_mov iop_pick iop_bin iop_eqb iop_eqp iop_eqm iop_eqz iop_un capK_pl capK_sl capK_vs iop_cap iop_b2s b2sK_nil b2sK_sl b2sK_vs strK_some iop_idxv idxvK_ag atK_some apzK_nil iop_apz mksK_int iop_mks clrK_sl clrK_vs clrK_nil iop_clr iop_conv iop_build iop_load iop_nilc iop_fadr iop_fld iop_iadA iop_iadS iop_ext iop_mkf iop_len iop_lens iop_minmax iop_al iop_box iop_bsl iop_store iop_call iop_callv iop_app BIN_add BIN_sub BIN_mul BIN_and BIN_or BIN_xor BIN_andNot BIN_eql BIN_neq BIN_lss BIN_leq BIN_gtr BIN_geq BIN_quo BIN_rem BIN_shl BIN_shr BIN_sadd BIN_seql BIN_sneq BIN_slss BIN_sleq BIN_sgtr BIN_sgeq UN_neg UN_xor UN_not MM_nil MM_cons partsA argsA ptrA lessL eqL min2I slotN_int slotP_int slotI_int
attribute [local simp] rc_len rc_t4 rc_t1 rc_t2 rc_t3 rc_d1 rc_d2 rc_d3 rc_d4 rc_ag rc_one rc_eq callvK_yl setAs_cons setAs_nil RQ_normal RQ_ret RQ_exit fd8 m8 sh8 or_nf xor_nf

/-- The view between two rounds. -/
def EJ (G0 : AH) (l : Nat) (ob : AO) (ri b11 N : Nat) (all : List Int) (o n : List Px) (ps : List Int) (G H : AH) : Prop :=
  ∃ done H1, all = done ++ ps ∧ H = upd H1 l ob ∧ H1 l = none ∧ Sub G0 G ∧ EI G H1 ri b11 N done (diffF o n done)
theorem upd_comm {H : AH} {a b : Nat} {x y : AO} (h : a ≠ b) : upd (upd H a x) b y = upd (upd H b y) a x := by
  funext j
  simp only [upd_apply]
  by_cases e : j = a
  · subst e; simp [h]
  · simp [e]
theorem EJ.posJ {G0 : AH} {l : Nat} {ob : AO} {ri b11 N q1 q2 : Nat} {all : List Int} {o n : List Px} {a : AV} {L : List R} {w : Int} (h1 : G0 q1 = some (.cells [a])) (h2 : G0 q2 = some (.cells [vi w])) (ha : Rr G0 a L) :
    PosJ q1 q2 a L w (EJ G0 l ob ri b11 N all o n) := by
  refine ⟨?_, ?_, ?_⟩
  · rintro ps G H ⟨done, H1, e1, rfl, e3, e4, e5⟩
    exact e5.sub.upd (by
      cases e : G l with
      | none => rfl
      | some x => rw [e5.sub _ _ e] at e3; cases e3)
  · rintro ps G H y ⟨done, H1, e1, rfl, e3, e4, e5⟩ hy X
    have hyl : y ≠ l := by rintro rfl; simp [upd_apply] at hy
    have hy1 : H1 y = none := by simpa [upd_apply, hyl] using hy
    refine ⟨done, upd H1 y X, e1, upd_comm (Ne.symm hyl), by simp [upd_apply, Ne.symm hyl, e3], ?_, e5.add hy1 X⟩
    refine e4.upd ?_
    cases e : G0 y with
    | none => rfl
    | some x => rw [e5.sub _ _ (e4 _ _ e)] at hy1; cases hy1
  · rintro ps G H ⟨done, H1, e1, rfl, e3, e4, e5⟩
    have hs : Sub G0 (upd H1 l ob) := (e4.trans e5.sub).upd (by
      cases e : G0 l with
      | none => rfl
      | some x => rw [e5.sub _ _ (e4 _ _ e)] at e3; cases e3)
    exact ⟨hs _ _ h1, hs _ _ h2, ha.sub hs⟩
theorem nodup_len : ∀ (N : Nat) (l : List Int), l.Nodup → (∀ x ∈ l, 0 ≤ x ∧ x < (N : Int)) → l.length ≤ N
  | 0, l, _, h => by
    cases l with
    | nil => exact Nat.le_refl _
    | cons x l => have := h x (by simp); omega
  | N + 1, l, hn, h => by
    by_cases hm : (N : Int) ∈ l
    · have ih := nodup_len N (l.erase (N : Int)) (hn.erase _) fun x hx => by
        rw [hn.mem_erase_iff] at hx
        have := h x hx.2
        have := hx.1
        omega
      rw [List.length_erase_of_mem hm] at ih
      omega
    · have ih := nodup_len N l hn fun x hx => by
        have h1 := h x hx
        have : x ≠ (N : Int) := fun e => hm (e ▸ hx)
        omega
      omega
def crd (r : R) : List Int := [r.x0, r.y0, r.x1, r.y1]
theorem rb_crd (r : R) : rb r = (crd r).flatMap le2 := by simp [rb, crd]
theorem crd_at (r : R) {j : Nat} (h : j < 4) : ∃ c, (rc r)[j]? = some (vi c) ∧ (crd r).take (j + 1) = (crd r).take j ++ [c] ∧ c ∈ crd r := by
  have : j = 0 ∨ j = 1 ∨ j = 2 ∨ j = 3 := by omega
  rcases this with rfl | rfl | rfl | rfl
  · exact ⟨r.x0, rfl, rfl, by simp [crd]⟩
  · exact ⟨r.y0, rfl, rfl, by simp [crd]⟩
  · exact ⟨r.x1, rfl, rfl, by simp [crd]⟩
  · exact ⟨r.y1, rfl, rfl, by simp [crd]⟩
theorem le2_len (n : Int) : (le2 n).length = 2 := rfl
theorem le2s_len : ∀ l : List Int, (l.flatMap le2).length = 2 * l.length
  | [] => rfl
  | r :: l => by rw [List.flatMap_cons, List.length_append, le2_len, le2s_len l, List.length_cons]; omega
theorem bfc_one {w h : Int} {a : AV} (ha : a.one = true) : (bfc w h a).all AV.one = true := by simp [bfc, ha]
set_option maxHeartbeats 4000000 in
set_option maxRecDepth 20000 in
theorem c10 {H : AH} {K : AV → AH → Prop} {ap an ad : AV} {o n : Bf} {dam : List R} (ho : Rw H ap (flat pxc o.px) o.px.length 4) (hn : Rw H an (flat pxc n.px) n.px.length 4) (hd : Rr H ad dam)
    (bo : BB o) (bn : BB n) (lo : o.px.length ≤ 10000000) (ln : n.px.length ≤ 10000000) (ld : dam.length ≤ 1000)
    (hk : ∀ out H', Row H H' out ((encM o n dam).1.map v8) (encM o n dam).1.length 1 → K (.tp [out, vi (encM o n dam).2]) H') :
    @AC Tryz.prog 10 [.ag (bfc o.w o.h ap), .ag (bfc n.w n.h an), ad] H ⟨K⟩ := by
  have oap := Rw.one ho
  have oan := Rw.one hn
  have cap := Rw.cells ho
  have can := Rw.cells hn
  have cad := Rw.cells hd
  have hnil : ∀ e : Int, encM o n dam = ([], e) → K (.tp [vnil, vi e]) H := fun e he => by
    have := hk vnil H (by rw [he]; exact Row.nil H 1)
    rw [he] at this
    exact this
  refine AC_of (.forget ?_)
  refine call_c follows cf10_ok (by simp) ?_
  have bl1 : (bfc o.w o.h ap).length = 3 := rfl
  have bl2 : (bfc n.w n.h an).length = 3 := rfl
  simp [bl1, bl2]
  refine newK_of fun z3 hz3 => ?_
  have hs3 : Sub H (upd H z3 (.cells (bfc o.w o.h ap))) := (Sub.refl H).upd hz3
  have k3 : upd H z3 (.cells (bfc o.w o.h ap)) z3 = some (.cells (bfc o.w o.h ap)) := by simp [upd_apply]
  simp [bl1, bl2]
  generalize upd H z3 (.cells (bfc o.w o.h ap)) = Ha at *
  refine newK_of fun z4 hz4 => ?_
  have hs4 : Sub H (upd Ha z4 (.cells (bfc n.w n.h an))) := hs3.trans ((Sub.refl Ha).upd hz4)
  have k4 : upd Ha z4 (.cells (bfc n.w n.h an)) z4 = some (.cells (bfc n.w n.h an)) := by simp [upd_apply]
  have k3' : upd Ha z4 (.cells (bfc n.w n.h an)) z3 = some (.cells (bfc o.w o.h ap)) := ((Sub.refl Ha).upd hz4) _ _ k3
  generalize upd Ha z4 (.cells (bfc n.w n.h an)) = H2 at *
  have t3 : (bfc o.w o.h ap).take 3 = bfc o.w o.h ap := rfl
  have t4 : (bfc n.w n.h an).take 3 = bfc n.w n.h an := rfl
  have d0 : ∀ (w h : Int) (a : AV), (bfc w h a).take 1 = [vi w] := fun _ _ _ => rfl
  have d1 : ∀ (w h : Int) (a : AV), ((bfc w h a).drop 1).take 1 = [vi h] := fun _ _ _ => rfl
  have d1' : ∀ (w h : Int) (a : AV), (bfc w h a).tail.take 1 = [vi h] := fun _ _ _ => rfl
  have d2 : ∀ (w h : Int) (a : AV), ((bfc w h a).drop 2).take 1 = [a] := fun _ _ _ => rfl
  have bl : ∀ (w h : Int) (a : AV), (bfc w h a).length = 3 := fun _ _ _ => rfl
  simp [k3', k4, t3, t4, bl]
  refine c15 (ho.sub hs4) lo ?_
  have hm0 : encM o n dam = if (bOk o && bOk n) = true then (if o.w = n.w ∧ o.h = n.h then
    (if 256 < (modF 2 dam [fr o.w o.h]).length then ([], 5) else if covB o n (modF 2 dam [fr o.w o.h]) = true then (encL o n (modF 2 dam [fr o.w o.h]), 0) else ([], 2))
  else ([], 2)) else ([], 15) := rfl
  cases hv1 : bufOk o.w o.h o.px with
  | false =>
    rw [if_neg (by rw [show bOk o = false from hv1]; simp)] at hm0
    simp
    exact ⟨H, hs4, hnil _ hm0⟩
  | true =>
  simp [k3', k4, t3, t4, bl]
  refine c15 (hn.sub hs4) ln ?_
  cases hv2 : bufOk n.w n.h n.px with
  | false =>
    rw [if_neg (by rw [show bOk n = false from hv2]; simp)] at hm0
    simp
    exact ⟨H, hs4, hnil _ hm0⟩
  | true =>
  rw [if_pos (by rw [show bOk o = true from hv1, show bOk n = true from hv2]; rfl)] at hm0
  by_cases hwh : o.w = n.w ∧ o.h = n.h
  case neg =>
    rw [if_neg hwh] at hm0
    have hc : o.w ≠ n.w ∨ (o.w = n.w ∧ o.h ≠ n.h) := by omega
    rcases hc with hc | ⟨hc, hc2⟩
    · simp [k3', k4, bl, d0, d1, d1', hc]
      exact ⟨H, hs4, hnil _ hm0⟩
    · simp [k3', k4, bl, d0, d1, d1', hc, hc2]
      exact ⟨H, hs4, hnil _ hm0⟩
  case pos =>
  rw [if_pos hwh] at hm0
  obtain ⟨bw, bh, blen, bpx⟩ := bufOk_iff.1 hv1
  obtain ⟨bw2, bh2, blen2, bpx2⟩ := bufOk_iff.1 hv2
  have hll : o.px.length = n.px.length := by rw [← hwh.1, ← hwh.2] at blen2; omega
  have hN : o.px.length ≤ 65536 := by
    have : o.w * o.h ≤ 256 * 256 := Int.mul_le_mul (by omega) (by omega) (by omega) (by omega)
    omega
  have hw' : n.w = o.w := hwh.1.symm
  have hh' : n.h = o.h := hwh.2.symm
  simp [k3', k4, bl, d0, d1, d1', hw', hh', t3, cad]
  refine (c17 oap).ac ?_
  simp
  refine newK_of fun z5 hz5 => ?_
  have hs5 : Sub H (upd H2 z5 (.cells (rc (fr o.w o.h)))) := hs4.trans ((Sub.refl H2).upd hz5)
  have hs25 : Sub H2 (upd H2 z5 (.cells (rc (fr o.w o.h)))) := (Sub.refl H2).upd hz5
  have hr5 : Rr (upd H2 z5 (.cells (rc (fr o.w o.h)))) (.sl z5 0 1 4 true) [fr o.w o.h] := Rw.sl rfl (by simp [upd_apply, flat])
  simp
  generalize upd H2 z5 (.cells (rc (fr o.w o.h))) = H3 at *
  obtain ⟨L, hL⟩ : ∃ L, modF 2 dam [fr o.w o.h] = L := ⟨_, rfl⟩
  have hcut := mod_cut bw bh dam
  rw [hL] at hm0 hcut
  refine c31 (hd.sub hs5) hr5 (by omega) (by simp) (fun h256 out5 H4 hro => ?_) fun h256 => ?_
  case refine_2 =>
    rw [hL] at h256
    rw [if_pos h256] at hm0
    simp
    exact ⟨H, hs5, hnil _ hm0⟩
  rw [hL] at h256 hro
  rw [if_neg (by omega)] at hm0
  have hrL := (hro.rin (flat_len rc_l _)).rd
  have cL := Rw.cells hrL
  have oL := Rw.one hrL
  have qL := fun k => Rw.lenK hrL (k := k)
  have hs24 : Sub H2 H4 := hs25.trans hro.sub
  have k33 := hs24 _ _ k3'
  have k44 := hs24 _ _ k4
  have lap := fun k => Rw.lenK ho (k := k)
  have hl0 : (0 : Int) ≤ o.px.length := by omega
  have hmk : o.px.length ≤ 140737488355328 := by omega
  simp [cL, k33, k44, bl, d2, lap, hmk]
  refine newK_of fun ri hri => ?_
  have ek : (List.replicate o.px.length [vb false]).flatten = insC [] o.px.length := insC_nil _
  have er : (List.replicate o.px.length (vb false)) = insC [] o.px.length := by
    rw [← ek]
    generalize o.px.length = N
    induction N with
    | zero => rfl
    | succ n ih => rw [List.replicate_succ, List.replicate_succ, List.flatten_cons, ih]; rfl
  simp
  refine newK_of fun b10 h10 => ?_
  simp
  refine newK_of fun b11 h11 => ?_
  obtain ⟨n10, n10', h10H⟩ := upd_none'.1 h10
  obtain ⟨n11, n11', h11a⟩ := upd_none'.1 h11
  obtain ⟨n12, n12', h11H⟩ := upd_none'.1 h11a
  have hE0 : EI (upd H4 b10 (.cells [.sl ri 0 o.px.length 1 true])) (upd (upd (upd H4 ri (.cells (insC [] o.px.length))) b10 (.cells [.sl ri 0 o.px.length 1 true])) b11 (.cells [vnil])) ri b11 o.px.length [] [] := by
    refine ⟨?_, by simp [upd_apply, n10', n10, n12', n12], by simp [upd_apply, n10', n10, hri], by simp [upd_apply, n11, n11', h11H], Ne.symm n12, vnil, by simp [upd_apply], .inl ⟨rfl, rfl⟩⟩
    exact (((Sub.refl H4).upd hri).cong).upd (by simp [upd_apply, n11, n11', h11H])
  have k10 : upd H4 b10 (.cells [.sl ri 0 o.px.length 1 true]) b10 = some (.cells [.sl ri 0 o.px.length 1 true]) := by simp [upd_apply]
  have hs40 : Sub H4 (upd H4 b10 (.cells [.sl ri 0 o.px.length 1 true])) := (Sub.refl H4).upd h10H
  have k3c : upd (upd (upd H4 ri (.cells (insC [] o.px.length))) b10 (.cells [.sl ri 0 o.px.length 1 true])) b11 (.cells [vnil]) z3 = some (.cells (bfc o.w o.h ap)) := hE0.sub _ _ (hs40 _ _ k33)
  rw [er]
  generalize hGg : upd H4 b10 (.cells [.sl ri 0 o.px.length 1 true]) = G0 at *
  generalize upd (upd (upd H4 ri (.cells (insC [] o.px.length))) b10 (.cells [.sl ri 0 o.px.length 1 true])) b11 (.cells [vnil]) = Hc at *
  simp [k3c, bl, d0, cL]
  refine c20 cL fun q1 q2 hq1 hq2 h12 => ?_
  have hE1 := (hE0.add hq1 (.cells [out5])).add (y := q2) (by simp [upd_apply, Ne.symm h12, hq2]) (.cells [vi o.w])
  have kq1 : upd (upd G0 q1 (.cells [out5])) q2 (.cells [vi o.w]) q1 = some (.cells [out5]) := by simp [upd_apply, h12]
  have kq2 : upd (upd G0 q1 (.cells [out5])) q2 (.cells [vi o.w]) q2 = some (.cells [vi o.w]) := by simp [upd_apply]
  have hG01 : Sub G0 (upd (upd G0 q1 (.cells [out5])) q2 (.cells [vi o.w])) := by
    have f1 : G0 q1 = none := by
      cases e : G0 q1 with
      | none => rfl
      | some x => rw [hE0.sub _ _ e] at hq1; cases hq1
    have f2 : G0 q2 = none := by
      cases e : G0 q2 with
      | none => rfl
      | some x => rw [hE0.sub _ _ e] at hq2; cases hq2
    exact ((Sub.refl G0).upd f1).upd f2
  have hs41 : Sub H4 (upd (upd G0 q1 (.cells [out5])) q2 (.cells [vi o.w])) := hs40.trans hG01
  have k10' := hG01 _ _ k10
  simp
  generalize upd (upd G0 q1 (.cells [out5])) q2 (.cells [vi o.w]) = G1 at *
  generalize upd (upd Hc q1 (.cells [out5])) q2 (.cells [vi o.w]) = Hq at *
  have hrL1 := hrL.sub hs41
  have hfit : ∀ p ∈ posF L o.w, 0 ≤ p ∧ p < o.px.length := fun p hp => by have := posF_in hcut.fr hp; omega
  have hplen := nodup_len _ _ (posF_nodup hcut.fr hcut.ap) hfit
  have hsH1 : Sub H G1 := (hs5.trans hro.sub).trans hs41
  refine wpc_rng (g := 47) (caps := [pA q1, pA q2]) (by simp) good_pos fun l ob hl0 hkd hY => ?_
  have hl0 : Hq l = none := hl0
  refine c47 (G0 := G1) (a := out5) (l := L) (w := o.w) (by omega) (by omega) (fun r hr => by have := hcut.fr r hr; have := rempty_ok r (hcut.ne r hr); omega)
    (EJ G1 l (ob none) ri b11 o.px.length (posF L o.w) o.px n.px) (fun _ => False) (EJ.posJ kq1 kq2 hrL1) ?_ ⟨[], Hq, rfl, rfl, hl0, Sub.refl _, hE1⟩ ?_ (fun _ h => h.elim)
  · rintro p ps G H' K' hG ⟨done, H1, e1, rfl, e3, e4, e5⟩ hkt _
    refine hY [vi p] H1 K' rfl e3 ?_
    have hpm := hfit p (by rw [e1]; simp)
    obtain ⟨k, rfl⟩ : ∃ k : Nat, p = k := ⟨p.toNat, by omega⟩
    have hkN : k < o.px.length := by omega
    have hkN' : (k : Int) < o.px.length := by omega
    have hs1 := e4.trans e5.sub
    have y10 := hs1 _ _ k10'
    have hm := e5.mark hpm.1 hpm.2
    have ht : ((k : Nat) : Int).toNat = k := by omega
    rw [ht] at hm
    have hk1 : k + 1 ≤ o.px.length := by omega
    have hm' : EI G (upd H1 ri (.cells (List.take k (insC done o.px.length) ++ vb true :: List.drop (k + 1) (insC done o.px.length)))) ri b11 o.px.length (done ++ [(k : Int)]) (diffF o.px n.px done) := by simpa using hm
    obtain ⟨ov, hov, _⟩ := e5.row
    have nb : ¬ b11 = ri := fun h => e5.ne h.symm
    have kG3 := e4 _ _ (hs41 _ _ k33)
    have kG4 := e4 _ _ (hs41 _ _ k44)
    have n3r : ¬ z3 = ri := by rintro rfl; rw [e5.gri] at kG3; cases kG3
    have n4r : ¬ z4 = ri := by rintro rfl; rw [e5.gri] at kG4; cases kG4
    have y3 := e5.sub _ _ kG3
    have y4 := e5.sub _ _ kG4
    have hHG : Sub H G := hsH1.trans e4
    obtain ⟨pa, hpa1, hpa2⟩ := fsee pxc_l ho hkN
    obtain ⟨pb, hpb1, hpb2⟩ := fsee pxc_l hn (by omega : k < n.px.length)
    have hga : getP o.px (k : Int) = o.px[k] := getP_at (by omega) (by simpa using hkN)
    have hgb : getP n.px (k : Int) = n.px[k] := getP_at (by omega) (by simp; omega)
    have hba := bo _ (List.getElem_mem hkN)
    have hbb := bn _ (List.getElem_mem (by omega : k < n.px.length))
    have hsn := diff_snoc o.px n.px done (k : Int)
    rw [hga, hgb] at hsn
    generalize o.px[k] = xa at *
    generalize n.px[k] = xb at *
    have hHm := hHG.trans hm'.sub
    have hov' : upd H1 ri (.cells (List.take k (insC done o.px.length) ++ vb true :: List.drop (k + 1) (insC done o.px.length))) b11 = some (.cells [ov]) := by simp [upd_apply, nb, hov]
    have y3' := hm'.sub _ _ kG3
    have y4' := hm'.sub _ _ kG4
    have dlen : (diffF o.px n.px done).length ≤ 100000000 := by
      rw [diff_len]
      have h1 := congrArg List.length e1
      rw [List.length_append] at h1
      omega
    simp [y10, e5.rc, insC_len, hkN, hk1, nb, hov, n3r, n4r, y3, y4, bl, d2, hpa1, hpb1, hpa2 _ hHm, hpb2 _ hHm]
    refine (c21 xa hba).ac ?_
    simp [nb, hov, n3r, n4r, y3, y4, bl, d2, hpa1, hpb1, hpa2 _ hHm, hpb2 _ hHm]
    refine (c21 xb hbb).ac ?_
    simp [nb, hov, n3r, n4r, y3, y4, bl, d2, hpa1, hpb1, hpa2 _ hHm, hpb2 _ hHm]
    refine newK_of fun y hy => ?_
    generalize upd H1 ri (.cells (List.take k (insC done o.px.length) ++ vb true :: List.drop (k + 1) (insC done o.px.length))) = H2' at *
    generalize hX : xorI (packF xa) (packF xb) = X at *
    have hsy : Sub H2' (upd H2' y (.cells [v32 X])) := (Sub.refl H2').upd hy
    have hovy := hsy _ _ hov'
    generalize hx4 : AV.sl y 0 1 1 true = x4
    have hnw : ∀ k : Nat → List AV → Prop, @NEWS (upd H2' y (.cells [v32 X])) x4 1 ⟨k⟩ = k 1 [v32 X] := by intro k; rw [← hx4]; simp
    have nby : ¬ b11 = y := ne_of_free hov' hy
    simp [hnw, nby, hov']
    refine hm'.app hov' hsy dlen fun r H3' hb' hE' => ?_
    simp [hb']
    refine freeL_of fun hl => ?_
    refine hkt _ ⟨done ++ [(k : Int)], _, by rw [e1]; simp, rfl, hl, e4, ?_⟩
    rw [hsn]
    exact hE'
  · rintro G H' hG ⟨done, H1, e1, rfl, e3, e4, e5⟩
    rw [List.append_nil] at e1
    subst e1
    refine .inl ⟨H1, rfl, e3, ?_⟩
    have hs1 := e4.trans e5.sub
    have y3 := hs1 _ _ (hs41 _ _ k33)
    have y4 := hs1 _ _ (hs41 _ _ k44)
    have y10 := hs1 _ _ k10'
    have hHH := hsH1.trans hs1
    simp [y3, y4, bl, d2, lap]
    obtain ⟨P, hP⟩ : ∃ P, posF L o.w = P := ⟨_, rfl⟩
    have hcovd : covB o n L = true ↔ ∀ k : Nat, k < o.px.length → (k : Int) ∈ P ∨ o.px[k]? = n.px[k]? := by rw [cov_iff, hP]
    rw [hP] at e5
    refine wpc_loop (fun s => ∃ (i : Nat), s.n = 134 ∧ s.H = H1 ∧ s.t 3 = pA z3 ∧ s.t 4 = pA z4 ∧ s.t 8 = out5 ∧ s.t 10 = pA b10 ∧ s.t 11 = pA b11 ∧ s.t 80 = ap ∧ s.t 81 = vi o.px.length ∧ s.t 82 = vi i ∧ i ≤ o.px.length ∧ ∀ j : Nat, j < i → (j : Int) ∈ P ∨ o.px[j]? = n.px[j]?) (fun s => o.px.length - slotN (s.t 82)) ?_ ?_
    · exact FgK.same ⟨0, by simp, by simp, by simp, by simp, by simp, by simp, by simp, by simp, by simp, by simp, by omega, by intro j hj; omega⟩
    rintro s ⟨i, hg, hH, f3, f4, f8, f10, f11, f80, f81, f82, hi, hall⟩
    by_cases hlt : i < o.px.length
    · have wi := IntWalk.i64_in ((i : Int) + 1) (by omega)
      have hltn : i < n.px.length := by omega
      obtain ⟨pa, hpa1, hpa2⟩ := fsee pxc_l ho hlt
      obtain ⟨pb, hpb1, hpb2⟩ := fsee pxc_l hn hltn
      have hi1 : i + 1 ≤ o.px.length := by omega
      have hdg : ((insC P o.px.length).drop i).take 1 = [vb (decide ((i : Int) ∈ P))] := by
        have hl2 : i < (insC P o.px.length).length := by rw [insC_len]; exact hlt
        rw [List.drop_eq_getElem_cons hl2, List.take_succ_cons, List.take_zero]
        have := insC_get (ps := P) hlt
        rw [List.getElem?_eq_getElem hl2] at this
        injection this with this
        rw [this]
      have hnc : ¬ (i : Int) ∈ P → o.px[i] ≠ n.px[i] → covB o n L = false := fun h1 h2 => by
        cases hc : covB o n L with
        | false => rfl
        | true =>
          rcases hcovd.1 hc i hlt with h | h
          · exact absurd h h1
          · rw [List.getElem?_eq_getElem hlt, List.getElem?_eq_getElem hltn] at h
            exact absurd (Option.some.inj h) h2
      have hok : o.px[i] = n.px[i] → o.px[i]? = n.px[i]? := fun h => by rw [List.getElem?_eq_getElem hlt, List.getElem?_eq_getElem hltn, h]
      generalize o.px[i] = xa at *
      generalize n.px[i] = xb at *
      simp (disch := omega) [hg, hH, f3, f4, f8, f10, f11, f80, f81, f82, hlt, hpa1, hpa2 _ hHH, pxc_l, pxc_one, pxc_t4]
      refine newK_of fun y hy => ?_
      have hsy : ∀ X, Sub H1 (upd H1 y X) := fun X => (Sub.refl H1).upd hy
      have nby : ¬ b10 = y := ne_of_free y10 hy
      have nry : ¬ ri = y := ne_of_free e5.rc hy
      have n4y : ¬ z4 = y := ne_of_free y4 hy
      by_cases hin : (i : Int) ∈ P
      · simp (disch := omega) [pxc_l, pxc_one, pxc_t4, nby, nry, n4y, y10, e5.rc, insC_len, hlt, hi1, hdg, hin, wi]
        refine FgK.of H1 (hsy _) ⟨⟨i + 1, by simp, by simp, by simp [f3], by simp [f4], by simp [f8], by simp [f10], by simp [f11], by simp [f80], by simp [f81], by simp, by omega, ?_⟩, by simp [f82]; omega⟩
        intro j hj
        by_cases hje : j < i
        · exact hall j hje
        · have : j = i := by omega
          subst this
          exact .inl hin
      · by_cases hxx : xa = xb
        · simp (disch := omega) [pxc_l, pxc_one, pxc_t4, nby, nry, n4y, y10, e5.rc, insC_len, hlt, hi1, hdg, hin, y4, bl, d2, hpb1, hpb2 _ (hHH.trans (hsy _)), pxc_eqL, hxx, wi]
          refine FgK.of H1 (hsy _) ⟨⟨i + 1, by simp, by simp, by simp [f3], by simp [f4], by simp [f8], by simp [f10], by simp [f11], by simp [f80], by simp [f81], by simp, by omega, ?_⟩, by simp [f82]; omega⟩
          intro j hj
          by_cases hje : j < i
          · exact hall j hje
          · have : j = i := by omega
            subst this
            exact .inr (hok hxx)
        · have hcf := hnc hin hxx
          rw [hcf, if_neg (by simp)] at hm0
          simp (disch := omega) [pxc_l, pxc_one, pxc_t4, nby, nry, n4y, y10, e5.rc, insC_len, hlt, hi1, hdg, hin, y4, bl, d2, hpb1, hpb2 _ (hHH.trans (hsy _)), pxc_eqL, hxx]
          exact ⟨H, hHH.trans (hsy _), hnil _ hm0⟩
    · have hie : i = o.px.length := by omega
      subst hie
      have hct : covB o n L = true := hcovd.2 hall
      rw [hct, if_pos rfl] at hm0
      have hLn : IntKind.u32.wrap (L.length : Int) = L.length := u32_wrap ⟨by omega, by omega⟩
      simp (disch := omega) [hg, hH, f3, f4, f8, f10, f11, f80, f81, f82, qL, hLn]
      refine c32 (k := 2) (Row.nil H1 1) rfl (by omega) (by decide) fun o1 H5 hrow1 => ?_
      rw [leB2] at hrow1
      simp [qL]
      have hLl : L.length ≤ 256 := by omega
      have hcr : ∀ r ∈ L, ∀ c ∈ crd r, 0 ≤ c ∧ c ≤ 256 := fun r hr c hc => by
        have h1 := hcut.fr r hr
        have h2 := rempty_ok r (hcut.ne r hr)
        simp [crd] at hc
        omega
      have hrow1' : Row H1 H5 o1 ((le2 (L.length : Int) ++ (L.take 0).flatMap rb).map v8) (2 + 8 * 0) 1 := by simpa [le2] using hrow1
      refine wpc_loop (fun s => ∃ (i : Nat) (ow : AV), s.n = 134 ∧ s.t 8 = out5 ∧ s.t 11 = pA b11 ∧ s.t 15 = ow ∧ s.t 106 = out5 ∧ s.t 107 = vi L.length ∧ s.t 108 = vi i ∧ i ≤ L.length ∧ Row H1 s.H ow ((le2 (L.length : Int) ++ (L.take i).flatMap rb).map v8) (2 + 8 * i) 1) (fun s => L.length - slotN (s.t 108)) ?_ ?_
      · exact FgK.same ⟨0, o1, by simp, by simp, by simp, by simp, by simp, by simp, by simp, by omega, hrow1'⟩
      rintro s3 ⟨i, ow, hg3, g8, g11, g15, g106, g107, g108, hiL, hrow2⟩
      generalize hHeq3 : s3.H = Hs at *
      by_cases hltL : i < L.length
      · have wi := IntWalk.i64_in ((i : Int) + 1) (by omega)
        obtain ⟨p, hp1, hp2⟩ := fsee rc_l (hrL1.sub (hs1.trans hrow2.sub)) hltL
        have et := take_snoc' hltL
        have hcr' := hcr _ (List.getElem_mem hltL)
        generalize L[i] = r at *
        have hrr : AV.ag [vi r.x0, vi r.y0, vi r.x1, vi r.y1] = .ag (rc r) := rfl
        have e0 : (rc r).take 1 = [vi r.x0] := rfl
        have e1' : ((rc r).drop 1).take 1 = [vi r.y0] := rfl
        have e2' : ((rc r).drop 2).take 1 = [vi r.x1] := rfl
        have e3' : ((rc r).drop 3).take 1 = [vi r.y1] := rfl
        simp (disch := omega) [hg3, hHeq3, g8, g11, g15, g106, g107, g108, hltL, hp1, hp2 _ (Sub.refl _)]
        refine newK_of fun y hy => ?_
        have hsy : ∀ X, Sub Hs (upd Hs y X) := fun X => (Sub.refl Hs).upd hy
        simp
        have hrow2' : Row H1 Hs ow ((le2 (L.length : Int) ++ (L.take i).flatMap rb ++ ((crd r).take 0).flatMap le2).map v8) (2 + 8 * i + 2 * 0) 1 := by simpa using hrow2
        refine wpc_loop (fun s => ∃ (j : Nat) (ow2 : AV), s.n = 134 ∧ s.t 8 = out5 ∧ s.t 11 = pA b11 ∧ s.t 15 = ow2 ∧ s.t 106 = out5 ∧ s.t 107 = vi L.length ∧ s.t 108 = vi i ∧ s.t 120 = .ag (rc r) ∧ s.t 121 = vi j ∧ j ≤ 4 ∧ Row H1 s.H ow2 ((le2 (L.length : Int) ++ (L.take i).flatMap rb ++ ((crd r).take j).flatMap le2).map v8) (2 + 8 * i + 2 * j) 1) (fun s => 4 - slotN (s.t 121)) ?_ ?_
        · exact FgK.of Hs (hsy _) ⟨0, ow, by simp, by simp, by simp, by simp, by simp, by simp, by simp, by simp, by simp, by omega, hrow2'⟩
        rintro s4 ⟨j, ow2, hg4, j8, j11, j15, j106, j107, j108, j120, j121, hj4, hrow4⟩
        generalize hHeq4 : s4.H = Hs4 at *
        by_cases hjlt : j < 4
        · have wj := IntWalk.i64_in ((j : Int) + 1) (by omega)
          obtain ⟨c, hc1, hc2, hc3⟩ := crd_at r hjlt
          have hcc := hcr' c hc3
          have wc := u32_wrap (n := c) ⟨by omega, by omega⟩
          have hjlt' : (j : Int) < 4 := by omega
          have hlen4 : ((le2 (L.length : Int) ++ (L.take i).flatMap rb ++ ((crd r).take j).flatMap le2).map v8).length = 2 + 8 * i + 2 * j := by
            rw [List.length_map, List.length_append, List.length_append, rbs_len, le2s_len, le2_len, List.length_take, List.length_take]
            have : (crd r).length = 4 := rfl
            omega
          simp (disch := omega) [hg4, hHeq4, j8, j11, j15, j106, j107, j108, j120, j121, hjlt', hjlt, hc1, wc]
          refine c32 (k := 2) hrow4 hlen4 (by omega) (by decide) fun ow3 H6 hrow6 => ?_
          rw [leB2] at hrow6
          simp [wj]
          refine FgK.same ⟨⟨j + 1, ow3, by simp, by simp [j8], by simp [j11], by simp, by simp [j106], by simp [j107], by simp [j108], by simp [j120], by simp, by omega, ?_⟩, by simp [j121]; omega⟩
          have ee : (le2 (L.length : Int) ++ (L.take i).flatMap rb ++ ((crd r).take (j + 1)).flatMap le2).map v8 = (le2 (L.length : Int) ++ (L.take i).flatMap rb ++ ((crd r).take j).flatMap le2).map v8 ++ [c % 256, c / 256 % 256].map v8 := by
            rw [hc2]; simp [le2]
          rw [ee]
          exact hrow6
        · have hj : j = 4 := by omega
          subst hj
          simp (disch := omega) [hg4, hHeq4, j8, j11, j15, j106, j107, j108, j120, j121, wi]
          refine FgK.same ⟨⟨i + 1, ow2, by simp, by simp, by simp, by simp, by simp, by simp, by simp, by omega, ?_⟩, by simp [g108]; omega⟩
          have ee : le2 (L.length : Int) ++ (L.take (i + 1)).flatMap rb = le2 (L.length : Int) ++ (L.take i).flatMap rb ++ ((crd r).take 4).flatMap le2 := by
            rw [et, List.flatMap_append]
            simp [rb_crd, crd]
          rw [ee]
          exact hrow4
      · have hiL' : i = L.length := by omega
        subst hiL'
        rw [List.take_length] at hrow2
        obtain ⟨ov, hov, _⟩ := e5.row
        have hRw := (e5.rw hov).sub hrow2.sub
        have cov := Rw.cells hRw
        have hov' := hrow2.sub _ _ hov
        simp (disch := omega) [hg3, hHeq3, g8, g11, g15, g106, g107, g108, hov', cov]
        have hdl : (diffF o.px n.px P).length ≤ 1000000 := by rw [diff_len, ← hP]; omega
        refine c14 hRw hdl fun o6 H6 hrow6 => ?_
        have hRw6 := (hrow6.rin (by simp)).rd
        have hn6 := fun k => Rw.news hRw6 (k := k)
        simp [g15, hn6]
        have hrl := runs_len (diffF o.px n.px P)
        have hel := encR_len (runsF (diffF o.px n.px P))
        rcases hrow2 with ⟨h0, _⟩ | ⟨r, rfl, hr, rfl⟩
        · omega
        refine sl_app hr hrow6.sub (by simp) (by
          rw [List.length_map, List.length_append, rbs_len, le2_len]; omega) (by omega) fun r' H' hr' hsr' => ?_
        have hrow7 := Row.mk (cs := (le2 (L.length : Int) ++ L.flatMap rb).map v8 ++ (encR (runsF (diffF o.px n.px P))).map v8) (n := 2 + 8 * L.length + (encR (runsF (diffF o.px n.px P))).length) (sz := 1) hr'
        obtain ⟨H8, h8, hrow8⟩ := hrow7.out hHH
        have hb : (le2 (L.length : Int) ++ L.flatMap rb).map v8 ++ (encR (runsF (diffF o.px n.px P))).map v8 = (encL o n L).map v8 := by
          unfold encL hdr
          rw [hP]
          simp only [List.map_append]
        have hbl : 2 + 8 * L.length + (encR (runsF (diffF o.px n.px P))).length = (encL o n L).length := by
          unfold encL
          rw [hP, List.length_append, hdr_len]
        rw [hb, hbl] at hrow8
        have hfin := hk (.sl r' 0 (2 + 8 * L.length + (encR (runsF (diffF o.px n.px P))).length) 1 false) H8 (by rw [hm0, hbl]; exact hrow8)
        rw [hm0] at hfin
        simp
        exact ⟨H8, h8.trans hsr', hfin⟩
end Go.Proofs.YtkjkolacnpknoaaGreat
end

/-! Decode, walked. Conditions: as each lemma states them. -/
section
namespace Go.Proofs.YtkjkolacnpknoaaGreat
open Go Go.Ab Go.RowKit
set_option linter.unusedSimpArgs false
set_option linter.unusedVariables false
set_option linter.unnecessarySimpa false

attribute [local simp] condK_true condK_false condK_not wpc_skip wpc_ret wpc_exit wpc_seq wpc_reg wpc_regD testA_bool wpc_cond wpc_block thenA_normal thenA_ret thenA_exit blockA_normal blockA_ret blockA_exit blockA_other endA_normal endA_ret ev_tmp' ev_const ev_func ev_global cv_int cv_bool cv_string cv_pointer cv_slice cv_agg cv_map put_some put_none wH_s setE_apply setE_env less_eq env_cons env_nil upd_upd upd_apply del_apply startA_eq cells_ag cells_sl one_sl cells_vs one_vs cells_ep one_ep cells_fn one_fn cells_int one_int cells_bool one_bool cells_string one_string cells_pointer one_pointer cells_slice one_slice cells_map one_map cells_agg resK_one resK_nil resK_two rvK_t rvK_c rvsK_nil rvsK_cons iseq_nil iseq_cons gdA_true gdA_false gdA_undef istep_free istep_guard istepV_free istepV_guard dseq_nil dseq_pu dseq_rd dseq_ef wpc_regT dtree_nil dtree_pu dtree_rd dtree_ef dtree_br chkAll_nil chkAll_cons andK_true pickK_true pickK_false pickK_tb pickK_fb bin2K_pl eqbK_eq eqbK_ne eqpK_eq eqpK_ne eqmK_eq eqmK_ne eqzK_eq eqzK_ne eqzK_sl eqzK_vs un1K_pl convK_int fillK_some fillA_cons fillA_nil cellsK_some needK_true needK_ok seeK_ep seeK_ptr oneK_agg oneK_one nilcK_ptr nilcK_ep fadrK_ptr fadrK_ep fldK_ag iadAK_ptr iadAK_ep iadSK_sl iadSK_vs extK_0 extK_1 extK_2 extK_3 lenK_pl lenK_sl lenK_vs lensK_pl boxK_some minmax1K_int storeK_ptr callvK_fn callvK_pl newsK_nil newsK_vs newsK_sl appK_nil appK_nil0 appK_sl appK_vs bnd1K_int bndK_none bndK_some slsK_vs slsK_nil slsK_sl0 slsK_sl slstrK_pl boolK_some eqsK_ag iop_eqs iop_sls iop_slstr seesK_some seesK_ro mapsK_some MAP_some findK_some findK_none plK_pl nmapK_none nmapK_some iop_mlook iop_mlen iop_mmk iop_mupd iop_mdel iop_mrng itK_none itK_some ptr0K_ptr iop_mnxt iop_ment it1K_some entK_some iop_mov iop_pick iop_bin iop_eqb iop_eqp iop_eqm iop_eqz iop_un capK_pl capK_sl capK_vs iop_cap iop_b2s b2sK_nil b2sK_sl b2sK_vs strK_some iop_idxv idxvK_ag atK_some apzK_nil iop_apz mksK_int iop_mks clrK_sl clrK_vs clrK_nil iop_clr iop_conv iop_build iop_load iop_nilc iop_fadr iop_fld iop_iadA iop_iadS iop_ext iop_mkf iop_len iop_lens iop_minmax iop_al iop_box iop_bsl iop_store iop_call iop_callv iop_app BIN_add BIN_sub BIN_mul BIN_and BIN_or BIN_xor BIN_andNot BIN_eql BIN_neq BIN_lss BIN_leq BIN_gtr BIN_geq BIN_quo BIN_rem BIN_shl BIN_shr BIN_sadd BIN_seql BIN_sneq BIN_slss BIN_sleq BIN_sgtr BIN_sgeq UN_neg UN_xor UN_not MM_nil MM_cons partsA argsA ptrA lessL eqL min2I slotN_int slotP_int slotI_int
attribute [local simp] rc_len rc_t4 rc_t1 rc_t2 rc_t3 rc_d1 rc_d2 rc_d3 rc_d4 rc_ag rc_one rc_eq callvK_yl setAs_cons setAs_nil RQ_normal RQ_ret RQ_exit fd8 m8 sh8 or_nf xor_nf

theorem bfz : [vi 0, vi 0, vnil] = bfc 0 0 vnil := rfl
theorem upd_comm' {H : AH} {a b : Nat} {x y : AO} (h : a ≠ b) : upd (upd H a x) b y = upd (upd H b y) a x := by
  funext j
  simp only [upd_apply]
  by_cases e : j = a
  · subst e; simp [h]
  · simp [e]
/-- What is held between two rounds of Decode: the pixels written so far, and the counter. -/
structure DI (G H : AH) (ro b12 : Nat) (px : List Px) (k : Int) : Prop where
  sub : Sub G H
  fro : H ro = some (.cells (flat pxc px))
  gro : G ro = none
  f12 : H b12 = some (.cells [vi k])
  g12 : G b12 = none
  ne : ro ≠ b12
theorem DI.add {G H : AH} {ro b12 : Nat} {px : List Px} {k : Int} (h : DI G H ro b12 px k) {y : Nat} (hy : H y = none) (X : AO) : DI (upd G y X) (upd H y X) ro b12 px k := by
  have n1 := ne_of_free h.fro hy
  have n2 := ne_of_free h.f12 hy
  exact ⟨h.sub.cong, by simp [upd_apply, n1, h.fro], by simp [upd_apply, n1, h.gro], by simp [upd_apply, n2, h.f12], by simp [upd_apply, n2, h.g12], h.ne⟩
theorem pxs_set (l : List Px) (p : Px) : ∀ (i : Nat), i < l.length → (flat pxc l).take (i * 4) ++ pxc p ++ (flat pxc l).drop (i * 4 + 4) = flat pxc (l.set i p) := by
  induction l with
  | nil => intro i h; simp at h
  | cons x l ih =>
    intro i h
    have e : flat pxc (x :: l) = pxc x ++ flat pxc l := by simp [flat]
    cases i with
    | zero =>
      have e2 : flat pxc ((x :: l).set 0 p) = pxc p ++ flat pxc l := by simp [flat]
      rw [e, e2]
      simp [pxc]
    | succ i =>
      have e2 : flat pxc ((x :: l).set (i + 1) p) = pxc x ++ flat pxc (l.set i p) := by simp [flat]
      have ih := ih i (by simpa using h)
      rw [e, e2, ← ih]
      have e3 : (i + 1) * 4 = 4 + i * 4 := by omega
      have e4 : (i + 1) * 4 + 4 = 4 + (i * 4 + 4) := by omega
      rw [e4, e3, List.take_append, List.drop_append, List.take_of_length_le (by rw [pxc_l]; omega), List.drop_of_length_le (by rw [pxc_l]; omega), pxc_l]
      have f1 : 4 + i * 4 - 4 = i * 4 := by omega
      have f2 : 4 + (i * 4 + 4) - 4 = i * 4 + 4 := by omega
      rw [f1, f2]
      simp
def DJ (G0 : AH) (l : Nat) (ob : AO) (ro b12 : Nat) (N : Nat) (o : List Px) (D : List Int) (all : Option (List Px)) (ps : List Int) (G H : AH) : Prop :=
  ∃ (k : Nat) (px : List Px) (H1 : AH), applyF o ps (D.drop k) px = all ∧ k + ps.length = D.length ∧ px.length = N ∧ (∀ i ∈ ps, 0 ≤ i ∧ i < N) ∧ H = upd H1 l ob ∧ H1 l = none ∧ Sub G0 G ∧ DI G H1 ro b12 px k
theorem DJ.posJ {G0 : AH} {l : Nat} {ob : AO} {ro b12 N q1 q2 : Nat} {o : List Px} {D : List Int} {all : Option (List Px)} {a : AV} {L : List R} {w : Int} (h1 : G0 q1 = some (.cells [a])) (h2 : G0 q2 = some (.cells [vi w])) (ha : Rr G0 a L) :
    PosJ q1 q2 a L w (DJ G0 l ob ro b12 N o D all) := by
  refine ⟨?_, ?_, ?_⟩
  · rintro ps G H ⟨k, px, H1, e1, e2, e2', e2'', rfl, e3, e4, e5⟩
    exact e5.sub.upd (by
      cases e : G l with
      | none => rfl
      | some x => rw [e5.sub _ _ e] at e3; cases e3)
  · rintro ps G H y ⟨k, px, H1, e1, e2, e2', e2'', rfl, e3, e4, e5⟩ hy X
    have hyl : y ≠ l := by rintro rfl; simp [upd_apply] at hy
    have hy1 : H1 y = none := by simpa [upd_apply, hyl] using hy
    refine ⟨k, px, upd H1 y X, e1, e2, e2', e2'', upd_comm' (Ne.symm hyl), by simp [upd_apply, Ne.symm hyl, e3], ?_, e5.add hy1 X⟩
    refine e4.upd ?_
    cases e : G0 y with
    | none => rfl
    | some x => rw [e5.sub _ _ (e4 _ _ e)] at hy1; cases hy1
  · rintro ps G H ⟨k, px, H1, e1, e2, e2', e2'', rfl, e3, e4, e5⟩
    have hs : Sub G0 (upd H1 l ob) := (e4.trans e5.sub).upd (by
      cases e : G0 l with
      | none => rfl
      | some x => rw [e5.sub _ _ (e4 _ _ e)] at e3; cases e3)
    exact ⟨hs _ _ h1, hs _ _ h2, ha.sub hs⟩
theorem rok_u32 : ∀ (rs : List (Nat × Int)) (la si : Int), ROk la si rs → ∀ r ∈ rs, U32 r.2
  | [], _, _, _, r, hr => by cases hr
  | (n, v) :: rs, la, si, h, r, hr => by
    rcases List.mem_cons.1 hr with rfl | hr
    · exact h.2.2.1
    · exact rok_u32 rs _ _ h.2.2.2.2 r hr
theorem exp_u32 {rs : List (Nat × Int)} {la si : Int} (h : ROk la si rs) : ∀ v ∈ expR rs, U32 v := by
  intro v hv
  unfold expR at hv
  obtain ⟨r, hr, hv⟩ := List.mem_flatMap.1 hv
  obtain rfl := List.eq_of_mem_replicate hv
  exact rok_u32 rs _ _ h r hr
set_option maxHeartbeats 4000000 in
set_option maxRecDepth 20000 in
theorem c7 {H : AH} {K : AV → AH → Prop} {ap ab : AV} {o : Bf} {b : List Int} (ho : Rw H ap (flat pxc o.px) o.px.length 4) (hb : Rw H ab (b.map v8) b.length 1)
    (bo : BB o) (hu : ∀ x ∈ b, U8 x) (lo : o.px.length ≤ 10000000) (lb : b.length ≤ 1000000)
    (hk : ∀ out H', Row H H' out (flat pxc (decM o b).1.px) (decM o b).1.px.length 4 → K (.tp [.ag (bfc (decM o b).1.w (decM o b).1.h out), vi (decM o b).2]) H') :
    @AC Tryz.prog 7 [.ag (bfc o.w o.h ap), ab] H ⟨K⟩ := by
  have oap := Rw.one ho
  have cap := Rw.cells ho
  have cab := Rw.cells hb
  have hz : ∀ e : Int, decM o b = (zB, e) → K (.tp [.ag (bfc 0 0 vnil), vi e]) H := fun e he => by
    have := hk vnil H (by rw [he]; exact Row.nil H 4)
    rw [he] at this
    exact this
  refine AC_of (.forget ?_)
  refine call_c follows cf7_ok (by simp) ?_
  have bl : ∀ (w h : Int) (a : AV), (bfc w h a).length = 3 := fun _ _ _ => rfl
  have d3 : ∀ (w h : Int) (a : AV), (bfc w h a).drop 3 = [] := fun _ _ _ => rfl
  have bz1 : (∀ x ∈ bfc 0 0 vnil, x.one = true) = True := eq_true (by simp [bfc])
  have t3 : ∀ (w h : Int) (a : AV), (bfc w h a).take 3 = bfc w h a := fun _ _ _ => rfl
  have d0 : ∀ (w h : Int) (a : AV), (bfc w h a).take 1 = [vi w] := fun _ _ _ => rfl
  have d1 : ∀ (w h : Int) (a : AV), ((bfc w h a).drop 1).take 1 = [vi h] := fun _ _ _ => rfl
  have d1' : ∀ (w h : Int) (a : AV), (bfc w h a).tail.take 1 = [vi h] := fun _ _ _ => rfl
  have d2 : ∀ (w h : Int) (a : AV), ((bfc w h a).drop 2).take 1 = [a] := fun _ _ _ => rfl
  simp [bl]
  refine newK_of fun z2 hz2 => ?_
  have hs2 : Sub H (upd H z2 (.cells (bfc o.w o.h ap))) := (Sub.refl H).upd hz2
  have k2 : upd H z2 (.cells (bfc o.w o.h ap)) z2 = some (.cells (bfc o.w o.h ap)) := by simp [upd_apply]
  simp
  generalize upd H z2 (.cells (bfc o.w o.h ap)) = Ha at *
  refine newK_of fun b4 h4 => ?_
  simp
  refine newK_of fun b5 h5 => ?_
  obtain ⟨n54, n54', h5a⟩ := upd_none'.1 h5
  have hs5 : Sub H (upd (upd Ha b4 (.cells (bfc 0 0 vnil))) b5 (.cells [vi 0])) := (hs2.trans ((Sub.refl Ha).upd h4)).trans ((Sub.refl _).upd (by simp [upd_apply, n54, h5a]))
  have k4 : upd (upd Ha b4 (.cells (bfc 0 0 vnil))) b5 (.cells [vi 0]) b4 = some (.cells (bfc 0 0 vnil)) := by simp [upd_apply, n54']
  have k5 : upd (upd Ha b4 (.cells (bfc 0 0 vnil))) b5 (.cells [vi 0]) b5 = some (.cells [vi 0]) := by simp [upd_apply]
  have k2 : upd (upd Ha b4 (.cells (bfc 0 0 vnil))) b5 (.cells [vi 0]) z2 = some (.cells (bfc o.w o.h ap)) := ((Sub.refl _).upd (by simp [upd_apply, n54, h5a]) : Sub (upd Ha b4 (.cells (bfc 0 0 vnil))) _) _ _ (((Sub.refl Ha).upd h4) _ _ k2)
  have hH4 : H b4 = none := hs2.none_of h4
  have hH5 : H b5 = none := hs2.none_of h5a
  rw [bfz]
  generalize upd (upd Ha b4 (.cells (bfc 0 0 vnil))) b5 (.cells [vi 0]) = Hb at *
  simp [k2, t3, bl]
  refine c15 (ho.sub hs5) lo ?_
  have hm : decM o b = if bOk o = true then (if (rectsM o.w o.h b).2 ≠ 0 then (zB, (rectsM o.w o.h b).2) else decR o (rectsM o.w o.h b).1.1 (rectsM o.w o.h b).1.2) else (zB, 15) := rfl
  have fin : ∀ (Hx : AH) (e : Int), Sub Hb Hx → decM o b = (zB, e) → Sub H (upd (upd Hx b4 (.cells (bfc 0 0 vnil))) b5 (.cells [vi e])) ∧ K (.tp [.ag (bfc 0 0 vnil), vi e]) H := fun Hx e hx he => ⟨((hs5.trans hx).upd hH4).upd hH5, hz e he⟩
  cases hv : bufOk o.w o.h o.px with
  | false =>
    rw [if_neg (by rw [show bOk o = false from hv]; simp)] at hm
    simp [k4, k5, n54, n54', bl, t3, bz1]
    exact ⟨H, fin Hb 15 (Sub.refl _) hm⟩
  | true =>
  rw [if_pos (show bOk o = true from hv)] at hm
  obtain ⟨bw, bh, blen, bpx⟩ := bufOk_iff.1 hv
  have hN : o.px.length ≤ 65536 := by
    have : o.w * o.h ≤ 256 * 256 := Int.mul_le_mul (by omega) (by omega) (by omega) (by omega)
    omega
  simp [k2, t3, bl, cab]
  refine (c17 oap).ac ?_
  simp [cab]
  refine c16 (hb.sub hs5) hu lb bw bh (fun L rest oL oR H1 hr hrowL hR => ?_) fun e he hne => ?_
  case refine_2 =>
    rw [if_pos (by rw [he]; exact hne), he] at hm
    simp [k4, k5, n54, n54', bl, t3, bz1, hne]
    exact ⟨H, fin Hb e (Sub.refl _) hm⟩
  rw [if_neg (by rw [hr]; simp), hr] at hm
  simp only at hm
  obtain ⟨ri1, ri2, ri3, ri4, _⟩ := rects_inv hu hr
  have hs1 : Sub Hb H1 := hrowL.sub
  have hrL := (hrowL.rin (flat_len rc_l _)).rd
  have cL := Rw.cells hrL
  have cR := Rw.cells hR
  simp [cL, cR]
  refine c18 hrL ri4 ri2 ?_
  have har := posF_len (w := o.w) (canon_nemp ri2)
  have hfit : ∀ p ∈ posF L o.w, 0 ≤ p ∧ p < o.px.length := fun p hp => by have := posF_in ri3 hp; omega
  have hplen := nodup_len _ _ (posF_nodup ri3 (canon_apart ri2)) hfit
  have hrest : ∀ x ∈ rest, U8 x := fun x hx => hu x (by rw [ri1]; exact List.mem_append_right _ hx)
  have hrl : rest.length ≤ 1000000 := by
    have := congrArg List.length ri1
    rw [List.length_append] at this
    omega
  simp [cR]
  refine c19 (hR.sub hs1) hrl hrest (by omega) (by omega) fun oD H2 hrowD => ?_
  unfold decR at hm
  generalize hU : unrF (areaF L) rest 0 255 [] = U at *
  obtain ⟨D, e⟩ := U
  simp only at hm hrowD
  have hrD := (hrowD.rin (by simp)).rd
  have cD := Rw.cells hrD
  have oD1 := Rw.one hrD
  have lD := fun k => Rw.lenK hrD (k := k)
  have hs2' : Sub Hb H2 := hs1.trans hrowD.sub
  simp [cD]
  refine newK_of fun b10 h10 => ?_
  have hs3 : Sub Hb (upd H2 b10 (.cells [oD])) := hs2'.trans ((Sub.refl H2).upd h10)
  have hs23 : Sub H2 (upd H2 b10 (.cells [oD])) := (Sub.refl H2).upd h10
  have k10 : upd H2 b10 (.cells [oD]) b10 = some (.cells [oD]) := by simp [upd_apply]
  have k43 := hs3 _ _ k4
  have k53 := hs3 _ _ k5
  have k23 := hs3 _ _ k2
  simp [oD1, cD]
  generalize upd H2 b10 (.cells [oD]) = H3 at *
  by_cases e5 : e = 5
  · rw [if_pos e5] at hm
    simp [e5, k43, k53, n54, n54', bl, t3, bz1]
    exact ⟨H, fin H3 3 hs3 hm⟩
  rw [if_neg e5] at hm
  by_cases e0 : e = 0
  case neg =>
    rw [if_pos e0] at hm
    simp [e5, e0, k43, k53, n54, n54', bl, t3, bz1]
    exact ⟨H, fin H3 e hs3 hm⟩
  rw [if_neg (by simpa using e0)] at hm
  have lD3 := lD
  by_cases hsh : (D.length : Int) < areaF L
  · rw [if_pos hsh] at hm
    simp [e5, e0, k10, lD, hsh, k43, k53, n54, n54', bl, t3, bz1]
    exact ⟨H, fin H3 4 hs3 hm⟩
  rw [if_neg hsh] at hm
  simp [e5, e0, k10, lD, hsh, k23, d0, d1, d1', d2, bl]
  have hH3 : Sub H H3 := hs5.trans hs3
  refine newK_of fun z59 h59 => ?_
  have hs59 : Sub H3 (upd H3 z59 (.cells [])) := (Sub.refl H3).upd h59
  have k2z := hs59 _ _ k23
  have hnA := fun k => Rw.news (ho.sub (hH3.trans hs59)) (k := k)
  generalize hx5 : AV.sl z59 0 0 4 true = x5
  have n2z : ¬ z2 = z59 := ne_of_free k23 h59
  simp [hnA, k2z, bl, d0, d1, d1', d2, k23, n2z]
  rw [← hx5]
  have hNz : (flat pxc o.px).length = o.px.length * 4 := flat_len pxc_l _
  have hfo : (flat pxc o.px).all AV.one = true := by
    rw [List.all_eq_true]
    intro v hv
    obtain ⟨l, hl, hv⟩ := List.mem_flatten.1 (show v ∈ (o.px.map pxc).flatten from hv)
    obtain ⟨p, _, rfl⟩ := List.mem_map.1 hl
    simp [pxc] at hv
    rcases hv with rfl | rfl | rfl | rfl <;> rfl
  refine sl_app (H0 := H3) h59 (Sub.refl _) hfo rfl (by omega) fun ro H4 hro hs4 => ?_
  have hfro : H4 ro = some (.cells (flat pxc o.px)) := hs4 _ _ (by simp [upd_apply])
  have hs34 : Sub H3 H4 := ((Sub.refl H3).upd hro).trans hs4
  have k24 := hs34 _ _ k23
  simp [k24, bl, d0, d1, d1', d2]
  refine newK_of fun b11 h11 => ?_
  have n11 : ¬ ro = b11 := ne_of_free hfro h11
  have h113 : H3 b11 = none := hs34.none_of h11
  have n2b : ¬ z2 = b11 := ne_of_free k24 h11
  simp [n2b, k24, bl, d0, d1, d1', d2, d3]
  refine newK_of fun b12 h12 => ?_
  obtain ⟨n12, n12', h12a⟩ := upd_none'.1 h12
  have n13 : ¬ ro = b12 := ne_of_free hfro h12a
  obtain ⟨bz, hbz⟩ : ∃ bz, bfc o.w o.h (.sl ro 0 o.px.length 4 false) = bz := ⟨_, rfl⟩
  have hbz' : [vi o.w, vi o.h, .sl ro 0 o.px.length 4 false] = bz := hbz
  have hE0 : DI (upd H3 b11 (.cells bz)) (upd (upd H4 b11 (.cells bz)) b12 (.cells [vi 0])) ro b12 o.px 0 := by
    refine ⟨hs34.cong.upd (by simp [upd_apply, n12, hs34.none_of h12a]), by simp [upd_apply, n11, n13, hfro], by simp [upd_apply, n11, hro], by simp [upd_apply], by simp [upd_apply, n12, hs34.none_of h12a], n13⟩
  have hsG : Sub H3 (upd H3 b11 (.cells bz)) := (Sub.refl H3).upd h113
  have k11 : upd H3 b11 (.cells bz) b11 = some (.cells bz) := by simp [upd_apply]
  rw [hbz']
  have n2c : ¬ z2 = b12 := ne_of_free k24 h12a
  have hrLH := hrL.sub (hrowD.sub.trans hs23)
  simp [n2b, n2c, k24, bl, d0, d1, d1', d2, cL]
  generalize hGg : upd H3 b11 (.cells bz) = G0 at *
  generalize upd (upd H4 b11 (.cells bz)) b12 (.cells [vi 0]) = Hc at *
  refine c20 cL fun q1 q2 hq1 hq2 hq12 => ?_
  have hE1 := (hE0.add hq1 (.cells [oL])).add (y := q2) (by simp [upd_apply, Ne.symm hq12, hq2]) (.cells [vi o.w])
  have kq1 : upd (upd G0 q1 (.cells [oL])) q2 (.cells [vi o.w]) q1 = some (.cells [oL]) := by simp [upd_apply, hq12]
  have kq2 : upd (upd G0 q1 (.cells [oL])) q2 (.cells [vi o.w]) q2 = some (.cells [vi o.w]) := by simp [upd_apply]
  have hG01 : Sub G0 (upd (upd G0 q1 (.cells [oL])) q2 (.cells [vi o.w])) := ((Sub.refl G0).upd (hE0.sub.none_of hq1)).upd (hE0.sub.none_of hq2)
  have hs31 : Sub H3 (upd (upd G0 q1 (.cells [oL])) q2 (.cells [vi o.w])) := hsG.trans hG01
  have k11' := hG01 _ _ k11
  simp
  generalize upd (upd G0 q1 (.cells [oL])) q2 (.cells [vi o.w]) = G1 at *
  generalize upd (upd Hc q1 (.cells [oL])) q2 (.cells [vi o.w]) = Hq at *
  have hrL1 := hrLH.sub hs31
  have hHG1 := hH3.trans hs31
  have hrD1 := (hrD.sub hs23).sub hs31
  have g2 := hs31 _ _ k23
  have g10 := hs31 _ _ k10
  have g4 := hs31 _ _ k43
  have g5 := hs31 _ _ k53
  have hDl : D.length = (posF L o.w).length := by
    have h1 := unr_len (areaF L) rest 0 255 [] D (by simp; omega) (by rw [hU, e0]) hrest
    omega
  have hDu : ∀ v ∈ D, U32 v := by
    obtain ⟨rs, q1', q2', q3'⟩ := unr_inv _ _ _ _ _ _ hrest (by rw [hU, e0])
    rw [List.nil_append] at q3'
    rw [q3']
    exact exp_u32 q2'
  obtain ⟨all, hall⟩ : ∃ all, applyF o.px (posF L o.w) D o.px = all := ⟨_, rfl⟩
  rw [hall] at hm
  refine wpc_rng (g := 47) (caps := [pA q1, pA q2]) (by simp) good_pos fun l ob hl0 hkd hY => ?_
  have hl0 : Hq l = none := hl0
  refine c47 (G0 := G1) (a := oL) (l := L) (w := o.w) (by omega) (by omega) (fun r hr => by have := ri3 r hr; have := rempty_ok r (canon_nemp ri2 r hr); omega)
    (DJ G1 l (ob none) ro b12 o.px.length o.px D all) (fun H' => all = none ∧ ∃ H1, H' = upd H1 l (ob (some .ret)) ∧ H1 l = none ∧ Sub H H1 ∧ H1 b4 = some (.cells (bfc 0 0 vnil)) ∧ H1 b5 = some (.cells [vi 15])) (DJ.posJ kq1 kq2 hrL1) ?_
    ⟨0, o.px, Hq, by simpa using hall, by simpa using hDl.symm, rfl, hfit, rfl, hl0, Sub.refl _, hE1⟩ ?_ ?_
  · rintro p ps G H' K' hG ⟨k, px, H1', e1, e2, e2', e2'', rfl, e3, e4, e5'⟩ hkt hkf
    refine hY [vi p] H1' K' rfl e3 ?_
    have hpm := e2'' p (by simp)
    obtain ⟨j, rfl⟩ : ∃ j : Nat, p = j := ⟨p.toNat, by omega⟩
    have hjN : j < o.px.length := by omega
    have hkD : k < D.length := by simp at e2; omega
    have hs1' := e4.trans e5'.sub
    have y2 := hs1' _ _ g2
    have y10 := hs1' _ _ g10
    have y11 := hs1' _ _ k11'
    have y4 := hs1' _ _ g4
    have y5 := hs1' _ _ g5
    have hHH := hHG1.trans hs1'
    obtain ⟨pa, hpa1, hpa2⟩ := fsee pxc_l ho hjN
    obtain ⟨pd, hpd1, hpd2⟩ := Rw.at1 hrD1 hkD
    have hga : getP o.px (j : Int) = o.px[j] := getP_at (by omega) (by simpa using hjN)
    have hba := bo _ (List.getElem_mem hjN)
    have hud := hDu _ (List.getElem_mem hkD)
    rw [List.drop_eq_getElem_cons hkD, applyF, hga] at e1
    generalize o.px[j] = xa at *
    generalize D[k] = v at *
    have wk := IntWalk.i64_in ((k : Int) + 1) (by omega)
    simp [y2, bl, d0, d1, d1', d2, hpa1, hpa2 _ hHH, y10, e5'.f12, hpd1, hpd2 _ hs1']
    refine (c21 xa hba).ac ?_
    simp [y2, bl, d0, d1, d1', d2, hpa1, hpa2 _ hHH, y10, e5'.f12, hpd1, hpd2 _ hs1', wk]
    generalize hX : xorI (packF xa) v = X at *
    have hXu : U32 X := by rw [← hX]; exact xor_u32 _ _
    refine (c22 X hXu).ac ?_
    have hub := unpF_b8 X
    have ne12 : ¬ b12 = ro := fun h => e5'.ne h.symm
    have kro : ¬ ro = b12 := e5'.ne
    have hDI2 : DI G (upd H1' b12 (.cells [vi ((k : Int) + 1)])) ro b12 px ((k : Int) + 1) := ⟨e5'.sub.upd e5'.g12, by simp [upd_apply, kro, e5'.fro], e5'.gro, by simp [upd_apply], e5'.g12, e5'.ne⟩
    have hs12 := e4.trans hDI2.sub
    generalize upd H1' b12 (.cells [vi ((k : Int) + 1)]) = H2' at *
    generalize unpF X = up at *
    simp
    refine newK_of fun y hy => ?_
    have nry : ¬ ro = y := ne_of_free hDI2.fro hy
    have n12y : ¬ b12 = y := ne_of_free hDI2.f12 hy
    have z11 := hs12 _ _ k11'
    have z4 := hs12 _ _ g4
    have z5 := hs12 _ _ g5
    have n11y : ¬ b11 = y := ne_of_free z11 hy
    have n4y : ¬ b4 = y := ne_of_free z4 hy
    have n5y : ¬ b5 = y := ne_of_free z5 hy
    simp [pxc_l, pxc_one, pxc_t4]
    refine (c21 up hub).ac ?_
    by_cases hpx : packF up = X
    · rw [if_pos hpx] at e1
      have hjp : j * 4 + 4 ≤ (flat pxc px).length := by rw [flat_len pxc_l]; omega
      have hset := pxs_set px up j (by omega)
      have hjN2 : (j : Int) < o.px.length := by omega
      simp (disch := omega) [hpx, n11y, z11, ← hbz, d2, bl, nry, hDI2.fro, pxc_l, pxc_one, pxc_t4, hjN, hjp]
      have hsetr : List.take (j * 4) (flat pxc px) ++ (pxc up ++ List.drop (j * 4 + 4) (flat pxc px)) = flat pxc (px.set j up) := by rw [← hset]; simp
      rw [hsetr]
      refine freeL_of fun hl => ?_
      have hkk : ((k : Int) + 1) = ((k + 1 : Nat) : Int) := by omega
      rw [hkk] at hDI2
      refine hkt _ ⟨k + 1, px.set j up, _, by simpa using e1, by simp at e2; omega, by rw [List.length_set]; exact e2', fun i hi => e2'' i (by simp [hi]), rfl, hl, e4, ?_⟩
      exact ⟨(hDI2.sub.upd (hDI2.sub.none_of hy)).upd hDI2.gro, by simp [upd_apply], hDI2.gro, by simp [upd_apply, ne12, n12y, hDI2.f12], hDI2.g12, hDI2.ne⟩
    · rw [if_neg hpx] at e1
      simp [hpx, n4y, n5y, z4, z5, n54, n54', bl, t3, bz1, d3]
      refine freeL_of fun hl => ?_
      refine hkf _ ⟨e1.symm, _, rfl, hl, ?_, by simp [upd_apply, n54'], by simp [upd_apply]⟩
      exact (((((hHG1.trans e4).trans hDI2.sub).upd (((hHG1.trans e4).trans hDI2.sub).none_of hy))).upd hH4).upd hH5
  · rintro G H' hG ⟨k, px, H1', e1, e2, e2', e2'', rfl, e3, e4, e5'⟩
    refine .inl ⟨H1', rfl, e3, ?_⟩
    rw [applyF] at e1
    rw [← e1] at hm
    have hs1' := e4.trans e5'.sub
    have y11 := hs1' _ _ k11'
    have y4 := hs1' _ _ g4
    have y5 := hs1' _ _ g5
    have bz2 : (∀ x ∈ bfc o.w o.h (.sl ro 0 o.px.length 4 false), x.one = true) = True := eq_true (by simp [bfc])
    have hHro : H ro = none := hH3.none_of hro
    have hm2 : decM o b = (⟨o.w, o.h, px⟩, 0) := hm
    have hrowf := Row.mk (H0 := H) (cs := flat pxc px) (n := px.length) (sz := 4) hHro
    have hfin := hk (.sl ro 0 px.length 4 false) _ (by rw [hm2]; exact hrowf)
    rw [hm2, e2'] at hfin
    have hsub : Sub H H1' := hHG1.trans hs1'
    have nr4 : ¬ ro = b4 := by rintro rfl; exact absurd (e4 _ _ g4) (by rw [e5'.gro]; simp)
    have nr5 : ¬ ro = b5 := by rintro rfl; exact absurd (e4 _ _ g5) (by rw [e5'.gro]; simp)
    simp [y11, y4, y5, ← hbz, bl, t3, d3, n54, n54', bz1, bz2]
    refine ⟨upd H ro (.cells (flat pxc px)), ?_, hfin⟩
    intro x ox hx
    simp only [upd_apply] at hx ⊢
    by_cases hxr : x = ro
    · subst hxr
      rw [if_pos rfl] at hx
      rw [if_neg nr5, if_neg nr4, e5'.fro]; exact hx
    · rw [if_neg hxr] at hx
      have h4n : ¬ x = b4 := by rintro rfl; rw [hH4] at hx; cases hx
      have h5n : ¬ x = b5 := by rintro rfl; rw [hH5] at hx; cases hx
      rw [if_neg h5n, if_neg h4n]
      exact hsub _ _ hx
  · rintro H' ⟨hno, H1', rfl, h1, hs, q4, q5⟩
    refine .inr (.inl ⟨H1', rfl, h1, ?_⟩)
    rw [hno] at hm
    simp [q4, q5, bl, t3]
    exact ⟨H, hs, hz 15 hm⟩
end Go.Proofs.YtkjkolacnpknoaaGreat
end

/-! The laws' helpers, walked: large, same, equal; Literal; the chapter's examples. Conditions: as each lemma states them. -/
section
namespace Go.Proofs.YtkjkolacnpknoaaGreat
open Go Go.Ab Go.RowKit
set_option linter.unusedSimpArgs false
set_option linter.unusedVariables false
set_option linter.unnecessarySimpa false

attribute [local simp] condK_true condK_false condK_not wpc_skip wpc_ret wpc_exit wpc_seq wpc_reg wpc_regD testA_bool wpc_cond wpc_block thenA_normal thenA_ret thenA_exit blockA_normal blockA_ret blockA_exit blockA_other endA_normal endA_ret ev_tmp' ev_const ev_func ev_global cv_int cv_bool cv_string cv_pointer cv_slice cv_agg cv_map put_some put_none wH_s setE_apply setE_env less_eq env_cons env_nil upd_upd upd_apply del_apply startA_eq cells_ag cells_sl one_sl cells_vs one_vs cells_ep one_ep cells_fn one_fn cells_int one_int cells_bool one_bool cells_string one_string cells_pointer one_pointer cells_slice one_slice cells_map one_map cells_agg resK_one resK_nil resK_two rvK_t rvK_c rvsK_nil rvsK_cons iseq_nil iseq_cons gdA_true gdA_false gdA_undef istep_free istep_guard istepV_free istepV_guard dseq_nil dseq_pu dseq_rd dseq_ef wpc_regT dtree_nil dtree_pu dtree_rd dtree_ef dtree_br chkAll_nil chkAll_cons andK_true pickK_true pickK_false pickK_tb pickK_fb bin2K_pl eqbK_eq eqbK_ne eqpK_eq eqpK_ne eqmK_eq eqmK_ne eqzK_eq eqzK_ne eqzK_sl eqzK_vs un1K_pl convK_int fillK_some fillA_cons fillA_nil cellsK_some needK_true needK_ok seeK_ep seeK_ptr oneK_agg oneK_one nilcK_ptr nilcK_ep fadrK_ptr fadrK_ep fldK_ag iadAK_ptr iadAK_ep iadSK_sl iadSK_vs extK_0 extK_1 extK_2 extK_3 lenK_pl lenK_sl lenK_vs lensK_pl boxK_some minmax1K_int storeK_ptr callvK_fn callvK_pl newsK_nil newsK_vs newsK_sl appK_nil appK_nil0 appK_sl appK_vs bnd1K_int bndK_none bndK_some slsK_vs slsK_nil slsK_sl0 slsK_sl slstrK_pl boolK_some eqsK_ag iop_eqs iop_sls iop_slstr seesK_some seesK_ro mapsK_some MAP_some findK_some findK_none plK_pl nmapK_none nmapK_some iop_mlook iop_mlen iop_mmk iop_mupd iop_mdel iop_mrng itK_none itK_some ptr0K_ptr iop_mnxt iop_ment it1K_some entK_some iop_mov iop_pick iop_bin iop_eqb iop_eqp iop_eqm iop_eqz iop_un capK_pl capK_sl capK_vs iop_cap iop_b2s b2sK_nil b2sK_sl b2sK_vs strK_some iop_idxv idxvK_ag atK_some apzK_nil iop_apz mksK_int iop_mks clrK_sl clrK_vs clrK_nil iop_clr iop_conv iop_build iop_load iop_nilc iop_fadr iop_fld iop_iadA iop_iadS iop_ext iop_mkf iop_len iop_lens iop_minmax iop_al iop_box iop_bsl iop_store iop_call iop_callv iop_app BIN_add BIN_sub BIN_mul BIN_and BIN_or BIN_xor BIN_andNot BIN_eql BIN_neq BIN_lss BIN_leq BIN_gtr BIN_geq BIN_quo BIN_rem BIN_shl BIN_shr BIN_sadd BIN_seql BIN_sneq BIN_slss BIN_sleq BIN_sgtr BIN_sgeq UN_neg UN_xor UN_not MM_nil MM_cons partsA argsA ptrA lessL eqL min2I slotN_int slotP_int slotI_int
attribute [local simp] rc_len rc_t4 rc_t1 rc_t2 rc_t3 rc_d1 rc_d2 rc_d3 rc_d4 rc_ag rc_one rc_eq

theorem c5 {H : AH} {K : AV → AH → Prop} {w h : Int} {a : AV} {l : List Px} (ha : Rw H a (flat pxc l) l.length 4) (hk : K (vb (decide (400 < (l.length : Int)))) H) : @AC Tryz.prog 5 [.ag (bfc w h a)] H ⟨K⟩ := by
  have la := fun k => Rw.lenK ha (k := k)
  have bl : (bfc w h a).length = 3 := rfl
  have d2 : ((bfc w h a).drop 2).take 1 = [a] := rfl
  refine AC_of (.forget ?_)
  refine call_c follows cf5_ok (by simp) ?_
  simp [bl]
  refine newK_of fun y hy => ?_
  simp [bl, d2, la]
  exact ⟨H, (Sub.refl H).upd hy, by simpa using hk⟩
theorem c9 {H : AH} {K : AV → AH → Prop} {w h : Int} {a a2 : AV} {l : List Px} (ha : Rw H a (flat pxc l) l.length 4) (ha2 : Rw H a2 (flat pxc l) l.length 4) (hl : l.length ≤ 10000000) (hk : K (vb true) H) :
    @AC Tryz.prog 9 [.ag (bfc w h a), .ag (bfc w h a2)] H ⟨K⟩ := by
  have la := fun k => Rw.lenK ha (k := k)
  have la2 := fun k => Rw.lenK ha2 (k := k)
  have bl : ∀ (w h : Int) (a : AV), (bfc w h a).length = 3 := fun _ _ _ => rfl
  have d0 : ∀ (w h : Int) (a : AV), (bfc w h a).take 1 = [vi w] := fun _ _ _ => rfl
  have d1 : ∀ (w h : Int) (a : AV), ((bfc w h a).drop 1).take 1 = [vi h] := fun _ _ _ => rfl
  have d1' : ∀ (w h : Int) (a : AV), (bfc w h a).tail.take 1 = [vi h] := fun _ _ _ => rfl
  have d2 : ∀ (w h : Int) (a : AV), ((bfc w h a).drop 2).take 1 = [a] := fun _ _ _ => rfl
  refine AC_of (.forget ?_)
  refine call_c follows cf9_ok (by simp) ?_
  simp [bl]
  refine newK_of fun y hy => ?_
  have hsy : Sub H (upd H y (.cells (bfc w h a))) := (Sub.refl H).upd hy
  have ky : upd H y (.cells (bfc w h a)) y = some (.cells (bfc w h a)) := by simp [upd_apply]
  simp [bl]
  generalize upd H y (.cells (bfc w h a)) = H1 at *
  refine newK_of fun z hz => ?_
  have hsz : Sub H (upd H1 z (.cells (bfc w h a2))) := hsy.trans ((Sub.refl H1).upd hz)
  have kz : upd H1 z (.cells (bfc w h a2)) z = some (.cells (bfc w h a2)) := by simp [upd_apply]
  have ky' : upd H1 z (.cells (bfc w h a2)) y = some (.cells (bfc w h a)) := ((Sub.refl H1).upd hz) _ _ ky
  generalize upd H1 z (.cells (bfc w h a2)) = H2 at *
  simp [ky', kz, bl, d0, d1, d1', d2, la, la2]
  refine wpc_loop (fun s => ∃ (i : Nat), s.n = 45 ∧ s.H = H2 ∧ s.t 2 = pA y ∧ s.t 3 = pA z ∧ s.t 29 = vi l.length ∧ s.t 30 = vi i ∧ i ≤ l.length) (fun s => l.length - slotN (s.t 30)) ?_ ?_
  · exact FgK.same ⟨0, by simp, by simp, by simp, by simp, by simp, by simp, by omega⟩
  rintro s ⟨i, hg, hH, e2, e3, e29, e30, hi⟩
  by_cases hlt : i < l.length
  · have wr := IntWalk.i64_in ((i : Int) + 1) (by omega)
    obtain ⟨p, hp1, hp2⟩ := fsee pxc_l ha hlt
    obtain ⟨q, hq1, hq2⟩ := fsee pxc_l ha2 hlt
    generalize l[i] = x at *
    simp (disch := omega) [hg, hH, e2, e3, e29, e30, hlt, ky', kz, bl, d2, hp1, hp2 _ hsz, hq1, hq2 _ hsz, pxc_eqL, wr]
    exact FgK.same ⟨⟨i + 1, by simp, by simp, by simp, by simp, by simp, by simp, by omega⟩, by simp [e30]; omega⟩
  · simp (disch := omega) [hg, hH, e2, e3, e29, e30, hlt]
    exact ⟨H, hsz, hk⟩
def zeroB (b : Bf) : Bf := ⟨b.w, b.h, List.replicate b.px.length ⟨0, 0, 0, 0⟩⟩
def litM (b : Bf) : List Int × Int := if bOk b = true then encM (zeroB b) b [fr b.w b.h] else ([], 15)
theorem zeroB_len (b : Bf) : (zeroB b).px.length = b.px.length := by simp [zeroB]
theorem zeroB_bb (b : Bf) : BB (zeroB b) := fun p hp => by
  obtain rfl := List.eq_of_mem_replicate hp
  exact zero_ok.2
theorem zeroB_ok {b : Bf} (h : bOk b = true) : bOk (zeroB b) = true := by
  obtain ⟨h1, h2, h3, h4⟩ := bOk_iff.1 h
  refine bOk_iff.2 ⟨h1, h2, by rw [zeroB_len]; exact h3, fun p hp => ?_⟩
  obtain rfl := List.eq_of_mem_replicate hp
  exact zero_ok.1
theorem flat_rep (N : Nat) : (List.replicate N [v8 0, v8 0, v8 0, v8 0]).flatten = flat pxc (List.replicate N ⟨0, 0, 0, 0⟩) := by
  induction N with
  | zero => rfl
  | succ n ih =>
    rw [List.replicate_succ, List.flatten_cons, ih, List.replicate_succ]
    simp [flat, pxc]
theorem c12 {H : AH} {K : AV → AH → Prop} {ap : AV} {b : Bf} (hb : Rw H ap (flat pxc b.px) b.px.length 4) (bb : BB b) (lb : b.px.length ≤ 10000000)
    (hk : ∀ out H', Row H H' out ((litM b).1.map v8) (litM b).1.length 1 → K (.tp [out, vi (litM b).2]) H') : @AC Tryz.prog 12 [.ag (bfc b.w b.h ap)] H ⟨K⟩ := by
  have oap := Rw.one hb
  have lap := fun k => Rw.lenK hb (k := k)
  have bl : ∀ (w h : Int) (a : AV), (bfc w h a).length = 3 := fun _ _ _ => rfl
  have t3 : ∀ (w h : Int) (a : AV), (bfc w h a).take 3 = bfc w h a := fun _ _ _ => rfl
  have d0 : ∀ (w h : Int) (a : AV), (bfc w h a).take 1 = [vi w] := fun _ _ _ => rfl
  have d1 : ∀ (w h : Int) (a : AV), ((bfc w h a).drop 1).take 1 = [vi h] := fun _ _ _ => rfl
  have d1' : ∀ (w h : Int) (a : AV), (bfc w h a).tail.take 1 = [vi h] := fun _ _ _ => rfl
  have d2 : ∀ (w h : Int) (a : AV), ((bfc w h a).drop 2).take 1 = [a] := fun _ _ _ => rfl
  refine AC_of (.forget ?_)
  refine call_c follows cf12_ok (by simp) ?_
  simp [bl]
  refine newK_of fun z hz => ?_
  have hsz : Sub H (upd H z (.cells (bfc b.w b.h ap))) := (Sub.refl H).upd hz
  have kz : upd H z (.cells (bfc b.w b.h ap)) z = some (.cells (bfc b.w b.h ap)) := by simp [upd_apply]
  generalize upd H z (.cells (bfc b.w b.h ap)) = H1 at *
  simp [kz, bl, t3]
  refine c15 (hb.sub hsz) lb ?_
  have hm : litM b = if bOk b = true then encM (zeroB b) b [fr b.w b.h] else ([], 15) := rfl
  cases hv : bufOk b.w b.h b.px with
  | false =>
    rw [if_neg (by rw [show bOk b = false from hv]; simp)] at hm
    rw [hm] at hk
    simp
    exact ⟨H, hsz, hk _ _ (Row.nil H 1)⟩
  | true =>
  rw [if_pos (show bOk b = true from hv)] at hm
  have hmk : b.px.length * 4 ≤ 140737488355328 := by omega
  simp [kz, bl, d0, d1, d1', d2, lap, hmk]
  refine newK_of fun y hy => ?_
  have nzy : ¬ z = y := ne_of_free kz hy
  have htn : ((b.px.length : Int)).toNat = b.px.length := by omega
  rw [htn, show (List.replicate b.px.length [AV.pl (Value.int .u8 0), AV.pl (Value.int .u8 0), AV.pl (Value.int .u8 0), AV.pl (Value.int .u8 0)]).flatten = flat pxc (zeroB b).px from flat_rep _]
  have hsy : Sub H1 (upd H1 y (.cells (flat pxc (zeroB b).px))) := (Sub.refl H1).upd hy
  have kzy := hsy _ _ kz
  have hry : Rw (upd H1 y (.cells (flat pxc (zeroB b).px))) (.sl y 0 b.px.length 4 true) (flat pxc (zeroB b).px) (zeroB b).px.length 4 := by
    rw [zeroB_len]
    exact Rw.sl (by rw [flat_len pxc_l, zeroB_len]) (by simp [upd_apply])
  generalize upd H1 y (.cells (flat pxc (zeroB b).px)) = H2 at *
  generalize AV.sl y 0 b.px.length 4 true = ay at *
  have oay := Rw.one hry
  have cay := Rw.cells hry
  simp [kzy, bl, d0, d1, d1', d2, lap, cay]
  refine newK_of fun t4 ht4 => ?_
  have hs4 : Sub H2 (upd H2 t4 (.cells (bfc b.w b.h ay))) := (Sub.refl H2).upd ht4
  have nzt : ¬ z = t4 := ne_of_free kzy ht4
  have hbf : [vi b.w, vi b.h, ay] = bfc b.w b.h ay := rfl
  simp [oay, nzt, kzy, bl, d0, d1, d1', d2, lap]
  rw [hbf]
  have kt4 : upd H2 t4 (.cells (bfc b.w b.h ay)) t4 = some (.cells (bfc b.w b.h ay)) := by simp [upd_apply]
  have kz4 := hs4 _ _ kzy
  have hH4 : Sub H (upd H2 t4 (.cells (bfc b.w b.h ay))) := (hsz.trans hsy).trans hs4
  have hry4 := hry.sub hs4
  generalize upd H2 t4 (.cells (bfc b.w b.h ay)) = H4 at *
  simp [kt4, kz4, bl, t3]
  refine (c17 oap).ac ?_
  simp [kt4, kz4, bl, t3]
  refine newK_of fun y5 hy5 => ?_
  have hs5 : Sub H4 (upd H4 y5 (.cells (rc (fr b.w b.h)))) := (Sub.refl H4).upd hy5
  have hr5 : Rr (upd H4 y5 (.cells (rc (fr b.w b.h)))) (.sl y5 0 1 4 true) [fr b.w b.h] := Rw.sl rfl (by simp [upd_apply, flat])
  have n4y : ¬ t4 = y5 := ne_of_free kt4 hy5
  have nzy5 : ¬ z = y5 := ne_of_free kz4 hy5
  simp [kt4, kz4, bl, t3, n4y, nzy5]
  refine c10 (o := zeroB b) (n := b) (dam := [fr b.w b.h]) (hry4.sub hs5) (hb.sub (hH4.trans hs5)) hr5 (zeroB_bb b) bb (by rw [zeroB_len]; exact lb) lb (by simp) fun out H' hro => ?_
  rw [← hm] at hro ⊢
  obtain ⟨H6, h6, hrow6⟩ := hro.out (hH4.trans hs5)
  have cc := Rw.cells (hro.rin (by simp)).rd
  simp [cc]
  exact ⟨H6, h6, hk _ _ hrow6⟩
end Go.Proofs.YtkjkolacnpknoaaGreat
end

/-! The chapter's examples, walked. Conditions: none. -/
section
namespace Go.Proofs.YtkjkolacnpknoaaGreat
open Go Go.Ab Go.RowKit
set_option linter.unusedSimpArgs false
set_option linter.unusedVariables false
set_option linter.unnecessarySimpa false

attribute [local simp] condK_true condK_false condK_not wpc_skip wpc_ret wpc_exit wpc_seq wpc_reg wpc_regD testA_bool wpc_cond wpc_block thenA_normal thenA_ret thenA_exit blockA_normal blockA_ret blockA_exit blockA_other endA_normal endA_ret ev_tmp' ev_const ev_func ev_global cv_int cv_bool cv_string cv_pointer cv_slice cv_agg cv_map put_some put_none wH_s setE_apply setE_env less_eq env_cons env_nil upd_upd upd_apply del_apply startA_eq cells_ag cells_sl one_sl cells_vs one_vs cells_ep one_ep cells_fn one_fn cells_int one_int cells_bool one_bool cells_string one_string cells_pointer one_pointer cells_slice one_slice cells_map one_map cells_agg resK_one resK_nil resK_two rvK_t rvK_c rvsK_nil rvsK_cons iseq_nil iseq_cons gdA_true gdA_false gdA_undef istep_free istep_guard istepV_free istepV_guard dseq_nil dseq_pu dseq_rd dseq_ef wpc_regT dtree_nil dtree_pu dtree_rd dtree_ef dtree_br chkAll_nil chkAll_cons andK_true pickK_true pickK_false pickK_tb pickK_fb bin2K_pl eqbK_eq eqbK_ne eqpK_eq eqpK_ne eqmK_eq eqmK_ne eqzK_eq eqzK_ne eqzK_sl eqzK_vs un1K_pl convK_int fillK_some fillA_cons fillA_nil cellsK_some needK_true needK_ok seeK_ep seeK_ptr oneK_agg oneK_one nilcK_ptr nilcK_ep fadrK_ptr fadrK_ep fldK_ag iadAK_ptr iadAK_ep iadSK_sl iadSK_vs extK_0 extK_1 extK_2 extK_3 lenK_pl lenK_sl lenK_vs lensK_pl boxK_some minmax1K_int storeK_ptr callvK_fn callvK_pl newsK_nil newsK_vs newsK_sl appK_nil appK_nil0 appK_sl appK_vs bnd1K_int bndK_none bndK_some slsK_vs slsK_nil slsK_sl0 slsK_sl slstrK_pl boolK_some eqsK_ag iop_eqs iop_sls iop_slstr seesK_some seesK_ro mapsK_some MAP_some findK_some findK_none plK_pl nmapK_none nmapK_some iop_mlook iop_mlen iop_mmk iop_mupd iop_mdel iop_mrng itK_none itK_some ptr0K_ptr iop_mnxt iop_ment it1K_some entK_some iop_mov iop_pick iop_bin iop_eqb iop_eqp iop_eqm iop_eqz iop_un capK_pl capK_sl capK_vs iop_cap iop_b2s b2sK_nil b2sK_sl b2sK_vs strK_some iop_idxv idxvK_ag atK_some apzK_nil iop_apz mksK_int iop_mks clrK_sl clrK_vs clrK_nil iop_clr iop_conv iop_build iop_load iop_nilc iop_fadr iop_fld iop_iadA iop_iadS iop_ext iop_mkf iop_len iop_lens iop_minmax iop_al iop_box iop_bsl iop_store iop_call iop_callv iop_app BIN_add BIN_sub BIN_mul BIN_and BIN_or BIN_xor BIN_andNot BIN_eql BIN_neq BIN_lss BIN_leq BIN_gtr BIN_geq BIN_quo BIN_rem BIN_shl BIN_shr BIN_sadd BIN_seql BIN_sneq BIN_slss BIN_sleq BIN_sgtr BIN_sgeq UN_neg UN_xor UN_not MM_nil MM_cons partsA argsA ptrA lessL eqL min2I slotN_int slotP_int slotI_int
attribute [local simp] rc_len rc_t4 rc_t1 rc_t2 rc_t3 rc_d1 rc_d2 rc_d3 rc_d4 rc_ag rc_one rc_eq

def exP : Px := ⟨0, 0, 0, 255⟩
def exQ : Px := ⟨0, 0, 1, 255⟩
def exO : Bf := ⟨2, 1, [exP, exP]⟩
def exN : Bf := ⟨2, 1, [exP, exQ]⟩
def exR : R := ⟨1, 0, 2, 1⟩
def exB : List Int := [1, 0, 1, 0, 0, 0, 2, 0, 1, 0, 1, 1, 0, 0, 0]
theorem exCan : canonF [exR] = [exR] := by kernel_rfl
theorem exFr : InFr 2 1 [exR] := fun r hr => by
  rw [List.mem_singleton] at hr
  subst hr
  decide
theorem exOk : bOk exO = true ∧ bOk exN = true := ⟨rfl, rfl⟩
theorem exBB : BB exO ∧ BB exN := by
  constructor <;> intro p hp <;> simp [exO, exN, exP, exQ] at hp
  · subst hp; unfold PB8 U8; simp
  · rcases hp with rfl | rfl <;> (unfold PB8 U8; simp)
theorem exPos : posF [exR] 2 = [1] := by kernel_rfl
theorem exDiff : diffF exO.px exN.px [1] = [1] := by kernel_rfl
theorem exRuns1 : runsF [1] = [(1, 1)] := by
  unfold runsF
  rw [show rlen 1 [] 254 = 0 from rfl]
  unfold runsF
  rfl
theorem exRuns : encR (runsF [7, 7, 9]) = [2, 7, 0, 0, 0, 1, 9, 0, 0, 0] := by
  have h1 : runsF [7, 7, 9] = (2, 7) :: runsF [9] := by
    conv => lhs; unfold runsF
    rfl
  have h2 : runsF [9] = [(1, 9)] := by
    unfold runsF
    rw [show rlen 9 [] 254 = 0 from rfl]
    unfold runsF
    rfl
  rw [h1, h2]
  rfl
theorem exCov : covB exO exN [exR] = true := by kernel_rfl
theorem exEncL : encL exO exN [exR] = exB := by
  unfold encL
  rw [show exO.w = 2 from rfl, exPos, exDiff, exRuns1]
  rfl
theorem exEnc : encM exO exN [exR] = (exB, 0) := by
  rw [enc_again exOk.1 exOk.2 ⟨rfl, rfl⟩ exCan exFr (by decide) exCov, exEncL]
theorem exDec : decM exO exB = (exN, 0) := by
  rw [← exEncL]
  exact dec_enc exOk.1 exOk.2 exBB.2 ⟨rfl, rfl⟩ exCan exFr (by decide) exCov
theorem exS1 : strB [2, 7, 0, 0, 0, 1, 9, 0, 0, 0] = ⟨#[2, 7, 0, 0, 0, 1, 9, 0, 0, 0]⟩ := by kernel_rfl
theorem exS2 : strB exB = ⟨#[1, 0, 1, 0, 0, 0, 2, 0, 1, 0, 1, 1, 0, 0, 0]⟩ := by kernel_rfl
theorem c6 {H : AH} {K : AV → AH → Prop} (hk : K (vb true) H) : @AC Tryz.prog 6 [] H ⟨K⟩ := by
  have bl : ∀ (w h : Int) (a : AV), (bfc w h a).length = 3 := fun _ _ _ => rfl
  have t3 : ∀ (w h : Int) (a : AV), (bfc w h a).take 3 = bfc w h a := fun _ _ _ => rfl
  refine AC_of (.forget ?_)
  refine call_c follows cf6_ok (by simp) ?_
  simp
  refine newK_of fun y1 hy1 => ?_
  have hs1 : Sub H (upd H y1 (.cells (flat pxc exO.px))) := (Sub.refl H).upd hy1
  have hr1 : Rw (upd H y1 (.cells (flat pxc exO.px))) (.sl y1 0 2 4 true) (flat pxc exO.px) exO.px.length 4 := Rw.sl rfl (by simp [upd_apply])
  have hc1 : [v8 0, v8 0, v8 0, v8 255, v8 0, v8 0, v8 0, v8 255] = flat pxc exO.px := rfl
  rw [hc1]
  generalize upd H y1 (.cells (flat pxc exO.px)) = H1 at *
  generalize AV.sl y1 0 2 4 true = a1 at *
  have o1 := Rw.one hr1
  have c1 := Rw.cells hr1
  simp [c1]
  refine newK_of fun z1 hz1 => ?_
  simp [o1]
  have hb1 : [vi 2, vi 1, a1] = bfc exO.w exO.h a1 := rfl
  rw [hb1]
  have k1 : upd H1 z1 (.cells (bfc exO.w exO.h a1)) z1 = some (.cells (bfc exO.w exO.h a1)) := by simp [upd_apply]
  have hr1 := hr1.sub ((Sub.refl H1).upd hz1 (o := .cells (bfc exO.w exO.h a1)))
  have hs2 : Sub H (upd H1 z1 (.cells (bfc exO.w exO.h a1))) := hs1.trans ((Sub.refl H1).upd hz1)
  generalize upd H1 z1 (.cells (bfc exO.w exO.h a1)) = H2 at *
  refine newK_of fun y2 hy2 => ?_
  have hs3 : Sub H2 (upd H2 y2 (.cells (flat pxc exN.px))) := (Sub.refl H2).upd hy2
  have hr2 : Rw (upd H2 y2 (.cells (flat pxc exN.px))) (.sl y2 0 2 4 true) (flat pxc exN.px) exN.px.length 4 := Rw.sl rfl (by simp [upd_apply])
  have hc2 : [v8 0, v8 0, v8 0, v8 255, v8 0, v8 0, v8 1, v8 255] = flat pxc exN.px := rfl
  rw [hc2]
  have k1 := hs3 _ _ k1
  have hr1 := hr1.sub hs3
  have hs4 := hs2.trans hs3
  generalize upd H2 y2 (.cells (flat pxc exN.px)) = H3 at *
  generalize AV.sl y2 0 2 4 true = a2 at *
  have o2 := Rw.one hr2
  have c2 := Rw.cells hr2
  simp [c2]
  refine newK_of fun z2 hz2 => ?_
  have n12 : ¬ z1 = z2 := ne_of_free k1 hz2
  simp [o2, n12, k1, bl, t3]
  refine newK_of fun y3 hy3 => ?_
  have hb2 : [vi 2, vi 1, a2] = bfc exN.w exN.h a2 := rfl
  rw [hb2]
  rw [hb2] at hy3
  have hs5 : Sub H3 (upd H3 z2 (.cells (bfc exN.w exN.h a2))) := (Sub.refl H3).upd hz2
  have k2 : upd H3 z2 (.cells (bfc exN.w exN.h a2)) z2 = some (.cells (bfc exN.w exN.h a2)) := by simp [upd_apply]
  have k1 := hs5 _ _ k1
  have hr1 := hr1.sub hs5
  have hr2 := hr2.sub hs5
  have hs6 := hs4.trans hs5
  simp
  generalize upd H3 z2 (.cells (bfc exN.w exN.h a2)) = H4 at *
  have hs7 : Sub H4 (upd H4 y3 (.cells (rc exR))) := (Sub.refl H4).upd hy3
  have hr3 : Rr (upd H4 y3 (.cells (rc exR))) (.sl y3 0 1 4 true) [exR] := Rw.sl rfl (by simp [upd_apply, flat])
  refine c10 (o := exO) (n := exN) (dam := [exR]) (hr1.sub hs7) (hr2.sub hs7) hr3 exBB.1 exBB.2 (by decide) (by decide) (by decide) fun x H5 hx => ?_
  rw [exEnc] at hx ⊢
  simp only at hx ⊢
  have hxr : Rw H5 x (exB.map v8) exB.length 1 := (hx.rin (by simp)).rd
  have cx := Rw.cells hxr
  have hs8 : Sub H4 H5 := hs7.trans hx.sub
  have k1 := hs8 _ _ k1
  have k2 := hs8 _ _ k2
  have hr1 := hr1.sub hs8
  have hr2 := hr2.sub hs8
  have hs9 := hs6.trans hs8
  simp [cx, k1, bl, t3]
  refine c7 (o := exO) (b := exB) hr1 hxr exBB.1 (by intro x hx; simp [exB] at hx; unfold U8; omega) (by decide) (by decide) fun y H6 hy => ?_
  rw [exDec] at hy ⊢
  simp only at hy ⊢
  have hyr : Rw H6 y (flat pxc exN.px) exN.px.length 4 := (hy.rin (flat_len pxc_l _)).rd
  have cy := Rw.cells hyr
  have oy := Rw.one hyr
  have hs10 : Sub H5 H6 := hy.sub
  have k2 := hs10 _ _ k2
  have hr2 := hr2.sub hs10
  have hxr := hxr.sub hs10
  have hs11 := hs9.trans hs10
  have bo : ∀ x ∈ bfc exN.w exN.h y, x.one = true := by simp [bfc, oy]
  have bo' : (∀ x ∈ bfc exN.w exN.h y, x.one = true) = True := eq_true bo
  simp
  refine newK_of fun z5 hz5 => ?_
  simp [bl, bo', t3]
  have k5 : upd H6 z5 (.cells (bfc exN.w exN.h y)) z5 = some (.cells (bfc exN.w exN.h y)) := by simp [upd_apply]
  have hs12 : Sub H6 (upd H6 z5 (.cells (bfc exN.w exN.h y))) := (Sub.refl H6).upd hz5
  have k2 := hs12 _ _ k2
  have hr2 := hr2.sub hs12
  have hxr := hxr.sub hs12
  have hyr := hyr.sub hs12
  have hs13 := hs11.trans hs12
  generalize upd H6 z5 (.cells (bfc exN.w exN.h y)) = H7 at *
  refine newK_of fun y6 hy6 => ?_
  have hs14 : Sub H7 (upd H7 y6 (.cells [v32 7, v32 7, v32 9])) := (Sub.refl H7).upd hy6
  have hr6 : Rw (upd H7 y6 (.cells [v32 7, v32 7, v32 9])) (.sl y6 0 3 1 true) (([7, 7, 9] : List Int).map v32) ([7, 7, 9] : List Int).length 1 := Rw.sl rfl (by simp [upd_apply])
  have k2 := hs14 _ _ k2
  have k5 := hs14 _ _ k5
  have hr2 := hr2.sub hs14
  have hxr := hxr.sub hs14
  have hyr := hyr.sub hs14
  have hs15 := hs13.trans hs14
  simp
  generalize upd H7 y6 (.cells [v32 7, v32 7, v32 9]) = H8 at *
  refine c14 hr6 (by decide) fun w H9 hw => ?_
  have hwr : Rw H9 w ((encR (runsF [7, 7, 9])).map v8) (encR (runsF [7, 7, 9])).length 1 := (hw.rin (by simp)).rd
  have hst1 := fun k => Rw.str hwr (k := k)
  rw [exRuns, exS1] at hst1
  have hst2 := fun k => Rw.str (hxr.sub hw.sub) (k := k)
  rw [exS2] at hst2
  have k2 := hw.sub _ _ k2
  have k5 := hw.sub _ _ k5
  simp [hst1, hst2, k2, k5, bl, t3]
  refine c9 (hyr.sub hw.sub) (hr2.sub hw.sub) (by decide) ?_
  simp
  exact ⟨H, hs15.trans hw.sub, hk⟩
end Go.Proofs.YtkjkolacnpknoaaGreat
end

/-! The rows' arguments: numbers, bytes, pixels, rectangles. No conditions. -/
section
namespace Go.Proofs.YtkjkolacnpknoaaGreat
open Go Go.Ab Go.RowKit
set_option linter.unusedSimpArgs false
set_option linter.unusedVariables false
set_option linter.unnecessarySimpa false

attribute [local simp] condK_true condK_false condK_not wpc_skip wpc_ret wpc_exit wpc_seq wpc_reg wpc_regD testA_bool wpc_cond wpc_block thenA_normal thenA_ret thenA_exit blockA_normal blockA_ret blockA_exit blockA_other endA_normal endA_ret ev_tmp' ev_const ev_func ev_global cv_int cv_bool cv_string cv_pointer cv_slice cv_agg cv_map put_some put_none wH_s setE_apply setE_env less_eq env_cons env_nil upd_upd upd_apply del_apply startA_eq cells_ag cells_sl one_sl cells_vs one_vs cells_ep one_ep cells_fn one_fn cells_int one_int cells_bool one_bool cells_string one_string cells_pointer one_pointer cells_slice one_slice cells_map one_map cells_agg resK_one resK_nil resK_two rvK_t rvK_c rvsK_nil rvsK_cons iseq_nil iseq_cons gdA_true gdA_false gdA_undef istep_free istep_guard istepV_free istepV_guard dseq_nil dseq_pu dseq_rd dseq_ef wpc_regT dtree_nil dtree_pu dtree_rd dtree_ef dtree_br chkAll_nil chkAll_cons andK_true pickK_true pickK_false pickK_tb pickK_fb bin2K_pl eqbK_eq eqbK_ne eqpK_eq eqpK_ne eqmK_eq eqmK_ne eqzK_eq eqzK_ne eqzK_sl eqzK_vs un1K_pl convK_int fillK_some fillA_cons fillA_nil cellsK_some needK_true needK_ok seeK_ep seeK_ptr oneK_agg oneK_one nilcK_ptr nilcK_ep fadrK_ptr fadrK_ep fldK_ag iadAK_ptr iadAK_ep iadSK_sl iadSK_vs extK_0 extK_1 extK_2 extK_3 lenK_pl lenK_sl lenK_vs lensK_pl boxK_some minmax1K_int storeK_ptr callvK_fn callvK_pl newsK_nil newsK_vs newsK_sl appK_nil appK_nil0 appK_sl appK_vs bnd1K_int bndK_none bndK_some slsK_vs slsK_nil slsK_sl0 slsK_sl slstrK_pl boolK_some eqsK_ag iop_eqs iop_sls iop_slstr seesK_some seesK_ro mapsK_some MAP_some findK_some findK_none plK_pl nmapK_none nmapK_some iop_mlook iop_mlen iop_mmk iop_mupd iop_mdel iop_mrng itK_none itK_some ptr0K_ptr iop_mnxt iop_ment it1K_some entK_some iop_mov iop_pick iop_bin iop_eqb iop_eqp iop_eqm iop_eqz iop_un capK_pl capK_sl capK_vs iop_cap iop_b2s b2sK_nil b2sK_sl b2sK_vs strK_some iop_idxv idxvK_ag atK_some apzK_nil iop_apz mksK_int iop_mks clrK_sl clrK_vs clrK_nil iop_clr iop_conv iop_build iop_load iop_nilc iop_fadr iop_fld iop_iadA iop_iadS iop_ext iop_mkf iop_len iop_lens iop_minmax iop_al iop_box iop_bsl iop_store iop_call iop_callv iop_app BIN_add BIN_sub BIN_mul BIN_and BIN_or BIN_xor BIN_andNot BIN_eql BIN_neq BIN_lss BIN_leq BIN_gtr BIN_geq BIN_quo BIN_rem BIN_shl BIN_shr BIN_sadd BIN_seql BIN_sneq BIN_slss BIN_sleq BIN_sgtr BIN_sgeq UN_neg UN_xor UN_not MM_nil MM_cons partsA argsA ptrA lessL eqL min2I slotN_int slotP_int slotI_int

abbrev pxL : List Lf := [.i .u8, .i .u8, .i .u8, .i .u8]
abbrev rcL : List Lf := [.i .i64, .i .i64, .i .i64, .i .i64]
abbrev bfL : List Lf := [.i .i64, .i .i64, .sl pxL]
theorem u8_of {n : Int} (h : (Lit.int .u8 n).wf = true) : U8 n := by
  have h2 : 0 ≤ n ∧ n ≤ 255 := by simpa [Lit.wf, IntKind.signed, IntKind.min, IntKind.max, IntKind.bits] using h
  unfold U8; omega
theorem u32_of {n : Int} (h : (Lit.int .u32 n).wf = true) : U32 n := by
  have h2 : 0 ≤ n ∧ n ≤ 4294967295 := by simpa [Lit.wf, IntKind.signed, IntKind.min, IntKind.max, IntKind.bits] using h
  unfold U32; omega
theorem flat_sing {E : Type} (f : E → AV) (l : List E) : (l.map fun p => [f p]).flatten = l.map f := by
  induction l with
  | nil => rfl
  | cons p l ih => simp only [List.map_cons, List.flatten_cons, ih]; rfl
theorem fitU {P : Int → Prop} {k : IntKind} (hP : ∀ n, (Lit.int k n).wf = true → P n) {a : AV} (h : Fit (.sl [.i k]) a) : ∃ l : List Int, (∀ H, Rw H a (l.map fun n => .pl (.int k n)) l.length 1) ∧ (∀ x ∈ l, P x) ∧ l.length ≤ maxLen := by
  obtain ⟨n, cs, rfl, hn, hl, hf⟩ := h.sl_inv
  obtain ⟨l, h1, h2⟩ := FitL.elems (E := { x : Int // P x }) (enc := fun x => [.pl (.int k x.1)]) (by simp) (fun cs h => by
    obtain ⟨_, _, rfl, h0, h⟩ := h.cons_inv
    obtain rfl := h.nil_inv
    obtain ⟨a, rfl, hw⟩ := h0.i_inv
    exact ⟨⟨a, hP a hw⟩, rfl⟩) n cs hl hf
  subst h1; subst h2
  refine ⟨l.map (·.1), fun H => ?_, fun x hx => ?_, by simpa using hn⟩
  · rw [flat_sing]
    have := Rw.vs H (n := l.length) (sz := 1) (f := false) (cs := l.map fun x => .pl (.int k x.1)) (by simp)
    simpa using this
  · obtain ⟨y, _, rfl⟩ := List.mem_map.1 hx
    exact y.2
theorem fitPx {a : AV} (h : Fit (.sl pxL) a) : ∃ l : List Px, (∀ H, Rw H a (flat pxc l) l.length 4) ∧ (∀ p ∈ l, PB8 p) := by
  obtain ⟨n, cs, rfl, hn, hl, hf⟩ := h.sl_inv
  obtain ⟨l, h1, h2⟩ := FitL.elems (E := { p : Px // PB8 p }) (enc := fun p => pxc p.1) (by decide) (fun cs h => by
    obtain ⟨_, _, rfl, h0, h⟩ := h.cons_inv
    obtain ⟨_, _, rfl, h1, h⟩ := h.cons_inv
    obtain ⟨_, _, rfl, h2, h⟩ := h.cons_inv
    obtain ⟨_, _, rfl, h3, h⟩ := h.cons_inv
    obtain rfl := h.nil_inv
    obtain ⟨a, rfl, w0⟩ := h0.i_inv
    obtain ⟨b, rfl, w1⟩ := h1.i_inv
    obtain ⟨c, rfl, w2⟩ := h2.i_inv
    obtain ⟨d, rfl, w3⟩ := h3.i_inv
    exact ⟨⟨⟨a, b, c, d⟩, u8_of w0, u8_of w1, u8_of w2, u8_of w3⟩, rfl⟩) n cs hl hf
  subst h1; subst h2
  refine ⟨l.map (·.1), fun H => ?_, fun x hx => ?_⟩
  · have e : flat pxc (l.map (·.1)) = (l.map fun p => pxc p.1).flatten := by simp [flat, Function.comp_def]
    rw [e]
    have := Rw.vs H (n := l.length) (sz := 4) (f := false) (cs := (l.map fun p => pxc p.1).flatten) (by rw [← e, flat_len pxc_l, List.length_map])
    simpa using this
  · obtain ⟨y, _, rfl⟩ := List.mem_map.1 hx
    exact y.2
theorem fitRs {a : AV} (h : Fit (.sl rcL) a) : ∃ l : List R, ∀ H, Rr H a l := by
  obtain ⟨n, cs, rfl, hn, hl, hf⟩ := h.sl_inv
  obtain ⟨l, h1, h2⟩ := FitL.elems (enc := rc) (by decide) (fun cs h => by
    obtain ⟨_, _, rfl, h0, h⟩ := h.cons_inv
    obtain ⟨_, _, rfl, h1, h⟩ := h.cons_inv
    obtain ⟨_, _, rfl, h2, h⟩ := h.cons_inv
    obtain ⟨_, _, rfl, h3, h⟩ := h.cons_inv
    obtain rfl := h.nil_inv
    obtain ⟨a, rfl, _⟩ := h0.i_inv
    obtain ⟨b, rfl, _⟩ := h1.i_inv
    obtain ⟨c, rfl, _⟩ := h2.i_inv
    obtain ⟨d, rfl, _⟩ := h3.i_inv
    exact ⟨⟨a, b, c, d⟩, rfl⟩) n cs hl hf
  subst h1; subst h2
  exact ⟨l, fun H => Rw.vs H (flat_len rc_l l)⟩
/-- A buffer as an argument. -/
theorem fitBf {a : AV} (h : FitT true bfL a) : ∃ (b : Bf) (p : AV), a = .ag (bfc b.w b.h p) ∧ (∀ H, Rw H p (flat pxc b.px) b.px.length 4) ∧ BB b := by
  rw [FitT, if_pos rfl] at h
  obtain ⟨cs, rfl, h⟩ := h
  obtain ⟨_, _, rfl, h0, h⟩ := h.cons_inv
  obtain ⟨_, _, rfl, h1, h⟩ := h.cons_inv
  obtain ⟨p, _, rfl, h2, h⟩ := h.cons_inv
  obtain rfl := h.nil_inv
  obtain ⟨w, rfl, _⟩ := h0.i_inv
  obtain ⟨hh, rfl, _⟩ := h1.i_inv
  obtain ⟨px, g1, g2⟩ := fitPx h2
  exact ⟨⟨w, hh, px⟩, p, rfl, g1, g2⟩
theorem fitPair {a : AV} (h : FitT true (bfL ++ bfL) a) : ∃ (b c : Bf) (p q : AV), a = .ag (bfc b.w b.h p ++ bfc c.w c.h q) ∧ (∀ H, Rw H p (flat pxc b.px) b.px.length 4) ∧ (∀ H, Rw H q (flat pxc c.px) c.px.length 4) ∧ BB b ∧ BB c := by
  rw [FitT, if_pos rfl] at h
  obtain ⟨cs, rfl, h⟩ := h
  obtain ⟨_, _, rfl, h0, h⟩ := h.cons_inv
  obtain ⟨_, _, rfl, h1, h⟩ := h.cons_inv
  obtain ⟨p, _, rfl, h2, h⟩ := h.cons_inv
  obtain ⟨_, _, rfl, h3, h⟩ := h.cons_inv
  obtain ⟨_, _, rfl, h4, h⟩ := h.cons_inv
  obtain ⟨q, _, rfl, h5, h⟩ := h.cons_inv
  obtain rfl := h.nil_inv
  obtain ⟨w, rfl, _⟩ := h0.i_inv
  obtain ⟨hh, rfl, _⟩ := h1.i_inv
  obtain ⟨w2, rfl, _⟩ := h3.i_inv
  obtain ⟨hh2, rfl, _⟩ := h4.i_inv
  obtain ⟨px, g1, g2⟩ := fitPx h2
  obtain ⟨px2, g3, g4⟩ := fitPx h5
  exact ⟨⟨w, hh, px⟩, ⟨w2, hh2, px2⟩, p, q, rfl, g1, g3, g2, g4⟩
theorem fitOne {ls : List Lf} {a : AV} {f : Lf} (h : FitT false [f] a) : Fit f a := by
  rw [FitT, if_neg (by simp)] at h
  obtain ⟨_, _, e, h0, h⟩ := h.cons_inv
  obtain rfl := h.nil_inv
  injection e with e _
  subst e
  exact h0
end Go.Proofs.YtkjkolacnpknoaaGreat
end
