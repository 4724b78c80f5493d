/-
  Several texts in one: W1; W2; W3; W4; W5; W6; W7; W8; X1; X2; X3; X4; X5. Conditions: as each lemma states them.
-/
import Derived.Test.YtmpncpamndhmcaaGreatMO
open Go Go.Ab Go.RowKit
set_option linter.unusedSimpArgs false
set_option linter.unusedVariables false
set_option linter.unnecessarySimpa false
attribute [local simp] condK_true condK_false condK_not wpc_skip wpc_ret wpc_exit wpc_seq wpc_reg wpc_regD testA_bool wpc_cond wpc_block thenA_normal thenA_ret thenA_exit blockA_normal blockA_ret blockA_exit blockA_other endA_normal endA_ret ev_tmp' ev_const ev_func ev_global cv_int cv_bool cv_string cv_pointer cv_slice cv_agg cv_map put_some put_none wH_s setE_apply setE_env less_eq env_cons env_nil upd_upd upd_apply del_apply startA_eq cells_ag cells_sl one_sl cells_vs one_vs cells_ep one_ep cells_fn one_fn cells_int one_int cells_bool one_bool cells_string one_string cells_pointer one_pointer cells_slice one_slice cells_map one_map cells_agg resK_one resK_nil resK_two rvK_t rvK_c rvsK_nil rvsK_cons iseq_nil iseq_cons gdA_true gdA_false gdA_undef istep_free istep_guard istepV_free istepV_guard dseq_nil dseq_pu dseq_rd dseq_ef wpc_regT dtree_nil dtree_pu dtree_rd dtree_ef dtree_br chkAll_nil chkAll_cons andK_true pickK_true pickK_false pickK_tb pickK_fb bin2K_pl eqbK_eq eqbK_ne eqpK_eq eqpK_ne eqmK_eq eqmK_ne eqzK_eq eqzK_ne eqzK_sl eqzK_vs un1K_pl convK_int fillK_some fillA_cons fillA_nil cellsK_some needK_true needK_ok seeK_ep seeK_ptr oneK_agg oneK_one nilcK_ptr nilcK_ep fadrK_ptr fadrK_ep fldK_ag iadAK_ptr iadAK_ep iadSK_sl iadSK_vs extK_0 extK_1 extK_2 extK_3 lenK_pl lenK_sl lenK_vs lensK_pl boxK_some minmax1K_int storeK_ptr callvK_fn callvK_pl newsK_nil newsK_vs newsK_sl appK_nil appK_nil0 appK_sl appK_vs bnd1K_int bndK_none bndK_some slsK_vs slsK_nil slsK_sl0 slsK_sl slstrK_pl boolK_some eqsK_ag iop_eqs iop_sls iop_slstr seesK_some seesK_ro mapsK_some MAP_some findK_some findK_none plK_pl nmapK_none nmapK_some iop_mlook iop_mlen iop_mmk iop_mupd iop_mdel iop_mrng itK_none itK_some ptr0K_ptr iop_mnxt iop_ment it1K_some entK_some iop_mov iop_pick iop_bin iop_eqb iop_eqp iop_eqm iop_eqz iop_un capK_pl capK_sl capK_vs iop_cap apzK_nil iop_apz mksK_int iop_mks clrK_sl clrK_vs clrK_nil iop_clr iop_conv iop_build iop_load iop_nilc iop_fadr iop_fld iop_iadA iop_iadS iop_ext iop_mkf iop_len iop_lens iop_minmax iop_al iop_box iop_bsl iop_store iop_call iop_callv iop_app BIN_add BIN_sub BIN_mul BIN_and BIN_or BIN_xor BIN_andNot BIN_eql BIN_neq BIN_lss BIN_leq BIN_gtr BIN_geq BIN_quo BIN_rem BIN_shl BIN_shr BIN_sadd BIN_seql BIN_sneq BIN_slss BIN_sleq BIN_sgtr BIN_sgeq UN_neg UN_xor UN_not MM_nil MM_cons partsA argsA ptrA lessL eqL min2I slotN_int slotP_int slotI_int
/-! Regions of the reference, walked: usable, insert, rows. Conditions: as each lemma states them. -/
section
namespace Go.Proofs.YtmpncpamndhmcaaGreat
open Go Go.Ab Go.RowKit

attribute [local simp] rc_len rc_t4 rc_t1 rc_t2 rc_t3 rc_d1 rc_d2 rc_d3 rc_d4 rc_ag rc_one rc_eq

def usF (r : R) : Bool := decide (-16384 ≤ r.x0) && (decide (-16384 ≤ r.y0) && (decide (r.x1 ≤ 16384) && (decide (r.y1 ≤ 16384) && (decide (r.x0 < r.x1) && decide (r.y0 < r.y1)))))
theorem usF_eq (r : R) : usF r = !rempty r := by
  by_cases h : rempty r = false
  · rw [h]
    have := rempty_ok r h
    simp [usF]; omega
  · have h2 : rempty r = true := by simpa using h
    rw [h2]
    cases e : usF r with
    | false => rfl
    | true =>
      exfalso
      have : rempty r = false := rempty_of r (by simp [usF] at e; omega)
      rw [this] at h2; cases h2
theorem c71 (r : R) : PC Tryz.prog 71 [.ag (rc r)] (vb (usF r)) := by
  refine .tell fun H => ?_
  refine call_c follows cf71_ok (by simp) ?_
  repeat' (first | simp [*] | (with_reducible (refine newK_of fun _ h_ => ?_); have hn_ := free_ne h_; (try simp only [upd_none', ne_eq] at h_)) | (with_reducible (refine condK_of (fun h_ => ?_) (fun h_ => ?_))))
  all_goals ((try with_reducible refine And.intro ?_ ?_) <;> (try (repeat' (first | with_reducible exact Sub.refl _ | with_reducible refine Sub.of_upd (by simp [*]) ?_))))
  all_goals (simp_all [usF] <;> omega)
theorem insI_all {k : Int} : ∀ {l : List Int}, (∀ x ∈ l, x < k) → insI k l = l ++ [k]
  | [], _ => rfl
  | x :: l, h => by
    have h1 := h x (by simp)
    unfold insI
    rw [if_neg (by omega), if_neg (by omega), insI_all fun y hy => h y (by simp [hy])]
    rfl
theorem insI_mid {k : Int} : ∀ {p q : List Int}, (∀ x ∈ p, x < k) → insI k (p ++ q) = p ++ insI k q
  | [], q, _ => rfl
  | x :: p, q, h => by
    have h1 := h x (by simp)
    rw [List.cons_append]
    conv => lhs; unfold insI
    rw [if_neg (by omega), if_neg (by omega), insI_mid fun y hy => h y (by simp [hy])]
    rfl
theorem insI_lt {k x : Int} {l : List Int} (h : k < x) : insI k (x :: l) = k :: x :: l := by simp [insI, h]
theorem insI_eq {k : Int} {l : List Int} : insI k (k :: l) = k :: l := by simp [insI]
theorem c143 {H : AH} {K : AV → AH → Prop} {a : AV} {l : List Int} {k : Int} (ha : Ri H a l) (hl : l.length ≤ 10000000)
    (hk : ∀ out H', Row H H' out ((insI k l).map vi) (insI k l).length 1 → K out H') : @AC Tryz.prog 143 [a, vi k] H ⟨K⟩ := by
  have la := fun k => ha.lenK (k := k)
  refine AC_of (.forget ?_)
  refine call_c follows cf143_ok (by simp) ?_
  simp
  refine wpc_loop (fun s => ∃ (i : Nat) (out : AV) (d : Bool) (o : List Int), s.n = 48 ∧ s.t 0 = a ∧ s.t 1 = vi k ∧ s.t 6 = vb d ∧ s.t 5 = out ∧ s.t 7 = vi i ∧ i ≤ l.length ∧ o.length ≤ i + 1 ∧ Row H s.H out (o.map vi) o.length 1 ∧
      (if d = true then o ++ l.drop i = insI k l else (o = l.take i ∧ ∀ x ∈ o, x < k))) (fun s => l.length - slotN (s.t 7)) ?_ ?_
  · exact FgK.same ⟨0, vnil, false, [], by simp, by simp, by simp, by simp, by simp, by simp, by omega, by simp, by simpa using Row.nil H 1, by simp⟩
  rintro s ⟨i, out, d, o, hn, e0, e1, e6, e5, e7, hi, hol, hro, hd⟩
  generalize hHeq : s.H = Hs at *
  by_cases hlt : i < l.length
  · have wr := IntWalk.i64_in ((i : Int) + 1) (by omega)
    obtain ⟨p, hp1, hp2⟩ := ha.see hlt
    have dr : l.drop i = l[i] :: l.drop (i + 1) := List.drop_eq_getElem_cons hlt
    have et := take_snoc' hlt
    generalize l[i] = x at *
    have push : ∀ (v : Int) (o : List Int) (G G' : AH) (out : AV), o.length ≤ i + 2 → Row H G out (o.map vi) o.length 1 → Sub G G' → ∀ q, G' q = none → ∀ (kk : AV → AH → Prop), (∀ r H', H r = none → Sub (upd H r (.cells ((o ++ [v]).map vi))) H' → kk (.sl r 0 (o.length + 1) 1 false) H') → @appK (upd G' q (.cells [vi v])) 1 8 out 1 [vi v] ⟨kk⟩ := by
      intro v o G G' out ho hro hGG q hq kk hk2
      have hS2 : Sub G (upd G' q (.cells [vi v])) := hGG.trans ((Sub.refl G').upd hq)
      refine hro.app hS2 (by decide) (by simp) (by simp) (by omega) fun r H' hr hsr => ?_
      rw [show o.map vi ++ [vi v] = (o ++ [v]).map vi by simp] at hsr
      exact hk2 r H' hr hsr
    cases d with
    | true =>
      rw [if_pos rfl] at hd
      simp (disch := omega) [hn, hHeq, e0, e1, e5, e6, e7, la, hlt, hp1, hp2 _ hro.sub]
      refine newK_of fun q hq => ?_
      generalize hx4 : AV.sl q 0 1 1 true = x4
      have hnw : ∀ k : Nat → List AV → Prop, @NEWS (upd Hs q (.cells [vi x])) x4 1 ⟨k⟩ = k 1 [vi x] := by intro k; rw [← hx4]; simp
      simp [hnw]
      refine push x o Hs Hs out (by omega) hro (Sub.refl _) q hq _ fun r H' hr hsr => ?_
      simp (disch := omega) [wr]
      refine FgK.of _ hsr ⟨⟨i + 1, .sl r 0 (o.length + 1) 1 false, true, o ++ [x], by simp, by simp, by simp, by simp, by simp, by simp, by omega, by simp; omega, ?_, ?_⟩, by simp [e7]; omega⟩
      · rw [List.length_append]; exact Row.mk hr
      · rw [if_pos rfl, List.append_assoc, List.singleton_append, ← dr]; exact hd
    | false =>
      rw [if_neg (by simp)] at hd
      obtain ⟨hd1, hd2⟩ := hd
      have hoi : o.length ≤ i := by rw [hd1, List.length_take]; omega
      have hins : insI k l = o ++ insI k (x :: l.drop (i + 1)) := by
        conv => lhs; rw [← List.take_append_drop i l, ← hd1, dr]
        exact insI_mid hd2
      by_cases h1 : k ≤ x
      · by_cases h2 : k < x
        · have hi2 : insI k (x :: l.drop (i + 1)) = k :: x :: l.drop (i + 1) := insI_lt h2
          simp (disch := omega) [hn, hHeq, e0, e1, e5, e6, e7, la, hlt, hp1, hp2 _ hro.sub, h1, h2]
          refine newK_of fun q hq => ?_
          generalize hx4 : AV.sl q 0 1 1 true = x4
          have hnw : ∀ kk : Nat → List AV → Prop, @NEWS (upd Hs q (.cells [vi k])) x4 1 ⟨kk⟩ = kk 1 [vi k] := by intro kk; rw [← hx4]; simp
          simp [hnw]
          refine push k o Hs Hs out (by omega) hro (Sub.refl _) q hq _ fun r H' hr hsr => ?_
          have hro2 : Row H (upd H r (.cells ((o ++ [k]).map vi))) (.sl r 0 (o.length + 1) 1 false) ((o ++ [k]).map vi) (o ++ [k]).length 1 := by rw [List.length_append]; exact Row.mk hr
          generalize hx8 : AV.sl r 0 (o.length + 1) 1 false = x8 at *
          have hls : (o ++ [k]).length = o.length + 1 := by simp
          have hSr : Sub H H' := ((Sub.refl H).upd hr).trans hsr
          simp (disch := omega) [hp1, hp2 _ hSr]
          refine newK_of fun q2 hq2 => ?_
          generalize hx4' : AV.sl q2 0 1 1 true = x4'
          have hnw2 : ∀ kk : Nat → List AV → Prop, @NEWS (upd H' q2 (.cells [vi x])) x4' 1 ⟨kk⟩ = kk 1 [vi x] := by intro kk; rw [← hx4']; simp
          simp [hnw2]
          refine push x (o ++ [k]) _ H' x8 (by omega) hro2 hsr q2 hq2 _ fun r2 H2 hr2 hsr2 => ?_
          simp (disch := omega) [wr]
          refine FgK.of _ hsr2 ⟨⟨i + 1, .sl r2 0 ((o ++ [k]).length + 1) 1 false, true, o ++ [k] ++ [x], by simp, by simp, by simp, by simp, by simp, by simp, by omega, by simp; omega, ?_, ?_⟩, by simp [e7]; omega⟩
          · have e3 : (o ++ [k] ++ [x]).length = (o ++ [k]).length + 1 := by simp
            rw [e3]; exact Row.mk hr2
          · rw [if_pos rfl, hins, hi2]; simp
        · obtain rfl : k = x := by omega
          have hi2 : insI k (k :: l.drop (i + 1)) = k :: l.drop (i + 1) := insI_eq
          simp (disch := omega) [hn, hHeq, e0, e1, e5, e6, e7, la, hlt, hp1, hp2 _ hro.sub]
          refine newK_of fun q hq => ?_
          generalize hx4 : AV.sl q 0 1 1 true = x4
          have hnw : ∀ kk : Nat → List AV → Prop, @NEWS (upd Hs q (.cells [vi k])) x4 1 ⟨kk⟩ = kk 1 [vi k] := by intro kk; rw [← hx4]; simp
          simp [hnw]
          refine push k o Hs Hs out (by omega) hro (Sub.refl _) q hq _ fun r H' hr hsr => ?_
          simp (disch := omega) [wr]
          refine FgK.of _ hsr ⟨⟨i + 1, .sl r 0 (o.length + 1) 1 false, true, o ++ [k], by simp, by simp, by simp, by simp, by simp, by simp, by omega, by simp; omega, ?_, ?_⟩, by simp [e7]; omega⟩
          · rw [List.length_append]; exact Row.mk hr
          · rw [if_pos rfl, hins, hi2, List.append_assoc]; rfl
      · simp (disch := omega) [hn, hHeq, e0, e1, e5, e6, e7, la, hlt, hp1, hp2 _ hro.sub, h1]
        refine newK_of fun q hq => ?_
        generalize hx4 : AV.sl q 0 1 1 true = x4
        have hnw : ∀ k : Nat → List AV → Prop, @NEWS (upd Hs q (.cells [vi x])) x4 1 ⟨k⟩ = k 1 [vi x] := by intro k; rw [← hx4]; simp
        simp [hnw]
        refine push x o Hs Hs out (by omega) hro (Sub.refl _) q hq _ fun r H' hr hsr => ?_
        simp (disch := omega) [wr]
        refine FgK.of _ hsr ⟨⟨i + 1, .sl r 0 (o.length + 1) 1 false, false, o ++ [x], by simp, by simp, by simp, by simp, by simp, by simp, by omega, by simp; omega, ?_, ?_⟩, by simp [e7]; omega⟩
        · rw [List.length_append]; exact Row.mk hr
        · rw [if_neg (by simp)]
          refine ⟨by rw [et, hd1], fun z hz => ?_⟩
          rcases List.mem_append.1 hz with hz | hz
          · exact hd2 z hz
          · rw [List.mem_singleton.1 hz]; omega
  · have hil : i = l.length := by omega
    subst hil
    cases d with
    | true =>
      rw [if_pos rfl, List.drop_length, List.append_nil] at hd
      subst hd
      simp (disch := omega) [hn, hHeq, e0, e1, e5, e6, e7, la]
      exact ⟨Hs, Sub.refl _, hk _ _ hro⟩
    | false =>
      rw [if_neg (by simp), List.take_length] at hd
      obtain ⟨rfl, hd2⟩ := hd
      rw [insI_all hd2] at hk
      simp (disch := omega) [hn, hHeq, e0, e1, e5, e6, e7, la]
      refine newK_of fun q hq => ?_
      have hS2 : Sub Hs (upd Hs q (.cells [vi k])) := (Sub.refl Hs).upd hq
      generalize hx4 : AV.sl q 0 1 1 true = x4
      have hnw : ∀ kk : Nat → List AV → Prop, @NEWS (upd Hs q (.cells [vi k])) x4 1 ⟨kk⟩ = kk 1 [vi k] := by intro kk; rw [← hx4]; simp
      simp [hnw]
      refine hro.app hS2 (by decide) (by simp) (by simp) (by omega) fun r H' hr hsr => ?_
      rw [show o.map vi ++ [vi k] = (o ++ [k]).map vi by simp] at hsr
      simp
      refine ⟨_, hsr, hk _ _ ?_⟩
      rw [List.length_append]; exact Row.mk hr
/-- The rows of a list of rectangles, added to others. -/
def rowsF (l : List R) (ys : List Int) : List Int := (cl l).foldl (fun ys r => insI r.y1 (insI r.y0 ys)) ys
theorem rowsF_len (l : List R) : ∀ ys : List Int, (rowsF l ys).length ≤ ys.length + 2 * l.length := by
  have : ∀ (l : List R) (ys : List Int), (l.foldl (fun ys r => insI r.y1 (insI r.y0 ys)) ys).length ≤ ys.length + 2 * l.length := by
    intro l
    induction l with
    | nil => intro ys; simp
    | cons r l ih =>
      intro ys
      have h1 := ih (insI r.y1 (insI r.y0 ys))
      have h2 := insI_len (k := r.y1) (l := insI r.y0 ys)
      have h3 := insI_len (k := r.y0) (l := ys)
      rw [List.foldl_cons, List.length_cons]; omega
  intro ys
  have h1 := this (cl l) ys
  have h2 := cl_len l
  unfold rowsF; omega
theorem rowsF_snoc (l : List R) (r : R) (ys : List Int) : rowsF (l ++ [r]) ys = if usF r = true then insI r.y1 (insI r.y0 (rowsF l ys)) else rowsF l ys := by
  unfold rowsF
  rw [cl_push, usF_eq]
  cases rempty r <;> simp [List.foldl_append]
theorem c134 {H : AH} {K : AV → AH → Prop} {a b : AV} {l : List R} {ys : List Int} (ha : Rr H a l) (hb : Ri H b ys) (hl : l.length ≤ 1000000) (hy : ys.length ≤ 3000000)
    (hk : ∀ out H', Sub H H' → Ri H' out (rowsF l ys) → K out H') : @AC Tryz.prog 134 [a, b] H ⟨K⟩ := by
  have la := fun k => Rw.lenK ha (k := k)
  have cb := hb.cells
  refine call_c follows cf134_ok (by simp) ?_
  simp
  refine wpc_loop (fun s => ∃ (i : Nat) (o : AV), s.n = 31 ∧ s.t 0 = a ∧ s.t 1 = o ∧ s.t 5 = vi i ∧ i ≤ l.length ∧ Sub H s.H ∧ Ri s.H o (rowsF (l.take i) ys)) (fun s => l.length - slotN (s.t 5)) ?_ ?_
  · exact FgK.same ⟨0, b, by simp, by simp, by simp, by simp, by omega, Sub.refl _, by simpa [rowsF, cl] using hb⟩
  rintro s ⟨i, o, hn, e0, e1, e5, hi, hS, hro⟩
  generalize hHeq : s.H = Hs at *
  have hlen := rowsF_len (l.take i) ys
  have htk : (l.take i).length ≤ i := by simp; omega
  by_cases hlt : i < l.length
  · have wr := IntWalk.i64_in ((i : Int) + 1) (by omega)
    obtain ⟨p, hp1, hp2, hpf⟩ := fat rc_l ha hlt
    have et := rowsF_snoc (l.take i) l[i] ys
    rw [← take_snoc' hlt] at et
    generalize l[i] = x at *
    obtain ⟨q1, f1, g1⟩ := hpf 1 (vi x.y0) rfl
    obtain ⟨q3, f3, g3⟩ := hpf 3 (vi x.y1) rfl
    simp (disch := omega) [hn, hHeq, e0, e1, e5, la, hlt, hp1, hp2 _ hS]
    refine (c71 _).ac ?_
    cases hu : usF x with
    | false =>
      rw [hu, if_neg (by simp)] at et
      simp (disch := omega) [wr]
      exact FgK.same ⟨⟨i + 1, o, by simp, by simp, by simp, by simp, by omega, hS, by rw [et]; exact hro⟩, by simp [e5]; omega⟩
    | true =>
      rw [hu, if_pos rfl] at et
      simp (disch := omega) [hp1, f1, g1 _ hS, f3, g3 _ hS]
      refine c143 hro (by omega) fun o1 H1 h1 => ?_
      have hS1 := hS.trans h1.sub
      have l1 := insI_len (k := x.y0) (l := rowsF (l.take i) ys)
      simp [g3 _ hS1]
      refine c143 h1.ri (by omega) fun o2 H2 h2 => ?_
      simp (disch := omega) [wr]
      exact FgK.same ⟨⟨i + 1, o2, by simp, by simp, by simp, by simp, by omega, hS1.trans h2.sub, by rw [et]; exact h2.ri⟩, by simp [e5]; omega⟩
  · rw [List.take_of_length_le (by omega)] at hro
    have co := hro.cells
    simp (disch := omega) [hn, hHeq, e0, e1, e5, la, hlt]
    exact hk _ _ hS hro
end Go.Proofs.YtmpncpamndhmcaaGreat
end

/-! Regions of the reference, walked: add. Conditions: as each lemma states them. -/
section
namespace Go.Proofs.YtmpncpamndhmcaaGreat
open Go Go.Ab Go.RowKit

attribute [local simp] rc_len rc_t4 rc_t1 rc_t2 rc_t3 rc_d1 rc_d2 rc_d3 rc_d4 rc_ag rc_one rc_eq

theorem Row.swap {H Hm Hs : AH} {a b : AV} {ca cb : List AV} {na nb sa sb : Nat} (h1 : Row H Hm a ca na sa) (h2 : Row Hm Hs b cb nb sb) : ∃ Hm', Row H Hm' b cb nb sb ∧ Row Hm' Hs a ca na sa := by
  rcases h1 with ⟨a1, a2, rfl, rfl⟩ | ⟨ra, rfl, hra, rfl⟩
  · exact ⟨Hs, h2, .inl ⟨a1, a2, rfl, rfl⟩⟩
  · rcases h2 with ⟨b1, b2, rfl, rfl⟩ | ⟨rb, rfl, hrb, rfl⟩
    · exact ⟨H, .inl ⟨b1, b2, rfl, rfl⟩, Row.mk hra⟩
    · obtain ⟨n1, n2, hb⟩ := upd_none'.1 hrb
      refine ⟨_, Row.mk hb, .inr ⟨ra, rfl, ?_, ?_⟩⟩
      · simp only [upd_apply]; rw [if_neg n2]; exact hra
      · funext j
        simp only [upd_apply]
        by_cases e1 : j = rb
        · subst e1; rw [if_pos rfl, if_neg n1, if_pos rfl]
        · rw [if_neg e1]
          by_cases e2 : j = ra
          · rw [if_pos e2, if_pos e2]
          · rw [if_neg e2, if_neg e2, if_neg e1]
theorem cutsL_at {rs : List Rn} {j : Nat} (h : j < rs.length) : ∃ (h1 : 2 * j < (cutsL rs).length) (h2 : 2 * j + 1 < (cutsL rs).length), (cutsL rs)[2 * j] = rs[j].1 ∧ (cutsL rs)[2 * j + 1] = rs[j].2 := by
  have hl := cutsL_len rs
  refine ⟨by omega, by omega, ?_⟩
  induction rs generalizing j with
  | nil => simp at h
  | cons r rs ih =>
    cases j with
    | zero => exact ⟨rfl, rfl⟩
    | succ j =>
      have := ih (j := j) (by simpa using h) (cutsL_len rs)
      have e : cutsL (r :: rs) = r.1 :: r.2 :: cutsL rs := rfl
      simp only [e, show 2 * (j + 1) = 2 * j + 1 + 1 by omega, List.getElem_cons_succ]
      exact this
theorem c145 {H : AH} {K : AV → AH → Prop} {a : AV} {rs : List Rn} {x0 x1 : Int} (ha : Ri H a (cutsL rs)) (hl : rs.length ≤ 10000000)
    (hk : ∀ out H', Row H H' out ((cutsL (addF rs x0 x1)).map vi) (cutsL (addF rs x0 x1)).length 1 → K out H') : @AC Tryz.prog 145 [a, vi x0, vi x1] H ⟨K⟩ := by
  have la := fun k => ha.lenK (k := k)
  have hcl := cutsL_len rs
  refine AC_of (.forget ?_)
  refine call_c follows cf145_ok (by simp) ?_
  simp
  refine wpc_loop (fun s => ∃ (j : Nat) (lo hi : AV) (Hm : AH) (st : List Rn × List Rn × Int × Int), s.n = 75 ∧ s.t 0 = a ∧ s.t 1 = vi st.2.2.1 ∧ s.t 2 = vi st.2.2.2 ∧ s.t 7 = lo ∧ s.t 8 = hi ∧ s.t 9 = vi (2 * j : Nat) ∧ j ≤ rs.length ∧ st = (rs.take j).foldl astep ([], [], x0, x1) ∧ st.1.length ≤ j ∧ st.2.1.length ≤ j ∧
      Row H Hm lo ((cutsL st.1).map vi) (cutsL st.1).length 1 ∧ Row Hm s.H hi ((cutsL st.2.1).map vi) (cutsL st.2.1).length 1) (fun s => 2 * rs.length - slotN (s.t 9)) ?_ ?_
  · exact FgK.same ⟨0, vnil, vnil, H, ([], [], x0, x1), by simp, by simp, by simp, by simp, by simp, by simp, by simp, by omega, by simp, by simp, by simp, by simpa [cutsL] using Row.nil H 1, by simpa [cutsL] using Row.nil H 1⟩
  rintro s ⟨j, lo, hi, Hm, st, hn, e0, e1, e2, e7, e8, e9, hj, hst, hl1, hl2, hlo, hhi⟩
  obtain ⟨low, high, y0, y1⟩ := st
  simp only at e1 e2 hl1 hl2 hlo hhi
  generalize hHeq : s.H = Hs at *
  have hSs : Sub H Hs := hlo.sub.trans hhi.sub
  have c1 := cutsL_len low
  have c2 := cutsL_len high
  by_cases hlt : j < rs.length
  · obtain ⟨b1, b2, v1, v2⟩ := cutsL_at hlt
    have wr := IntWalk.i64_in (((2 * j : Nat) : Int) + 1) (by omega)
    have wr2 := IntWalk.i64_in (((2 * j : Nat) : Int) + 2) (by omega)
    have hlt' : ((2 * j : Nat) : Int) < (cutsL rs).length := by omega
    obtain ⟨p, hp1, hp2⟩ := ha.see b1
    obtain ⟨q, hq1, hq2⟩ := ha.see b2
    rw [v1] at hp2
    rw [v2] at hq2
    rw [show ((2 * j + 1 : Nat) : Int) = ((2 * j : Nat) : Int) + 1 by omega] at hq1
    have et : (rs.take (j + 1)).foldl astep ([], [], x0, x1) = astep (low, high, y0, y1) rs[j] := by rw [take_snoc' hlt, List.foldl_append, ← hst]; rfl
    have hjj : ((2 * (j + 1) : Nat) : Int) = ((2 * j : Nat) : Int) + 2 := by omega
    have hmj : 2 * rs.length - (2 * (j + 1)) < 2 * rs.length - 2 * j := by omega
    generalize rs[j] = x at *
    obtain ⟨xa, xb⟩ := x
    simp only at hp2 hq2
    generalize hJ : ((2 * j : Nat) : Int) = J at *
    have w0 : ∀ (G G' : AH) (out : AV) (o : List Rn), o.length ≤ j → Row G G' out ((cutsL o).map vi) (cutsL o).length 1 → ∀ (G2 : AH), Sub G' G2 → ∀ q, G2 q = none → ∀ (kk : AV → AH → Prop), (∀ r H', G r = none → Sub (upd G r (.cells ((cutsL (o ++ [(xa, xb)])).map vi))) H' → kk (.sl r 0 ((cutsL o).length + 2) 1 false) H') → @appK (upd G2 q (.cells [vi xa, vi xb])) 1 8 out 2 [vi xa, vi xb] ⟨kk⟩ := by
      intro G G' out o ho hro G2 hs q hq kk hk2
      have co := cutsL_len o
      refine hro.app (hs.trans ((Sub.refl G2).upd hq)) (by decide) (by simp) (by simp) (by omega) fun r H' hr hsr => ?_
      rw [show (cutsL o).map vi ++ [vi xa, vi xb] = (cutsL (o ++ [(xa, xb)])).map vi by rw [cutsL_snoc]; simp] at hsr
      exact hk2 r H' hr hsr
    have done : ∀ (o : List Rn) (r : Nat) (G : AH), G r = none → Row G (upd G r (.cells ((cutsL (o ++ [(xa, xb)])).map vi))) (.sl r 0 ((cutsL o).length + 2) 1 false) ((cutsL (o ++ [(xa, xb)])).map vi) (cutsL (o ++ [(xa, xb)])).length 1 := by
      intro o r G hr
      have e : (cutsL (o ++ [(xa, xb)])).length = (cutsL o).length + 2 := by rw [cutsL_snoc]; simp
      rw [e]; exact Row.mk hr
    by_cases h1 : xb < y0
    · have ha1 : astep (low, high, y0, y1) (xa, xb) = (low ++ [(xa, xb)], high, y0, y1) := by simp [astep, h1]
      simp (disch := omega) [hn, hHeq, e0, e1, e2, e7, e8, e9, la, hlt', hp1, hp2 _ hSs, hq1, hq2 _ hSs, wr, h1]
      refine newK_of fun q2 hq3 => ?_
      generalize hx4 : AV.sl q2 0 2 1 true = x4
      have hnw : ∀ k : Nat → List AV → Prop, @NEWS (upd Hs q2 (.cells [vi xa, vi xb])) x4 1 ⟨k⟩ = k 2 [vi xa, vi xb] := by intro k; rw [← hx4]; simp
      simp [hnw]
      obtain ⟨Hm', s1, s2⟩ := Row.swap hlo hhi
      refine w0 Hm' Hs lo low hl1 s2 Hs (Sub.refl _) q2 hq3 _ fun r H' hr hsr => ?_
      obtain ⟨Hm2, s3, s4⟩ := Row.swap s1 (done low r Hm' hr)
      simp (disch := omega) [wr2]
      refine FgK.of _ hsr ⟨⟨j + 1, .sl r 0 ((cutsL low).length + 2) 1 false, hi, Hm2, (low ++ [(xa, xb)], high, y0, y1), by simp, by simp, by simp, by simp, by simp, by simp, by simp [hjj], by omega, by rw [et, ha1], by simp; omega, by simp only; omega, s3, s4⟩, by simp [e9, slotN]; omega⟩
    · by_cases h2 : y1 < xa
      · have ha1 : astep (low, high, y0, y1) (xa, xb) = (low, high ++ [(xa, xb)], y0, y1) := by simp [astep, h1, h2]
        simp (disch := omega) [hn, hHeq, e0, e1, e2, e7, e8, e9, la, hlt', hp1, hp2 _ hSs, hq1, hq2 _ hSs, wr, h1, h2]
        refine newK_of fun q2 hq3 => ?_
        generalize hx4 : AV.sl q2 0 2 1 true = x4
        have hnw : ∀ k : Nat → List AV → Prop, @NEWS (upd Hs q2 (.cells [vi xa, vi xb])) x4 1 ⟨k⟩ = k 2 [vi xa, vi xb] := by intro k; rw [← hx4]; simp
        simp [hnw]
        refine w0 Hm Hs hi high hl2 hhi Hs (Sub.refl _) q2 hq3 _ fun r H' hr hsr => ?_
        simp (disch := omega) [wr2]
        refine FgK.of _ hsr ⟨⟨j + 1, lo, .sl r 0 ((cutsL high).length + 2) 1 false, Hm, (low, high ++ [(xa, xb)], y0, y1), by simp, by simp, by simp, by simp, by simp, by simp, by simp [hjj], by omega, by rw [et, ha1], by simp only; omega, by simp; omega, hlo, done high r Hm hr⟩, by simp [e9, slotN]; omega⟩
      · have ha1 : astep (low, high, y0, y1) (xa, xb) = (low, high, min y0 xa, max y1 xb) := by simp [astep, h1, h2]
        have hmn : (if xa < y0 then xa else y0) = min y0 xa := by omega
        have hmx : (if y1 < xb then xb else y1) = max y1 xb := by omega
        simp (disch := omega) [hn, hHeq, e0, e1, e2, e7, e8, e9, la, hlt', hp1, hp2 _ hSs, hq1, hq2 _ hSs, wr, wr2, h1, h2, hmn, hmx]
        refine FgK.same ⟨⟨j + 1, lo, hi, Hm, (low, high, min y0 xa, max y1 xb), by simp, by simp, by simp, by simp, by simp, by simp, by simp [hjj], by omega, by rw [et, ha1], by simp only; omega, by simp only; omega, hlo, hhi⟩, by simp [e9, slotN]; omega⟩
  · have hlt' : ¬ ((2 * j : Nat) : Int) < (cutsL rs).length := by omega
    rw [List.take_of_length_le (by omega)] at hst
    have hadd : addF rs x0 x1 = low ++ [(y0, y1)] ++ high := by unfold addF; rw [← hst]
    generalize hJ : ((2 * j : Nat) : Int) = J at *
    obtain ⟨Hm', s1, s2⟩ := Row.swap hlo hhi
    simp (disch := omega) [hn, hHeq, e0, e1, e2, e7, e8, e9, la, hlt']
    refine newK_of fun q2 hq3 => ?_
    generalize hx4 : AV.sl q2 0 2 1 true = x4
    have hnw : ∀ k : Nat → List AV → Prop, @NEWS (upd Hs q2 (.cells [vi y0, vi y1])) x4 1 ⟨k⟩ = k 2 [vi y0, vi y1] := by intro k; rw [← hx4]; simp
    simp [hnw]
    refine s2.app (m := 2) ((Sub.refl Hs).upd hq3) (by decide) (by simp) (by simp) (by omega) fun r H' hr hsr => ?_
    have hhr : Rw H' hi ((cutsL high).map vi) (cutsL high).length 1 := Rw.sub (s1.ri) (((Sub.refl Hm').upd hr).trans hsr)
    have hnw2 : ∀ k : Nat → List AV → Prop, @NEWS H' hi 1 ⟨k⟩ = k (cutsL high).length ((cutsL high).map vi) := fun k => Rw.news hhr
    have hx8 : ∃ x8, x8 = AV.sl r 0 ((cutsL low).length + 2) 1 false := ⟨_, rfl⟩
    obtain ⟨x8, hx8⟩ := hx8
    rw [← hx8]
    simp [hnw2]
    rw [hx8]
    refine sl_app hr hsr (by simp) (by simp) (by omega) fun r2 H2 hr2 hsr2 => ?_
    simp
    obtain ⟨H0, z1, z2⟩ := Row.base s1.sub (Row.mk (cs := (cutsL low).map vi ++ [vi y0, vi y1] ++ (cutsL high).map vi) (n := (cutsL low).length + 2 + (cutsL high).length) (sz := 1) hr2)
    have ecs : (cutsL low).map vi ++ [vi y0, vi y1] ++ (cutsL high).map vi = (cutsL (addF rs x0 x1)).map vi := by rw [hadd]; simp [cutsL]
    have eln : (cutsL low).length + 2 + (cutsL high).length = (cutsL (addF rs x0 x1)).length := by rw [hadd]; simp [cutsL]; omega
    rw [ecs] at z1 z2
    rw [eln] at z2 ⊢
    rw [ecs] at hsr2
    exact ⟨H0, z1.trans hsr2, hk _ _ z2⟩
end Go.Proofs.YtmpncpamndhmcaaGreat
end

/-! Regions of the reference, walked: row, in, merged, sameRuns. Conditions: as each lemma states them. -/
section
namespace Go.Proofs.YtmpncpamndhmcaaGreat
open Go Go.Ab Go.RowKit

attribute [local simp] rc_len rc_t4 rc_t1 rc_t2 rc_t3 rc_d1 rc_d2 rc_d3 rc_d4 rc_ag rc_one rc_eq

theorem sumF_snoc (l : List Rn) (r : Rn) : sumF (l ++ [r]) = addF (sumF l) r.1 r.2 := by simp [sumF, List.foldl_append]
def rrF (l : List R) (y : Int) : List Rn := sumF (rsF (cl l) y)
theorem rrF_len (l : List R) (y : Int) : (rrF l y).length ≤ l.length := by
  have h1 := sumF_len (l := rsF (cl l) y) fun r hr => (rsF_ok (cl_ok l) r hr).1
  have h2 := rsF_len (cl l) y
  have h3 := cl_len l
  unfold rrF; omega
theorem rrF_snoc (l : List R) (r : R) (y : Int) : rrF (l ++ [r]) y = if usF r = true ∧ r.y0 ≤ y ∧ y < r.y1 then addF (rrF l y) r.x0 r.x1 else rrF l y := by
  unfold rrF
  rw [cl_push, usF_eq]
  cases h : rempty r with
  | true => simp
  | false =>
    simp only [Bool.false_eq_true, if_false, Bool.not_false, true_and]
    rw [rsF_push]
    by_cases h2 : r.y0 ≤ y ∧ y < r.y1
    · rw [if_pos (by simp [h2]), if_pos h2, sumF_snoc]
    · rw [if_neg (by simpa using h2), if_neg h2]
/-- A row that was not there ahead. -/
def Ow (H Hs : AH) (o : AV) (l : List Int) : Prop := ∃ H0, Sub H0 Hs ∧ Row H H0 o (l.map vi) l.length 1
theorem Ow.nil (H : AH) : Ow H H vnil [] := ⟨H, Sub.refl _, Row.nil H 1⟩
theorem Ow.ri {H Hs : AH} {o : AV} {l : List Int} (h : Ow H Hs o l) : Ri Hs o l := by
  obtain ⟨H0, h1, h2⟩ := h
  exact Rw.sub h2.ri h1
theorem c136 {H : AH} {K : AV → AH → Prop} {a : AV} {l : List R} {y : Int} (ha : Rr H a l) (hl : l.length ≤ 1000000)
    (hk : ∀ out H', Row H H' out ((cutsL (rrF l y)).map vi) (cutsL (rrF l y)).length 1 → K out H') : @AC Tryz.prog 136 [a, vi y] H ⟨K⟩ := by
  have la := fun k => Rw.lenK ha (k := k)
  refine AC_of (.forget ?_)
  refine call_c follows cf136_ok (by simp) ?_
  simp
  refine wpc_loop (fun s => ∃ (i : Nat) (o : AV), s.n = 49 ∧ s.t 0 = a ∧ s.t 1 = vi y ∧ s.t 5 = o ∧ s.t 6 = vi i ∧ i ≤ l.length ∧ Sub H s.H ∧ Ow H s.H o (cutsL (rrF (l.take i) y))) (fun s => l.length - slotN (s.t 6)) ?_ ?_
  · exact FgK.same ⟨0, vnil, by simp, by simp, by simp, by simp, by simp, by omega, Sub.refl _, Ow.nil H⟩
  rintro s ⟨i, o, hn, e0, e1, e5, e6, hi, hS, hro⟩
  generalize hHeq : s.H = Hs at *
  have hlen := rrF_len (l.take i) y
  have htk : (l.take i).length ≤ i := by simp; omega
  by_cases hlt : i < l.length
  · have wr := IntWalk.i64_in ((i : Int) + 1) (by omega)
    obtain ⟨p, hp1, hp2, hpf⟩ := fat rc_l ha hlt
    have et := rrF_snoc (l.take i) l[i] y
    rw [← take_snoc' hlt] at et
    generalize l[i] = x at *
    obtain ⟨q0, f0, g0⟩ := hpf 0 (vi x.x0) rfl
    obtain ⟨q1, f1, g1⟩ := hpf 1 (vi x.y0) rfl
    obtain ⟨q2, f2, g2⟩ := hpf 2 (vi x.x1) rfl
    obtain ⟨q3, f3, g3⟩ := hpf 3 (vi x.y1) rfl
    simp (disch := omega) [hn, hHeq, e0, e1, e5, e6, la, hlt, hp1, hp2 _ hS]
    refine (c71 _).ac ?_
    by_cases hc : usF x = true ∧ x.y0 ≤ y ∧ y < x.y1
    · rw [if_pos hc] at et
      obtain ⟨hu, h1, h2⟩ := hc
      simp (disch := omega) [hp1, f1, g1 _ hS, f3, g3 _ hS, hu, h1, h2, f0, g0 _ hS, f2, g2 _ hS]
      refine c145 hro.ri (by omega) fun o1 H1 h1 => ?_
      simp (disch := omega) [wr]
      exact FgK.same ⟨⟨i + 1, o1, by simp, by simp, by simp, by simp, by simp, by omega, hS.trans h1.sub, by rw [et]; exact Row.base hS h1⟩, by simp [e6]; omega⟩
    · rw [if_neg hc] at et
      have fin : ∀ s1 : ASt, s1.n = 49 → s1.t 0 = a → s1.t 1 = vi y → s1.t 5 = o → s1.t 6 = vi ((i : Int) + 1) → s1.H = Hs → (∃ (i : Nat) (o : AV), s1.n = 49 ∧ s1.t 0 = a ∧ s1.t 1 = vi y ∧ s1.t 5 = o ∧ s1.t 6 = vi i ∧ i ≤ l.length ∧ Sub H s1.H ∧ Ow H s1.H o (cutsL (rrF (l.take i) y))) ∧ l.length - slotN (s1.t 6) < l.length - slotN (s.t 6) :=
        fun s1 h1 h2 h3 h4 h5 h6 => ⟨⟨i + 1, o, h1, h2, h3, h4, by rw [h5]; simp, by omega, by rw [h6]; exact hS, by rw [h6, et]; exact hro⟩, by rw [h5, e6]; simp [slotN]; omega⟩
      cases hu : usF x with
      | false =>
        simp (disch := omega) [wr]
        exact FgK.same (fin _ (by simp) (by simp) (by simp) (by simp) (by simp) rfl)
      | true =>
        by_cases h1 : x.y0 ≤ y
        · have h2 : ¬ y < x.y1 := fun h2 => hc ⟨hu, h1, h2⟩
          simp (disch := omega) [hp1, f1, g1 _ hS, f3, g3 _ hS, h1, h2, wr]
          exact FgK.same (fin _ (by simp) (by simp) (by simp) (by simp) (by simp) rfl)
        · simp (disch := omega) [hp1, f1, g1 _ hS, h1, wr]
          exact FgK.same (fin _ (by simp) (by simp) (by simp) (by simp) (by simp) rfl)
  · rw [List.take_of_length_le (by omega)] at hro
    have co := hro.ri.cells
    simp (disch := omega) [hn, hHeq, e0, e1, e5, e6, la, hlt]
    obtain ⟨H0, z1, z2⟩ := hro
    exact ⟨H0, z1, hk _ _ z2⟩
theorem c144 {H : AH} {K : AV → AH → Prop} {a : AV} {rs : List Rn} {x : Int} (ha : Ri H a (cutsL rs)) (hl : rs.length ≤ 10000000) (hk : K (vb (cvF rs x)) H) : @AC Tryz.prog 144 [a, vi x] H ⟨K⟩ := by
  have la := fun k => ha.lenK (k := k)
  have hcl := cutsL_len rs
  refine AC_of (.forget ?_)
  refine call_c follows cf144_ok (by simp) ?_
  simp
  refine wpc_loop (fun s => ∃ (j : Nat), s.n = 27 ∧ s.H = H ∧ s.t 0 = a ∧ s.t 1 = vi x ∧ s.t 5 = vi (2 * j : Nat) ∧ j ≤ rs.length ∧ cvF (rs.take j) x = false) (fun s => 2 * rs.length - slotN (s.t 5)) ?_ ?_
  · exact FgK.same ⟨0, by simp, by simp, by simp, by simp, by simp, by omega, by simp [cvF]⟩
  rintro s ⟨j, hn, hH, e0, e1, e5, hj, hc⟩
  by_cases hlt : j < rs.length
  · obtain ⟨b1, b2, v1, v2⟩ := cutsL_at hlt
    have wr := IntWalk.i64_in (((2 * j : Nat) : Int) + 1) (by omega)
    have wr2 := IntWalk.i64_in (((2 * j : Nat) : Int) + 2) (by omega)
    have hlt' : ((2 * j : Nat) : Int) < (cutsL rs).length := by omega
    obtain ⟨p, hp1, hp2⟩ := ha.see b1
    obtain ⟨q, hq1, hq2⟩ := ha.see b2
    rw [v1] at hp2
    rw [v2] at hq2
    rw [show ((2 * j + 1 : Nat) : Int) = ((2 * j : Nat) : Int) + 1 by omega] at hq1
    have et := take_snoc' hlt
    have hcp : cvF (rs.take (j + 1)) x = (decide (rs[j].1 ≤ x) && decide (x < rs[j].2)) := by
      rw [et]; unfold cvF at hc ⊢; rw [List.any_append, hc]; simp
    have hall : (decide (rs[j].1 ≤ x) && decide (x < rs[j].2)) = true → cvF rs x = true := fun h => List.any_eq_true.2 ⟨rs[j], List.getElem_mem hlt, h⟩
    have hjj : ((2 * (j + 1) : Nat) : Int) = ((2 * j : Nat) : Int) + 2 := by omega
    generalize rs[j] = r at *
    generalize hJ : ((2 * j : Nat) : Int) = J at *
    by_cases h1 : r.1 ≤ x
    · by_cases h2 : x < r.2
      · have := hall (by simp [h1, h2])
        rw [this] at hk
        simp (disch := omega) [hn, hH, e0, e1, e5, la, hlt', hp1, hp2 _ (Sub.refl _), hq1, hq2 _ (Sub.refl _), wr, h1, h2]
        exact ⟨H, Sub.refl _, hk⟩
      · simp (disch := omega) [hn, hH, e0, e1, e5, la, hlt', hp1, hp2 _ (Sub.refl _), hq1, hq2 _ (Sub.refl _), wr, wr2, h1, h2]
        exact FgK.same ⟨⟨j + 1, by simp, by simp, by simp, by simp, by simp [hjj], by omega, by rw [hcp]; simp [h2]⟩, by simp [e5, slotN]; omega⟩
    · simp (disch := omega) [hn, hH, e0, e1, e5, la, hlt', hp1, hp2 _ (Sub.refl _), wr2, h1]
      exact FgK.same ⟨⟨j + 1, by simp, by simp, by simp, by simp, by simp [hjj], by omega, by rw [hcp]; simp [h1]⟩, by simp [e5, slotN]; omega⟩
  · rw [List.take_of_length_le (by omega)] at hc
    have hlt' : ¬ ((2 * j : Nat) : Int) < (cutsL rs).length := by omega
    generalize hJ : ((2 * j : Nat) : Int) = J at *
    rw [hc] at hk
    simp (disch := omega) [hn, hH, e0, e1, e5, la, hlt']
    exact ⟨H, Sub.refl _, hk⟩
end Go.Proofs.YtmpncpamndhmcaaGreat
end

/-! Regions of the reference, walked: merged, sameRuns. Conditions: as each lemma states them. -/
section
namespace Go.Proofs.YtmpncpamndhmcaaGreat
open Go Go.Ab Go.RowKit

attribute [local simp] rc_len rc_t4 rc_t1 rc_t2 rc_t3 rc_d1 rc_d2 rc_d3 rc_d4 rc_ag rc_one rc_eq

def insA (l xs : List Int) : List Int := l.foldl (fun xs x => insI x xs) xs
theorem insA_rising (l : List Int) : ∀ xs : List Int, xs.Pairwise (· < ·) → (insA l xs).Pairwise (· < ·) := by
  induction l with
  | nil => intro xs h; exact h
  | cons x l ih => intro xs h; exact ih _ (insI_rising h)
theorem insA_mem (l : List Int) : ∀ (xs : List Int) (y : Int), y ∈ insA l xs ↔ y ∈ l ∨ y ∈ xs := by
  induction l with
  | nil => intro xs y; simp [insA]
  | cons x l ih =>
    intro xs y
    have := ih (insI x xs) y
    simp only [insA, List.foldl_cons] at this ⊢
    rw [this, mem_insI, List.mem_cons]
    constructor
    · rintro (h | h | h) <;> simp [h]
    · rintro ((h | h) | h) <;> simp [h]
theorem insA_len (l : List Int) : ∀ xs : List Int, (insA l xs).length ≤ xs.length + l.length := by
  induction l with
  | nil => intro xs; simp [insA]
  | cons x l ih =>
    intro xs
    have h1 := ih (insI x xs)
    have h2 := insI_len (k := x) (l := xs)
    simp only [insA, List.foldl_cons, List.length_cons] at h1 ⊢
    omega
theorem insA_snoc (l xs : List Int) (x : Int) : insA (l ++ [x]) xs = insI x (insA l xs) := by simp [insA, List.foldl_append]
theorem insA_xs (a b : List Rn) : insA (cutsL b) (insA (cutsL a) []) = xsF (a ++ b) := by
  refine rising_eq _ _ (insA_rising _ _ (insA_rising _ _ .nil)) (xsF_rising _) fun y => ?_
  rw [insA_mem, insA_mem, mem_xsF]
  simp only [cutsL, List.mem_flatMap, List.mem_append, List.mem_cons, List.not_mem_nil, or_false]
  constructor
  · rintro (⟨r, h1, h2⟩ | ⟨r, h1, h2⟩)
    · exact ⟨r, .inr h1, h2⟩
    · exact ⟨r, .inl h1, h2⟩
  · rintro ⟨r, h1 | h1, h2⟩
    · exact .inr ⟨r, h1, h2⟩
    · exact .inl ⟨r, h1, h2⟩
def accK (keep : Int → Bool) (l : List Rn) : List Rn := sumF (l.filter fun p => keep p.1)
theorem accK_snoc (keep : Int → Bool) (l : List Rn) (p : Rn) : accK keep (l ++ [p]) = if keep p.1 = true then addF (accK keep l) p.1 p.2 else accK keep l := by
  unfold accK
  rw [List.filter_append]
  cases h : keep p.1 with
  | true => simp [h, sumF_snoc]
  | false => simp [h]
theorem accK_len {keep : Int → Bool} {l : List Rn} (h : ∀ p ∈ l, p.1 < p.2) : (accK keep l).length ≤ l.length :=
  Nat.le_trans (sumF_len fun r hr => h r (List.mem_filter.1 hr).1) (List.length_filter_le _ _)
def kM (m : Int) (x y : Bool) : Bool := if m = 1 then x || y else if m = 2 then x && y else if m = 3 then x && !y else false
theorem c135 {H : AH} {K : AV → AH → Prop} {a b : AV} {ra rb : List Rn} {m : Int} (ha : Ri H a (cutsL ra)) (hb : Ri H b (cutsL rb)) (hla : ra.length ≤ 1000000) (hlb : rb.length ≤ 1000000)
    (hk : ∀ out H', Row H H' out ((cutsL (combF (kM m) ra rb)).map vi) (cutsL (combF (kM m) ra rb)).length 1 → K out H') : @AC Tryz.prog 135 [a, b, vi m] H ⟨K⟩ := by
  have la := fun k => ha.lenK (k := k)
  have lb := fun k => hb.lenK (k := k)
  have ca := cutsL_len ra
  have cb := cutsL_len rb
  refine AC_of (.forget ?_)
  refine call_c follows cf135_ok (by simp) ?_
  simp
  refine wpc_loop (fun s => ∃ (i : Nat) (o : AV), s.n = 98 ∧ s.t 0 = a ∧ s.t 1 = b ∧ s.t 2 = vi m ∧ s.t 8 = vnil ∧ s.t 7 = o ∧ s.t 9 = vi i ∧ i ≤ (cutsL ra).length ∧ Sub H s.H ∧ Ri s.H o (insA ((cutsL ra).take i) [])) (fun s => (cutsL ra).length - slotN (s.t 9)) ?_ ?_
  · exact FgK.same ⟨0, vnil, by simp, by simp, by simp, by simp, by simp, by simp, by simp, by omega, Sub.refl _, Rw.nil _ _⟩
  rintro s ⟨i, o, hn, e0, e1, e2, e8, e7, e9, hi, hS, hro⟩
  generalize hHeq : s.H = Hs at *
  have hlen := insA_len ((cutsL ra).take i) []
  by_cases hlt : i < (cutsL ra).length
  · have wr := IntWalk.i64_in ((i : Int) + 1) (by omega)
    obtain ⟨p, hp1, hp2⟩ := ha.see hlt
    have et := insA_snoc ((cutsL ra).take i) [] (cutsL ra)[i]
    rw [← take_snoc' hlt] at et
    generalize (cutsL ra)[i] = x at *
    simp (disch := omega) [hn, hHeq, e0, e1, e2, e7, e8, e9, la, hlt, hp1, hp2 _ hS]
    refine c143 hro (by simp at hlen; omega) fun o1 H1 h1 => ?_
    simp (disch := omega) [wr]
    exact FgK.same ⟨⟨i + 1, o1, by simp, by simp, by simp, by simp, by simp, by simp, by simp, by omega, hS.trans h1.sub, by rw [et]; exact h1.ri⟩, by simp [e9]; omega⟩
  rw [List.take_of_length_le (by omega)] at hro hlen
  simp (disch := omega) [hn, hHeq, e0, e1, e2, e7, e8, e9, la, hlt]
  refine wpc_loop (fun s => ∃ (i : Nat) (o : AV), s.n = 98 ∧ s.t 0 = a ∧ s.t 1 = b ∧ s.t 2 = vi m ∧ s.t 8 = vnil ∧ s.t 7 = o ∧ s.t 10 = vi i ∧ i ≤ (cutsL rb).length ∧ Sub H s.H ∧ Ri s.H o (insA ((cutsL rb).take i) (insA (cutsL ra) []))) (fun s => (cutsL rb).length - slotN (s.t 10)) ?_ ?_
  · exact FgK.same ⟨0, o, by simp, by simp, by simp, by simp, by simp, by simp, by simp, by omega, hS, hro⟩
  clear hn hHeq e0 e1 e2 e7 e8 e9 hS hro hlt hi
  rintro s ⟨i, o, hn, e0, e1, e2, e8, e7, e10, hi, hS, hro⟩
  generalize hHeq : s.H = Hs at *
  have hlen2 := insA_len ((cutsL rb).take i) (insA (cutsL ra) [])
  by_cases hlt : i < (cutsL rb).length
  · have wr := IntWalk.i64_in ((i : Int) + 1) (by omega)
    obtain ⟨p, hp1, hp2⟩ := hb.see hlt
    have et := insA_snoc ((cutsL rb).take i) (insA (cutsL ra) []) (cutsL rb)[i]
    rw [← take_snoc' hlt] at et
    generalize (cutsL rb)[i] = x at *
    simp (disch := omega) [hn, hHeq, e0, e1, e2, e7, e8, e10, lb, hlt, hp1, hp2 _ hS]
    refine c143 hro (by simp at hlen hlen2; omega) fun o1 H1 h1 => ?_
    simp (disch := omega) [wr]
    exact FgK.same ⟨⟨i + 1, o1, by simp, by simp, by simp, by simp, by simp, by simp, by simp, by omega, hS.trans h1.sub, by rw [et]; exact h1.ri⟩, by simp [e10]; omega⟩
  rw [List.take_of_length_le (by omega), insA_xs] at hro
  simp (disch := omega) [hn, hHeq, e0, e1, e2, e7, e8, e10, lb, hlt]
  have hcomb : combF (kM m) ra rb = accK (fun x => kM m (cvF ra x) (cvF rb x)) (pairs (xsF (ra ++ rb))) := rfl
  have hxl := xsF_len (ra ++ rb)
  rw [List.length_append] at hxl
  have hplt := (pairs_lt _ (xsF_rising (ra ++ rb))).1
  rw [hcomb] at hk
  generalize xsF (ra ++ rb) = cs at *
  refine wpc_loop (fun s => ∃ (i : Nat) (o2 : AV), s.n = 98 ∧ s.t 0 = a ∧ s.t 1 = b ∧ s.t 2 = vi m ∧ s.t 7 = o ∧ s.t 8 = o2 ∧ s.t 11 = vi i ∧ i ≤ cs.length ∧ Sub Hs s.H ∧ Ow H s.H o2 (cutsL (accK (fun x => kM m (cvF ra x) (cvF rb x)) ((pairs cs).take i)))) (fun s => cs.length - slotN (s.t 11)) ?_ ?_
  · exact FgK.same ⟨0, vnil, by simp, by simp, by simp, by simp, by simp, by simp, by simp, by omega, Sub.refl _, ⟨H, hS, Row.nil H 1⟩⟩
  clear hn hHeq e0 e1 e2 e7 e8 e10 hlt hi
  rintro s ⟨i, o2, hn, e0, e1, e2, e7, e8, e11, hi, hS2, hro2⟩
  generalize hHeq : s.H = Hs2 at *
  have hSS := hS.trans hS2
  have hcs := hro.sub hS2
  have lc := fun k => hcs.lenK (k := k)
  by_cases hlt : i + 1 < cs.length
  · have wr := IntWalk.i64_in ((i : Int) + 1) (by omega)
    have hlt' : (i : Int) + 1 < cs.length := by omega
    obtain ⟨p, hp1, hp2⟩ := hcs.see (show i < cs.length by omega)
    obtain ⟨p', hp1', hp2'⟩ := hcs.see hlt
    rw [show ((i + 1 : Nat) : Int) = (i : Int) + 1 by omega] at hp1'
    have hpl : i < (pairs cs).length := by rw [pairs_len]; omega
    have et := accK_snoc (fun x => kM m (cvF ra x) (cvF rb x)) ((pairs cs).take i) (pairs cs)[i]
    rw [← take_snoc' hpl, pairs_at cs i hlt] at et
    have hal := accK_len (keep := fun x => kM m (cvF ra x) (cvF rb x)) (l := (pairs cs).take i) fun p hp => hplt p (List.mem_of_mem_take hp)
    have htk : ((pairs cs).take i).length ≤ i := by simp; omega
    generalize cs[i + 1] = y1 at *
    generalize cs[i] = y0 at *
    simp only at et
    simp (disch := omega) [hn, hHeq, e0, e1, e2, e7, e8, e11, lc, hlt', wr, hp1, hp2 _ (Sub.refl _)]
    refine c144 (ha.sub hSS) (by omega) ?_
    simp [hp2 _ (Sub.refl _)]
    refine c144 (hb.sub hSS) (by omega) ?_
    have skip : kM m (cvF ra y0) (cvF rb y0) = false → ∀ s1 : ASt, s1.n = 98 → s1.t 0 = a → s1.t 1 = b → s1.t 2 = vi m → s1.t 7 = o → s1.t 8 = o2 → s1.t 11 = vi ((i : Int) + 1) → s1.H = Hs2 → (∃ (i : Nat) (o2 : AV), s1.n = 98 ∧ s1.t 0 = a ∧ s1.t 1 = b ∧ s1.t 2 = vi m ∧ s1.t 7 = o ∧ s1.t 8 = o2 ∧ s1.t 11 = vi i ∧ i ≤ cs.length ∧ Sub Hs s1.H ∧ Ow H s1.H o2 (cutsL (accK (fun x => kM m (cvF ra x) (cvF rb x)) ((pairs cs).take i)))) ∧ cs.length - slotN (s1.t 11) < cs.length - slotN (s.t 11) := by
      intro h0 s1 h1 h2 h3 h4 h5 h6 h7 h8
      rw [h0, if_neg (by simp)] at et
      exact ⟨⟨i + 1, o2, h1, h2, h3, h4, h5, h6, by rw [h7]; simp, by omega, by rw [h8]; exact hS2, by rw [h8, et]; exact hro2⟩, by rw [h7, e11]; simp [slotN]; omega⟩
    have keep : kM m (cvF ra y0) (cvF rb y0) = true → ∀ o3 H3, Row Hs2 H3 o3 ((cutsL (addF (accK (fun x => kM m (cvF ra x) (cvF rb x)) ((pairs cs).take i)) y0 y1)).map vi) (cutsL (addF (accK (fun x => kM m (cvF ra x) (cvF rb x)) ((pairs cs).take i)) y0 y1)).length 1 → ∀ s1 : ASt, s1.n = 98 → s1.t 0 = a → s1.t 1 = b → s1.t 2 = vi m → s1.t 7 = o → s1.t 8 = o3 → s1.t 11 = vi ((i : Int) + 1) → s1.H = H3 → (∃ (i : Nat) (o2 : AV), s1.n = 98 ∧ s1.t 0 = a ∧ s1.t 1 = b ∧ s1.t 2 = vi m ∧ s1.t 7 = o ∧ s1.t 8 = o2 ∧ s1.t 11 = vi i ∧ i ≤ cs.length ∧ Sub Hs s1.H ∧ Ow H s1.H o2 (cutsL (accK (fun x => kM m (cvF ra x) (cvF rb x)) ((pairs cs).take i)))) ∧ cs.length - slotN (s1.t 11) < cs.length - slotN (s.t 11) := by
      intro h0 o3 H3 h3r s1 h1 h2 h3 h4 h5 h6 h7 h8
      rw [h0, if_pos rfl] at et
      exact ⟨⟨i + 1, o3, h1, h2, h3, h4, h5, h6, by rw [h7]; simp, by omega, by rw [h8]; exact hS2.trans h3r.sub, by rw [h8, et]; exact Row.base hSS h3r⟩, by rw [h7, e11]; simp [slotN]; omega⟩
    generalize cvF ra y0 = ba at *
    generalize cvF rb y0 = bb at *
    rcases (show m = 1 ∨ m = 2 ∨ m = 3 ∨ (¬ m = 1 ∧ ¬ m = 2 ∧ ¬ m = 3) by omega) with rfl | rfl | rfl | ⟨m1, m2, m3⟩
    · cases ba <;> cases bb <;> simp (disch := omega) [wr, hp1, hp2 _ (Sub.refl _), hp1', hp2' _ (Sub.refl _)]
      case false.false => exact FgK.same (skip (by simp [kM]) _ (by simp) (by simp) (by simp) (by simp) (by simp) (by simp) (by simp) rfl)
      all_goals
        refine c145 hro2.ri (by omega) fun o3 H3 h3r => ?_
        simp (disch := omega) [wr]
        exact FgK.same (keep (by simp [kM]) o3 H3 h3r _ (by simp) (by simp) (by simp) (by simp) (by simp) (by simp) (by simp) rfl)
    · cases ba <;> cases bb <;> simp (disch := omega) [wr, hp1, hp2 _ (Sub.refl _), hp1', hp2' _ (Sub.refl _)]
      case true.true =>
        refine c145 hro2.ri (by omega) fun o3 H3 h3r => ?_
        simp (disch := omega) [wr]
        exact FgK.same (keep (by simp [kM]) o3 H3 h3r _ (by simp) (by simp) (by simp) (by simp) (by simp) (by simp) (by simp) rfl)
      all_goals exact FgK.same (skip (by simp [kM]) _ (by simp) (by simp) (by simp) (by simp) (by simp) (by simp) (by simp) rfl)
    · cases ba <;> cases bb <;> simp (disch := omega) [wr, hp1, hp2 _ (Sub.refl _), hp1', hp2' _ (Sub.refl _)]
      case true.false =>
        refine c145 hro2.ri (by omega) fun o3 H3 h3r => ?_
        simp (disch := omega) [wr]
        exact FgK.same (keep (by simp [kM]) o3 H3 h3r _ (by simp) (by simp) (by simp) (by simp) (by simp) (by simp) (by simp) rfl)
      all_goals exact FgK.same (skip (by simp [kM]) _ (by simp) (by simp) (by simp) (by simp) (by simp) (by simp) (by simp) rfl)
    · cases ba <;> cases bb <;> simp (disch := omega) [wr, m1, m2, m3]
      all_goals exact FgK.same (skip (by simp [kM, m1, m2, m3]) _ (by simp) (by simp) (by simp) (by simp) (by simp) (by simp) (by simp) rfl)
  · have hlt' : ¬ (i : Int) + 1 < cs.length := by omega
    have wr := IntWalk.i64_in ((i : Int) + 1) (by omega)
    rw [List.take_of_length_le (by rw [pairs_len]; omega)] at hro2
    have co := hro2.ri.cells
    simp (disch := omega) [hn, hHeq, e0, e1, e2, e7, e8, e11, lc, hlt', wr]
    obtain ⟨H0, z1, z2⟩ := hro2
    exact ⟨H0, z1, hk _ _ z2⟩
theorem c137 {H : AH} {K : AV → AH → Prop} {a b : AV} {la lb : List Int} (ha : Ri H a la) (hb : Ri H b lb) (hl : la.length ≤ 10000000) (hl2 : lb.length ≤ 10000000) (hk : K (vb (decide (la = lb))) H) :
    @AC Tryz.prog 137 [a, b] H ⟨K⟩ := by
  have l1 := fun k => ha.lenK (k := k)
  have l2 := fun k => hb.lenK (k := k)
  refine AC_of (.forget ?_)
  refine call_c follows cf137_ok (by simp) ?_
  by_cases hlen : la.length = lb.length
  case neg =>
    have hne : ¬ la = lb := fun h => hlen (congrArg List.length h)
    have h2 : ¬ (la.length : Int) = lb.length := by omega
    have d1 : decide (la = lb) = false := decide_eq_false hne
    rw [d1] at hk
    simp [l1, l2, h2]
    exact ⟨H, Sub.refl _, hk⟩
  have h2 : (la.length : Int) = lb.length := by omega
  simp [l1, l2, h2]
  refine wpc_loop (fun s => ∃ (i : Nat), s.n = 26 ∧ s.H = H ∧ s.t 0 = a ∧ s.t 1 = b ∧ s.t 5 = vi i ∧ i ≤ la.length ∧ la.take i = lb.take i) (fun s => la.length - slotN (s.t 5)) ?_ ?_
  · exact FgK.same ⟨0, by simp, by simp, by simp, by simp, by simp, by omega, by simp⟩
  rintro s ⟨i, hn, hH, e0, e1, e5, hi, hc⟩
  by_cases hlt : i < la.length
  · have hlt2 : i < lb.length := by omega
    have wr := IntWalk.i64_in ((i : Int) + 1) (by omega)
    obtain ⟨p, hp1, hp2⟩ := ha.see hlt
    obtain ⟨q, hq1, hq2⟩ := hb.see hlt2
    have et := take_snoc' hlt
    have et2 := take_snoc' hlt2
    have hab : la = lb → la[i] = lb[i] := fun h => by subst h; rfl
    generalize la[i] = x at *
    generalize lb[i] = y at *
    simp (disch := omega) [hn, hH, e0, e1, e5, l1, h2, hlt2, hp1, hp2 _ (Sub.refl _), hq1, hq2 _ (Sub.refl _)]
    by_cases h : x = y
    · simp (disch := omega) [h, wr]
      exact FgK.same ⟨⟨i + 1, by simp, by simp, by simp, by simp, by simp, by omega, by rw [et, et2, hc, h]⟩, by simp [e5]; omega⟩
    · have d1 : decide (la = lb) = false := decide_eq_false fun g => h (hab g)
      rw [d1] at hk
      simp [h]
      exact ⟨H, Sub.refl _, hk⟩
  · rw [List.take_of_length_le (by omega), List.take_of_length_le (by omega)] at hc
    have d1 : decide (la = lb) = true := decide_eq_true hc
    rw [d1] at hk
    have hlt2 : ¬ i < lb.length := by omega
    simp (disch := omega) [hn, hH, e0, e1, e5, l1, h2, hlt2]
    exact ⟨H, Sub.refl _, hk⟩
end Go.Proofs.YtmpncpamndhmcaaGreat
end

/-! Regions: the reference's list of rectangles is that of the program's bands, in plain words. No program in sight. -/
section
namespace Go.Proofs.YtmpncpamndhmcaaGreat
open Go Go.Ab Go.RowKit

def sy (y : Int) (r : R) : R := { r with y1 := y }
def cR (f : Int → List Rn) (s : List R × List Rn × Nat) (p : Rn) : List R × List Rn × Nat :=
  if f p.1 ≠ [] ∧ f p.1 = s.2.1 then (s.1.take s.2.2 ++ (s.1.drop s.2.2).map (sy p.2), s.2.1, s.2.2) else (s.1 ++ (f p.1).map (mkR p.1 p.2), f p.1, s.1.length)
def CInv (acc : List Bd) (s : List R × List Rn × Nat) (y : Int) : Prop :=
  s.1 = rectsF acc ∧ ((s.2.1 = [] ∧ ∀ l, acc.getLast? = some l → l.2.1 < y) ∨ (s.2.1 ≠ [] ∧ ∃ acc0 f0, acc = acc0 ++ [(f0, y, s.2.1)] ∧ s.2.2 = (rectsF acc0).length))
theorem CInv.step {f : Int → List Rn} {acc : List Bd} {s : List R × List Rn × Nat} {p : Rn} (h : CInv acc s p.1) (hp : p.1 < p.2) : CInv (bstep f acc p) (cR f s p) p.2 := by
  obtain ⟨out, last, from'⟩ := s
  obtain ⟨h1, h2⟩ := h
  simp only at h1 h2
  by_cases he : f p.1 = []
  · rw [bstep_no he]
    have e : cR f (out, last, from') p = (out, [], out.length) := by unfold cR; rw [if_neg (by simp [he]), he]; simp
    rw [e]
    refine ⟨h1, .inl ⟨rfl, fun l hl => ?_⟩⟩
    rcases h2 with ⟨_, h2⟩ | ⟨_, acc0, f0, h2, _⟩
    · have := h2 l hl; omega
    · rw [h2] at hl
      simp at hl
      subst hl
      exact hp
  · rcases h2 with ⟨h2, h3⟩ | ⟨h2, acc0, f0, h3, h4⟩
    · have e : cR f (out, last, from') p = (out ++ (f p.1).map (mkR p.1 p.2), f p.1, out.length) := by
        unfold cR; rw [if_neg]; simp only; rintro ⟨_, g⟩; exact he (g.trans h2)
      have eb : bstep f acc p = acc ++ [(p.1, p.2, f p.1)] := by
        rcases list_snoc acc with rfl | ⟨o, l, rfl⟩
        · rw [bstep_nil he]; rfl
        · have := h3 l (by simp)
          rw [bstep_out he (by rintro ⟨g, _⟩; omega)]
      rw [e, eb]
      refine ⟨by rw [rectsF_snoc, h1], .inr ⟨he, acc, p.1, rfl, ?_⟩⟩
      simp only
      rw [h1]
    · by_cases hs : f p.1 = last
      · have e : cR f (out, last, from') p = (out.take from' ++ (out.drop from').map (sy p.2), last, from') := by unfold cR; rw [if_pos ⟨he, hs⟩]
        rw [e, h3, bstep_in he rfl (by simp only; exact hs.symm)]
        refine ⟨?_, .inr ⟨h2, acc0, f0, rfl, h4⟩⟩
        simp only
        rw [h1, h3, rectsF_snoc, rectsF_snoc, h4, List.take_append_of_le_length (Nat.le_refl _), List.take_length, List.drop_append_of_le_length (Nat.le_refl _), List.drop_length, List.nil_append, List.map_map]
        rfl
      · have e : cR f (out, last, from') p = (out ++ (f p.1).map (mkR p.1 p.2), f p.1, out.length) := by
          unfold cR; rw [if_neg]; rintro ⟨_, g⟩; exact hs g
        rw [e, h3, bstep_out he (by rintro ⟨_, g⟩; exact hs g.symm)]
        refine ⟨by simp only; rw [rectsF_snoc, h1, h3], .inr ⟨he, _, p.1, rfl, ?_⟩⟩
        simp only
        rw [h1, h3]
theorem CInv.fold (f : Int → List Rn) : ∀ (l : List Int) (a : Int) (acc : List Bd) (s : List R × List Rn × Nat), (a :: l).Pairwise (· < ·) → CInv acc s a → ∃ y, CInv ((pairs (a :: l)).foldl (bstep f) acc) ((pairs (a :: l)).foldl (cR f) s) y
  | [], a, acc, s, _, h => ⟨a, h⟩
  | b :: l, a, acc, s, hp, h => by
    obtain ⟨h1, h2⟩ := List.pairwise_cons.1 hp
    simp only [pairs, List.foldl_cons]
    exact CInv.fold f l b _ _ h2 (CInv.step (p := (a, b)) h (h1 b (by simp)))
theorem cR_rects (f : Int → List Rn) {cs : List Int} (h : cs.Pairwise (· < ·)) : ((pairs cs).foldl (cR f) ([], [], 0)).1 = rectsF ((pairs cs).foldl (bstep f) []) := by
  cases cs with
  | nil => rfl
  | cons a l =>
    obtain ⟨y, h1, _⟩ := CInv.fold f l a [] ([], [], 0) h ⟨rfl, .inl ⟨rfl, by simp⟩⟩
    exact h1
theorem rows_ys (la lb : List R) : rowsF lb (rowsF la []) = ysF (cl la ++ cl lb) := by
  unfold rowsF ysF
  rw [List.foldl_append]
theorem cutsL_inj : ∀ {a b : List Rn}, cutsL a = cutsL b → a = b
  | [], [], _ => rfl
  | [], r :: b, h => by simp [cutsL] at h
  | r :: a, [], h => by simp [cutsL] at h
  | r :: a, s :: b, h => by
    simp only [cutsL, List.flatMap_cons, List.cons_append, List.nil_append, List.cons.injEq] at h
    obtain ⟨h1, h2, h3⟩ := h
    rw [cutsL_inj h3, Prod.ext h1 h2]
theorem cR_from {f : Int → List Rn} {s : List R × List Rn × Nat} {p : Rn} (h : s.2.2 ≤ s.1.length) : (cR f s p).2.2 ≤ (cR f s p).1.length := by
  unfold cR
  split
  · simp only [List.length_append, List.length_take, List.length_map, List.length_drop]; omega
  · simp only [List.length_append]; omega
end Go.Proofs.YtmpncpamndhmcaaGreat
end

/-! Regions of the reference, walked: combined. Conditions: as each lemma states them. -/
section
namespace Go.Proofs.YtmpncpamndhmcaaGreat
open Go Go.Ab Go.RowKit

attribute [local simp] rc_len rc_t4 rc_t1 rc_t2 rc_t3 rc_d1 rc_d2 rc_d3 rc_d4 rc_ag rc_one rc_eq

/-- A row of another's, where ours grows. -/
theorem Row.beside {B Hs G2 G3 : AH} {o v : AV} {cs ds : List AV} {n sz n' sz' : Nat} (ho : Row B Hs o cs n sz) (hS : Sub Hs G2) (hv : Row G2 G3 v ds n' sz') (hl : ds.length = n' * sz') : ∃ BB HH, Row BB HH o cs n sz ∧ Sub HH G3 ∧ Sub B BB ∧ Rw BB v ds n' sz' := by
  rcases hv with ⟨h1, h2, rfl, rfl⟩ | ⟨r, rfl, hr, rfl⟩
  · subst h1; subst h2
    exact ⟨B, Hs, ho, hS, Sub.refl _, Rw.nil _ _⟩
  · have hr1 := hS.none_of hr
    refine ⟨_, _, Row.grow (X := .cells ds) ho hr1, Sub.under hS _ _, (Sub.refl B).upd (ho.sub.none_of hr1), .sl hl (by simp [upd_apply])⟩
theorem flat_mid {P Q : List R} {x : R} {y : Int} : (flat rc (P ++ x :: Q)).take (P.length * 4 + 3) ++ vi y :: (flat rc (P ++ x :: Q)).drop (P.length * 4 + 3 + 1) = flat rc (P ++ sy y x :: Q) := by
  have hl : (flat rc P).length = P.length * 4 := flat_len rc_l P
  rw [show P ++ x :: Q = P ++ ([x] ++ Q) from rfl, show P ++ sy y x :: Q = P ++ ([sy y x] ++ Q) from rfl, flat_app, flat_app, flat_app, flat_app, flat_one, flat_one, List.take_append, List.take_of_length_le (by omega), List.drop_append, List.drop_of_length_le (by omega), hl]
  rw [show P.length * 4 + 3 - P.length * 4 = 3 by omega, show P.length * 4 + 3 + 1 - P.length * 4 = 4 by omega]
  obtain ⟨a, b, c, d⟩ := x
  simp [rc, sy]
theorem c120 {H : AH} {K : AV → AH → Prop} {a b : AV} {la lb : List R} {m : Int} (ha : Rr H a la) (hb : Rr H b lb) (hla : la.length ≤ 100000) (hlb : lb.length ≤ 100000)
    (hk : ∀ out H', Row H H' out (flat rc (rectsF (bandsF (kM m) la lb))) (rectsF (bandsF (kM m) la lb)).length 4 → K out H') : @AC Tryz.prog 120 [a, b, vi m] H ⟨K⟩ := by
  have hrl1 := rowsF_len la []
  refine AC_of (.forget ?_)
  refine call_c follows cf120_ok (by simp) ?_
  simp
  refine c134 (ys := []) ha (Rw.nil _ _) (by omega) (by simp) fun o1 H1 hS1 h1 => ?_
  simp
  refine c134 (hb.sub hS1) h1 (by omega) (by simp at hrl1; omega) fun o2 H2 hS2 h2 => ?_
  rw [rows_ys] at h2
  have hSH : Sub H H2 := hS1.trans hS2
  have ha' := ha.sub hSH
  have hb' := hb.sub hSH
  have hxl := ysF_len (cl la ++ cl lb)
  have hca := cl_len la
  have hcb := cl_len lb
  rw [List.length_append] at hxl
  have hfin : ((pairs (ysF (cl la ++ cl lb))).foldl (cR (rowF (kM m) (cl la) (cl lb))) ([], [], 0)).1 = rectsF (bandsF (kM m) la lb) := cR_rects _ (ysF_rising _)
  have hrow : ∀ y, rowF (kM m) (cl la) (cl lb) y = combF (kM m) (rrF la y) (rrF lb y) := fun y => rfl
  generalize ysF (cl la ++ cl lb) = cs at *
  generalize rowF (kM m) (cl la) (cl lb) = f at *
  simp
  refine wpc_loop (fun s => ∃ (i : Nat) (o lst : AV) (B : AH) (st : List R × List Rn × Nat), s.n = 96 ∧ s.t 0 = a ∧ s.t 1 = b ∧ s.t 2 = vi m ∧ s.t 7 = o2 ∧ s.t 8 = o ∧ s.t 9 = lst ∧ s.t 10 = vi st.2.2 ∧ s.t 11 = vi i ∧ i ≤ cs.length ∧ st = ((pairs cs).take i).foldl (cR f) ([], [], 0) ∧ Sub H2 B ∧ Ri B lst (cutsL st.2.1) ∧
      st.2.1.length ≤ 400000 ∧ st.1.length ≤ i * 400000 ∧ st.2.2 ≤ st.1.length ∧ Row B s.H o (flat rc st.1) st.1.length 4) (fun s => cs.length - slotN (s.t 11)) ?_ ?_
  · exact FgK.same ⟨0, vnil, vnil, H2, ([], [], 0), by simp, by simp, by simp, by simp, by simp, by simp, by simp, by simp, by simp, by omega, by simp, Sub.refl _, Rw.nil _ _, by simp, by simp, by simp, by simpa [flat_nil] using Row.nil H2 4⟩
  rintro s ⟨i, o, lst, B, st, hn, e0, e1, e2, e7, e8, e9, e10, e11, hi, hst, hSB, hlst, hl1, hl2, hl3, hro⟩
  obtain ⟨out, last, fr⟩ := st
  simp only at e10 hlst hl1 hl2 hl3 hro
  generalize hHeq : s.H = Hs at *
  have hSs : Sub H2 Hs := hSB.trans hro.sub
  by_cases hlt : i + 1 < cs.length
  · have wr := IntWalk.i64_in ((i : Int) + 1) (by omega)
    have hlt' : (i : Int) + 1 < cs.length := by omega
    obtain ⟨p, hp1, hp2⟩ := h2.see (show i < cs.length by omega)
    obtain ⟨p', hp1', hp2'⟩ := h2.see hlt
    rw [show ((i + 1 : Nat) : Int) = (i : Int) + 1 by omega] at hp1'
    have lc' := fun k => (h2.sub hSs).lenK (k := k)
    have et : ((pairs cs).take (i + 1)).foldl (cR f) ([], [], 0) = cR f (out, last, fr) (cs[i], cs[i + 1]) := by
      rw [take_snoc' (by rw [pairs_len]; omega), List.foldl_append, pairs_at cs i hlt, ← hst]; rfl
    generalize cs[i + 1] = y1 at *
    generalize cs[i] = y0 at *
    have hfr := cR_from (f := f) (s := (out, last, fr)) (p := (y0, y1)) hl3
    simp (disch := omega) [hn, hHeq, e0, e1, e2, e7, e8, e9, e10, e11, lc', wr, hlt', hp1, hp2 _ hSs]
    refine c136 (ha'.sub hSs) (by omega) fun v1 G1 g1 => ?_
    simp [hp2 _ (hSs.trans g1.sub)]
    refine c136 (hb'.sub (hSs.trans g1.sub)) (by omega) fun v2 G2 g2 => ?_
    simp
    have r1 := rrF_len la y0
    have r2 := rrF_len lb y0
    have r3 := combF_len (kM m) (rrF la y0) (rrF lb y0)
    have hG2 : Sub Hs G2 := g1.sub.trans g2.sub
    refine c135 (g1.ri.sub g2.sub) g2.ri (by omega) (by omega) fun v3 G3 g3 => ?_
    rw [← hrow] at g3 r3
    obtain ⟨BB, HH, hro', hHG, hBB, hv3⟩ := Row.beside hro hG2 g3 (by simp)
    have hv3 : Ri BB v3 (cutsL (f y0)) := hv3
    have hSBB := hSB.trans hBB
    have hcR : cR f (out, last, fr) (y0, y1) = if f y0 ≠ [] ∧ f y0 = last then (out.take fr ++ (out.drop fr).map (sy y1), last, fr) else (out ++ (f y0).map (mkR y0 y1), f y0, out.length) := rfl
    have hrl : (f y0).length ≤ 400000 := by omega
    generalize f y0 = rr at *
    have hcl := cutsL_len rr
    have hG3 : Sub Hs G3 := hG2.trans g3.sub
    have hBG : Sub BB G3 := hro'.sub.trans hHG
    have hv3G := hv3.sub hBG
    have lv3 := fun k => hv3G.lenK (k := k)
    clear g1 g2 g3 r1 r2 r3 hfr
    -- the two ways on
    by_cases hsame : rr ≠ [] ∧ rr = last
    · rw [if_pos hsame] at hcR
      obtain ⟨hne, rfl⟩ := hsame
      have hz : ¬ cutsL rr = [] := fun h => hne (cutsL_inj (a := rr) (b := []) h)
      have hpos : 0 < (cutsL rr).length := List.length_pos_iff.2 hz
      simp (disch := omega) [lv3, hpos]
      refine c137 hv3G (hlst.sub (hBB.trans hBG)) (by omega) (by omega) ?_
      simp
      have lo := fun k => Rw.lenK (hro.rin (flat_len rc_l _)).rd (k := k)
      refine wpc_loop (fun s' => ∃ d : Nat, s'.n = 96 ∧ s'.t 0 = a ∧ s'.t 1 = b ∧ s'.t 2 = vi m ∧ s'.t 7 = o2 ∧ s'.t 8 = o ∧ s'.t 9 = lst ∧ s'.t 10 = vi fr ∧ s'.t 11 = vi i ∧ s'.t 13 = vi (fr + d : Nat) ∧ d ≤ out.length - fr ∧ Row B s'.H o (flat rc (out.take fr ++ ((out.drop fr).take d).map (sy y1) ++ out.drop (fr + d))) out.length 4) (fun s' => out.length - slotN (s'.t 13)) ?_ ?_
      · exact FgK.of Hs hG3 ⟨0, by simp, by simp, by simp, by simp, by simp, by simp, by simp, by simp, by simp, by simp, by omega, by simpa using hro⟩
      rintro s' ⟨d, gn, g0, g1, g2, g7, g8, g9, g10, g11, g13, hd, hro2⟩
      generalize hHeq2 : s'.H = Ht at *
      have hSt : Sub H2 Ht := hSB.trans hro2.sub
      have lcy := fun k => (h2.sub hSt).lenK (k := k)
      by_cases hdl : fr + d < out.length
      · have wr13 := IntWalk.i64_in (((fr + d : Nat) : Int) + 1) (by omega)
        have hdl' : ((fr + d : Nat) : Int) < out.length := by omega
        rcases hro2 with ⟨f1, _⟩ | ⟨r0, rfl, hr0, rfl⟩
        · omega
        have hPl : (out.take fr ++ ((out.drop fr).take d).map (sy y1)).length = fr + d := by simp; omega
        have hQ : out.drop (fr + d) = out[fr + d] :: out.drop (fr + (d + 1)) := List.drop_eq_getElem_cons hdl
        have hP2 : out.take fr ++ ((out.drop fr).take (d + 1)).map (sy y1) ++ out.drop (fr + (d + 1)) = (out.take fr ++ ((out.drop fr).take d).map (sy y1)) ++ sy y1 out[fr + d] :: out.drop (fr + (d + 1)) := by
          rw [take_snoc' (l := out.drop fr) (by rw [List.length_drop]; omega), List.map_append, List.getElem_drop]
          simp
        rw [hQ] at hHeq2 hSt
        have hll : (flat rc (out.take fr ++ ((out.drop fr).take d).map (sy y1) ++ out[fr + d] :: out.drop (fr + (d + 1)))).length = out.length * 4 := by
          rw [flat_len rc_l, List.length_append, hPl, ← hQ, List.length_drop]
          congr 1; omega
        have fm := flat_mid (P := out.take fr ++ ((out.drop fr).take d).map (sy y1)) (Q := out.drop (fr + (d + 1))) (x := out[fr + d]) (y := y1)
        rw [hPl, ← hP2] at fm
        generalize flat rc (out.take fr ++ ((out.drop fr).take d).map (sy y1) ++ out[fr + d] :: out.drop (fr + (d + 1))) = F at *
        generalize hFD : fr + d = fd at *
        have hfd1 : fd < out.length := by omega
        have hst2 : fd * 4 + 3 + 1 ≤ F.length := by omega
        simp (disch := omega) [gn, hHeq2, g0, g1, g2, g7, g8, g9, g10, g11, g13, lo, hdl', wr, hp1', hp2' _ hSt, wr13]
        have hfd2 : ((fr + (d + 1) : Nat) : Int) = (fd : Int) + 1 := by omega
        rw [fm]
        refine FgK.of (upd B r0 (.cells (flat rc (out.take fr ++ ((out.drop fr).take (d + 1)).map (sy y1) ++ out.drop (fr + (d + 1)))))) (Sub.refl _) ⟨⟨d + 1, by simp, by simp, by simp, by simp, by simp, by simp, by simp, by simp, by simp, by simp [hfd2], by omega, Row.mk hr0⟩, by simp [g13, slotN]; omega⟩
      · have hdd : fr + d = out.length := by omega
        have e1 : (out.drop fr).take d = out.drop fr := List.take_of_length_le (by rw [List.length_drop]; omega)
        rw [e1, List.drop_of_length_le (show out.length ≤ fr + d by omega), List.append_nil] at hro2
        have hdl' : ¬ ((fr + d : Nat) : Int) < out.length := by omega
        generalize hFD : fr + d = fd at *
        simp (disch := omega) [gn, hHeq2, g0, g1, g2, g7, g8, g9, g10, g11, g13, lo, hdl', wr]
        have hlen : (out.take fr ++ (out.drop fr).map (sy y1)).length = out.length := by simp; omega
        refine FgK.same ⟨⟨i + 1, o, lst, B, (out.take fr ++ (out.drop fr).map (sy y1), rr, fr), by simp, by simp, by simp, by simp, by simp, by simp, by simp, by simp, by simp, by omega, by rw [et, hcR], hSB, hlst, hl1, by simp only; omega, by simp only; omega, by simp only [hlen]; exact hro2⟩, by simp [e11]; omega⟩
    · rw [if_neg hsame] at hcR
      have lo := fun k => Rw.lenK (hro.rin (flat_len rc_l _)).rd (k := k)
      have hv3c := hv3G.cells
      by_cases he : rr = []
      case' pos =>
        have hp0 : ¬ 0 < (cutsL rr).length := by rw [he]; simp [cutsL]
        simp (disch := omega) [lv3, hp0, lo]
      case' neg =>
        have hp0 : 0 < (cutsL rr).length := by
          have : 0 < rr.length := List.length_pos_iff.2 he
          omega
        have hcl2 := cutsL_len last
        have hdf : decide (cutsL rr = cutsL last) = false := decide_eq_false fun g => hsame ⟨he, cutsL_inj g⟩
        simp (disch := omega) [lv3, hp0]
        refine c137 hv3G (hlst.sub (hBB.trans hBG)) (by omega) (by omega) ?_
        rw [hdf]
        simp (disch := omega) [lo]
      all_goals
        refine wpc_loop (fun s' => ∃ (j : Nat) (o' : AV), s'.n = 96 ∧ s'.t 0 = a ∧ s'.t 1 = b ∧ s'.t 2 = vi m ∧ s'.t 7 = o2 ∧ s'.t 8 = o' ∧ s'.t 10 = vi out.length ∧ s'.t 11 = vi i ∧ s'.t 12 = v3 ∧ s'.t 14 = vi (2 * j : Nat) ∧ j ≤ rr.length ∧ Row BB s'.H o' (flat rc (out ++ (rr.take j).map (mkR y0 y1))) (out ++ (rr.take j).map (mkR y0 y1)).length 4) (fun s' => 2 * rr.length - slotN (s'.t 14)) ?_ ?_
        · exact FgK.of HH hHG ⟨0, o, by simp, by simp, by simp, by simp, by simp, by simp, by simp, by simp, by simp, by simp, by omega, by simpa using hro'⟩
        rintro s' ⟨j, o', gn, g0, g1, g2, g7, g8, g10, g11, g12, g14, hj, hro2⟩
        generalize hHeq2 : s'.H = Ht at *
        have hBt : Sub BB Ht := hro2.sub
        have hSt : Sub H2 Ht := hSBB.trans hBt
        have hv3t := hv3.sub hBt
        have lv3' := fun k => hv3t.lenK (k := k)
        have cv3' := hv3t.cells
        have lcy := fun k => (h2.sub hSt).lenK (k := k)
        by_cases hjt : j < rr.length
        · obtain ⟨b1, b2, w1, w2⟩ := cutsL_at hjt
          have wr1 := IntWalk.i64_in (((2 * j : Nat) : Int) + 1) (by omega)
          have wr2 := IntWalk.i64_in (((2 * j : Nat) : Int) + 2) (by omega)
          have hjt' : ((2 * j : Nat) : Int) < (cutsL rr).length := by omega
          obtain ⟨q, hq1, hq2⟩ := hv3t.see b1
          obtain ⟨q', hq1', hq2'⟩ := hv3t.see b2
          rw [w1] at hq2
          rw [w2] at hq2'
          rw [show ((2 * j + 1 : Nat) : Int) = ((2 * j : Nat) : Int) + 1 by omega] at hq1'
          have hjj : ((2 * (j + 1) : Nat) : Int) = ((2 * j : Nat) : Int) + 2 := by omega
          have ej : out ++ (rr.take (j + 1)).map (mkR y0 y1) = (out ++ (rr.take j).map (mkR y0 y1)) ++ [mkR y0 y1 rr[j]] := by rw [take_snoc' hjt, List.map_append, List.append_assoc]; rfl
          have hll : (out ++ (rr.take j).map (mkR y0 y1)).length ≤ i * 400000 + j := by rw [List.length_append, List.length_map, List.length_take]; omega
          generalize out ++ (rr.take j).map (mkR y0 y1) = rs1 at *
          generalize rr[j] = x at *
          obtain ⟨xa, xb⟩ := x
          simp only at hq2 hq2'
          generalize hJ : ((2 * j : Nat) : Int) = J at *
          simp (disch := omega) [gn, hHeq2, g0, g1, g2, g7, g8, g10, g11, g12, g14, lv3', hjt', hq1, hq2 _ (Sub.refl _), hq1', hq2' _ (Sub.refl _), hp1, hp2 _ hSt, hp1', hp2' _ hSt, wr, wr1]
          refine newK_of fun q2 hq2n => ?_
          have hS2 : Sub Ht (upd Ht q2 (.cells (rc ⟨xa, y0, xb, y1⟩))) := (Sub.refl Ht).upd hq2n
          generalize hx4 : AV.sl q2 0 1 4 true = x4
          have hnw : ∀ k : Nat → List AV → Prop, @NEWS (upd Ht q2 (.cells (rc ⟨xa, y0, xb, y1⟩))) x4 4 ⟨k⟩ = k 1 (rc ⟨xa, y0, xb, y1⟩) := by intro k; rw [← hx4]; simp
          simp [hnw]
          refine hro2.app hS2 (by decide) (by simp) (flat_len rc_l _) (by omega) fun r H' hr hsr => ?_
          simp (disch := omega) [wr2]
          refine FgK.of _ hsr ⟨⟨j + 1, .sl r 0 (rs1.length + 1) 4 false, by simp, by simp, by simp, by simp, by simp, by simp, by simp, by simp, by simp, by simp [hjj], by omega, ?_⟩, by simp [g14, slotN]; omega⟩
          rw [ej, List.length_append]
          have := Row.mk (cs := flat rc (rs1 ++ [mkR y0 y1 (xa, xb)])) (n := rs1.length + 1) (sz := 4) hr
          rw [← flat_snoc] at this ⊢
          exact this
        · rw [List.take_of_length_le (by omega)] at hro2
          have hjt' : ¬ ((2 * j : Nat) : Int) < (cutsL rr).length := by omega
          generalize hJ : ((2 * j : Nat) : Int) = J at *
          simp (disch := omega) [gn, hHeq2, g0, g1, g2, g7, g8, g10, g11, g12, g14, lv3', hjt', wr]
          have hlen : (out ++ rr.map (mkR y0 y1)).length = out.length + rr.length := by simp
          exact FgK.same ⟨⟨i + 1, o', v3, BB, (out ++ rr.map (mkR y0 y1), rr, out.length), by simp, by simp, by simp, by simp, by simp, by simp, by simp, by simp, by simp, by omega, by rw [et, hcR], hSBB, hv3, hrl, by simp only; omega, by simp only; omega, hro2⟩, by simp [e11]; omega⟩
  · have hlt' : ¬ (i : Int) + 1 < cs.length := by omega
    have wr := IntWalk.i64_in ((i : Int) + 1) (by omega)
    have lc' := fun k => (h2.sub hSs).lenK (k := k)
    rw [List.take_of_length_le (by rw [pairs_len]; omega)] at hst
    rw [← hst] at hfin
    simp only at hfin
    rw [hfin] at hro
    have co := Rw.cells (hro.rin (flat_len rc_l _)).rd
    simp (disch := omega) [hn, hHeq, e0, e1, e2, e7, e8, e9, e10, e11, lc', wr, hlt']
    obtain ⟨H', z1, z2⟩ := Row.base (hSH.trans hSB) hro
    exact ⟨H', z1, hk _ _ z2⟩
end Go.Proofs.YtmpncpamndhmcaaGreat
end

/-! Regions of the reference, walked: New; and the program's New answers the same. Conditions: as each lemma states them. -/
section
namespace Go.Proofs.YtmpncpamndhmcaaGreat
open Go Go.Ab Go.RowKit

attribute [local simp] rc_len rc_t4 rc_t1 rc_t2 rc_t3 rc_d1 rc_d2 rc_d3 rc_d4 rc_ag rc_one rc_eq

theorem c119 {H : AH} {K : AV → AH → Prop} {a : AV} {n : Nat} (ha : ∀ k : AV → Prop, @lenK a ⟨k⟩ = k (vi n)) (ho : a.cells = some [a]) (h1 : n ≤ 256 → K (.tp [a, vi 0]) H) (h2 : 256 < n → K (.tp [vnil, vi 5]) H) : @AC Tryz.prog 119 [a] H ⟨K⟩ := by
  refine call_c follows cf119_ok (by simp) ?_
  by_cases h : 256 < n
  · have h' : (256 : Int) < n := by omega
    simp [ha, h']
    exact h2 h
  · have h' : ¬ (256 : Int) < n := by omega
    simp [ha, h']
    exact h1 (by omega)
theorem kM1 : kM 1 = orF := by funext x y; rfl
end Go.Proofs.YtmpncpamndhmcaaGreat
end

/-! Regions of the reference, walked: Union, Intersect, Subtract. Conditions: as each lemma states them. -/
section
namespace Go.Proofs.YtmpncpamndhmcaaGreat
open Go Go.Ab Go.RowKit

attribute [local simp] rc_len rc_t4 rc_t1 rc_t2 rc_t3 rc_d1 rc_d2 rc_d3 rc_d4 rc_ag rc_one rc_eq

def modF (m : Int) (la lb : List R) : List R := rectsF (bandsF (kM m) la lb)
theorem c85 {H : AH} {K : AV → AH → Prop} {a b : AV} {la lb : List R} (ha : Rr H a la) (hb : Rr H b lb) (hla : la.length ≤ 100000) (hlb : lb.length ≤ 100000)
    (h1 : (modF 2 la lb).length ≤ 256 → ∀ out H', Row H H' out (flat rc (modF 2 la lb)) (modF 2 la lb).length 4 → K (.tp [out, vi 0]) H') (h2 : 256 < (modF 2 la lb).length → K (.tp [vnil, vi 5]) H) : @AC Tryz.prog 85 [a, b] H ⟨K⟩ := by
  refine AC_of (.forget ?_)
  refine call_c follows cf85_ok (by simp) ?_
  simp
  refine c120 ha hb hla hlb fun out H' hro => ?_
  have hro : Row H H' out (flat rc (modF 2 la lb)) (modF 2 la lb).length 4 := hro
  have hr := (hro.rin (flat_len rc_l _)).rd
  have cc := Rw.cells hr
  simp
  refine c119 (fun k => Rw.lenK hr) cc (fun h => ?_) fun h => ?_
  · simp
    exact ⟨H', Sub.refl _, h1 h _ _ hro⟩
  · simp
    exact ⟨H, hro.sub, h2 h⟩
end Go.Proofs.YtmpncpamndhmcaaGreat
end

/-! Regions, in plain words: the points of bands; canonical bands; that the points tell the bands. No program in sight; conditions: as each lemma states them. -/
section
namespace Go.Proofs.YtmpncpamndhmcaaGreat
open Go Go.Ab Go.RowKit

theorem pairs_ge : ∀ {l : List Int} {b : Int}, (b :: l).Pairwise (· < ·) → ∀ p ∈ pairs (b :: l), b ≤ p.1
  | [], b, _, p, hp => by simp [pairs] at hp
  | c :: l, b, h, p, hp => by
    obtain ⟨h3, h4⟩ := List.pairwise_cons.1 h
    simp only [pairs, List.mem_cons] at hp
    rcases hp with rfl | hp
    · exact Int.le_refl _
    · have := pairs_ge h4 p hp
      have := h3 c (by simp)
      omega
/-- No cut lies within a piece. -/
theorem pairs_cut : ∀ {xs : List Int}, xs.Pairwise (· < ·) → ∀ {p : Rn}, p ∈ pairs xs → ∀ {x : Int}, p.1 ≤ x → x < p.2 → ∀ {e : Int}, e ∈ xs → (e ≤ x ↔ e ≤ p.1)
  | [], _, p, hp, _, _, _, _, _ => by simp [pairs] at hp
  | [a], _, p, hp, _, _, _, _, _ => by simp [pairs] at hp
  | a :: b :: l, h, p, hp, x, h1, h2, e, he => by
    obtain ⟨h3, h4⟩ := List.pairwise_cons.1 h
    have hab := h3 b (by simp)
    simp only [pairs, List.mem_cons] at hp
    rcases hp with rfl | hp
    · simp only at h1 h2 ⊢
      rcases List.mem_cons.1 he with rfl | he
      · omega
      · have hb : b ≤ e := by
          rcases List.mem_cons.1 he with rfl | he
          · exact Int.le_refl _
          · have := (List.pairwise_cons.1 h4).1 e he; omega
        omega
    · have hb := pairs_ge h4 p hp
      rcases List.mem_cons.1 he with rfl | he
      · omega
      · exact pairs_cut h4 hp h1 h2 he
/-- Whatever lies between two cuts lies in a piece. -/
theorem pairs_cover : ∀ {xs : List Int}, xs.Pairwise (· < ·) → ∀ {x e1 e2 : Int}, e1 ∈ xs → e2 ∈ xs → e1 ≤ x → x < e2 → ∃ p ∈ pairs xs, p.1 ≤ x ∧ x < p.2
  | [], _, _, _, _, h, _, _, _ => by simp at h
  | [a], _, x, e1, e2, h1, h2, h3, h4 => by simp at h1 h2; omega
  | a :: b :: l, h, x, e1, e2, h1, h2, h3, h4 => by
    obtain ⟨g3, g4⟩ := List.pairwise_cons.1 h
    have hab := g3 b (by simp)
    have ha1 : a ≤ e1 := by
      rcases List.mem_cons.1 h1 with rfl | h1
      · exact Int.le_refl _
      · have := g3 e1 h1; omega
    by_cases hx : x < b
    · exact ⟨(a, b), by simp [pairs], by simp only; omega, hx⟩
    · have h2' : e2 ∈ b :: l := by
        rcases List.mem_cons.1 h2 with rfl | h2
        · omega
        · exact h2
      obtain ⟨p, hp, q⟩ := pairs_cover g4 (x := x) (e1 := b) (by simp) h2' (by omega) h4
      exact ⟨p, by simp only [pairs, List.mem_cons]; exact .inr hp, q⟩
theorem any_eq {α : Type} {p q : α → Bool} : ∀ {l : List α}, (∀ r ∈ l, p r = q r) → l.any p = l.any q
  | [], _ => rfl
  | a :: l, h => by rw [List.any_cons, List.any_cons, h a (by simp), any_eq fun r hr => h r (by simp [hr])]
theorem combF_in {kf : Bool → Bool → Bool} (h0 : kf false false = false) (a b : List Rn) (ha : ∀ r ∈ a, r.1 < r.2) (hb : ∀ r ∈ b, r.1 < r.2) (x : Int) : InR (combF kf a b) x ↔ kf (cvF a x) (cvF b x) = true := by
  have hr := xsF_rising (a ++ b)
  have h1 : ∀ r ∈ (pairs (xsF (a ++ b))).filter (fun p => kf (cvF a p.1) (cvF b p.1)), r.1 < r.2 := fun r hr' => (pairs_lt _ hr).1 r (List.mem_filter.1 hr').1
  have hin : InR (combF kf a b) x ↔ InR ((pairs (xsF (a ++ b))).filter (fun p => kf (cvF a p.1) (cvF b p.1))) x := sumF_in h1 x
  rw [hin]
  have cut : ∀ p ∈ pairs (xsF (a ++ b)), p.1 ≤ x → x < p.2 → cvF a p.1 = cvF a x ∧ cvF b p.1 = cvF b x := by
    intro p hp g1 g2
    have key : ∀ l : List Rn, (∀ r ∈ l, r ∈ a ++ b) → cvF l p.1 = cvF l x := by
      intro l hl
      unfold cvF
      refine any_eq fun r hr' => ?_
      have m1 : r.1 ∈ xsF (a ++ b) := mem_xsF.2 ⟨r, hl r hr', .inl rfl⟩
      have m2 : r.2 ∈ xsF (a ++ b) := mem_xsF.2 ⟨r, hl r hr', .inr rfl⟩
      have c1 := pairs_cut hr hp g1 g2 m1
      have c2 := pairs_cut hr hp g1 g2 m2
      congr 1
      · exact decide_eq_decide.2 c1.symm
      · exact decide_eq_decide.2 ⟨fun h => by omega, fun h => by omega⟩
    exact ⟨key a fun r hr' => List.mem_append_left _ hr', key b fun r hr' => List.mem_append_right _ hr'⟩
  constructor
  · rintro ⟨p, hp, g1, g2⟩
    obtain ⟨hp1, hp2⟩ := List.mem_filter.1 hp
    obtain ⟨c1, c2⟩ := cut p hp1 g1 g2
    rw [c1, c2] at hp2
    exact hp2
  · intro hk
    have hex : ∃ r ∈ a ++ b, r.1 ≤ x ∧ x < r.2 := by
      cases e1 : cvF a x with
      | true =>
        obtain ⟨r, hr', g⟩ := cvF_iff.1 e1
        exact ⟨r, List.mem_append_left _ hr', g⟩
      | false =>
        cases e2 : cvF b x with
        | true =>
          obtain ⟨r, hr', g⟩ := cvF_iff.1 e2
          exact ⟨r, List.mem_append_right _ hr', g⟩
        | false => rw [e1, e2, h0] at hk; cases hk
    obtain ⟨r, hr', g1, g2⟩ := hex
    obtain ⟨p, hp, q1, q2⟩ := pairs_cover hr (mem_xsF.2 ⟨r, hr', .inl rfl⟩) (mem_xsF.2 ⟨r, hr', .inr rfl⟩) g1 g2
    obtain ⟨c1, c2⟩ := cut p hp q1 q2
    exact ⟨p, List.mem_filter.2 ⟨hp, by rw [c1, c2]; exact hk⟩, q1, q2⟩

/-! ### Bands -/
def InB (bs : List Bd) (x y : Int) : Prop := ∃ b ∈ bs, b.1 ≤ y ∧ y < b.2.1 ∧ InR b.2.2 x
def CanB (bs : List Bd) : Prop := (∀ b ∈ bs, b.1 < b.2.1 ∧ b.2.2 ≠ [] ∧ Can b.2.2) ∧ bs.Pairwise fun a b => a.2.1 ≤ b.1 ∧ (a.2.1 = b.1 → a.2.2 ≠ b.2.2)
theorem CanB.cons {r : Bd} {rs : List Bd} : CanB (r :: rs) ↔ (r.1 < r.2.1 ∧ r.2.2 ≠ [] ∧ Can r.2.2) ∧ (∀ s ∈ rs, r.2.1 ≤ s.1 ∧ (r.2.1 = s.1 → r.2.2 ≠ s.2.2)) ∧ CanB rs := by
  constructor
  · rintro ⟨h1, h2⟩
    obtain ⟨h3, h4⟩ := List.pairwise_cons.1 h2
    exact ⟨h1 r (by simp), h3, fun s hs => h1 s (by simp [hs]), h4⟩
  · rintro ⟨h1, h2, h3, h4⟩
    refine ⟨fun s hs => ?_, List.pairwise_cons.2 ⟨h2, h4⟩⟩
    rcases List.mem_cons.1 hs with rfl | hs
    · exact h1
    · exact h3 s hs
theorem can_pt {rs : List Rn} (h : Can rs) (hne : rs ≠ []) : ∃ x, InR rs x := by
  cases rs with
  | nil => exact absurd rfl hne
  | cons r rs => exact ⟨r.1, r, by simp, Int.le_refl _, (Can.cons.1 h).1⟩
theorem InB.cons {r : Bd} {rs : List Bd} {x y : Int} : InB (r :: rs) x y ↔ (r.1 ≤ y ∧ y < r.2.1 ∧ InR r.2.2 x) ∨ InB rs x y := by simp [InB]
theorem CanB.low {r : Bd} {rs : List Bd} (h : CanB (r :: rs)) {x y : Int} (hi : InB (r :: rs) x y) : r.1 ≤ y := by
  obtain ⟨h1, h2, _⟩ := CanB.cons.1 h
  rcases InB.cons.1 hi with g | ⟨s, hs, g, _⟩
  · exact g.1
  · have := (h2 s hs).1; omega
theorem CanB.head {r : Bd} {rs : List Bd} (h : CanB (r :: rs)) {x y : Int} (h1 : r.1 ≤ y) (h2 : y < r.2.1) : InB (r :: rs) x y ↔ InR r.2.2 x := by
  rw [InB.cons]
  constructor
  · rintro (g | ⟨s, hs, g, _⟩)
    · exact g.2.2
    · have := ((CanB.cons.1 h).2.1 s hs).1; omega
  · exact fun g => .inl ⟨h1, h2, g⟩
theorem CanB.tail_ge {r : Bd} {rs : List Bd} (h : CanB (r :: rs)) {x y : Int} (hi : InB rs x y) : r.2.1 ≤ y := by
  obtain ⟨s, hs, g, _⟩ := hi
  have := ((CanB.cons.1 h).2.1 s hs).1
  omega
/-- A band does not end earlier than the other's. -/
theorem CanB.ends {r s : Bd} {a b : List Bd} (ha : CanB (r :: a)) (hb : CanB (s :: b)) (h : ∀ x y, InB (r :: a) x y ↔ InB (s :: b) x y) (e1 : r.1 = s.1) (e2 : r.2.2 = s.2.2) (hlt : r.2.1 < s.2.1) : False := by
  obtain ⟨⟨r1, r2, r3⟩, r4, r5⟩ := CanB.cons.1 ha
  have hat : ∀ x, InB a x r.2.1 ↔ InR r.2.2 x := fun x => by
    have := (h x r.2.1).trans (hb.head (x := x) (y := r.2.1) (by omega) hlt)
    rw [InB.cons] at this
    constructor
    · intro g; rw [e2]; exact this.1 (.inr g)
    · intro g
      rw [e2] at g
      rcases this.2 g with k | k
      · omega
      · exact k
  obtain ⟨x0, hx0⟩ := can_pt r3 r2
  cases a with
  | nil => obtain ⟨t, ht, _⟩ := (hat x0).2 hx0; simp at ht
  | cons t a =>
    have ht := r4 t (by simp)
    have hlow := r5.low ((hat x0).2 hx0)
    have et : r.2.1 = t.1 := by omega
    have ht1 := ((CanB.cons.1 r5).1).1
    refine ht.2 et (can_uniq r3 (CanB.cons.1 r5).1.2.2 fun x => ?_)
    rw [← hat x]
    exact r5.head (by omega) (by omega)
theorem canb_uniq : ∀ {a b : List Bd}, CanB a → CanB b → (∀ x y, InB a x y ↔ InB b x y) → a = b
  | [], [], _, _, _ => rfl
  | [], s :: b, _, hb, h => by
    obtain ⟨⟨h1, h2, h3⟩, _⟩ := CanB.cons.1 hb
    obtain ⟨x, hx⟩ := can_pt h3 h2
    obtain ⟨t, ht, _⟩ := (h x s.1).2 (InB.cons.2 (.inl ⟨Int.le_refl _, h1, hx⟩))
    simp at ht
  | r :: a, [], ha, _, h => by
    obtain ⟨⟨h1, h2, h3⟩, _⟩ := CanB.cons.1 ha
    obtain ⟨x, hx⟩ := can_pt h3 h2
    obtain ⟨t, ht, _⟩ := (h x r.1).1 (InB.cons.2 (.inl ⟨Int.le_refl _, h1, hx⟩))
    simp at ht
  | r :: a, s :: b, ha, hb, h => by
    obtain ⟨⟨r1, r2, r3⟩, r4, r5⟩ := CanB.cons.1 ha
    obtain ⟨⟨s1, s2, s3⟩, s4, s5⟩ := CanB.cons.1 hb
    obtain ⟨xr, hxr⟩ := can_pt r3 r2
    obtain ⟨xs, hxs⟩ := can_pt s3 s2
    have e1 : r.1 = s.1 := by
      have g1 := hb.low ((h xr r.1).1 (InB.cons.2 (.inl ⟨Int.le_refl _, r1, hxr⟩)))
      have g2 := ha.low ((h xs s.1).2 (InB.cons.2 (.inl ⟨Int.le_refl _, s1, hxs⟩)))
      omega
    have e2 : r.2.2 = s.2.2 := can_uniq r3 s3 fun x => by
      rw [← ha.head (x := x) (y := r.1) (Int.le_refl _) r1, h x r.1, hb.head (by omega) (by omega)]
    have e3 : r.2.1 = s.2.1 := by
      rcases Int.lt_trichotomy r.2.1 s.2.1 with g | g | g
      · exact (ha.ends hb h e1 e2 g).elim
      · exact g
      · exact (hb.ends ha (fun x y => (h x y).symm) e1.symm e2.symm g).elim
    have e : r = s := Prod.ext e1 (Prod.ext e3 e2)
    subst e
    rw [canb_uniq r5 s5 fun x y => ?_]
    constructor
    · intro g
      rcases InB.cons.1 ((h x y).1 (InB.cons.2 (.inr g))) with k | k
      · have := ha.tail_ge g; omega
      · exact k
    · intro g
      rcases InB.cons.1 ((h x y).2 (InB.cons.2 (.inr g))) with k | k
      · have := hb.tail_ge g; omega
      · exact k
end Go.Proofs.YtmpncpamndhmcaaGreat
end

/-! Regions, in plain words: the program's bands are canonical, and their points are those of the rectangles; putting a canonical region in order changes nothing. No program in sight; conditions: as each lemma states them. -/
section
namespace Go.Proofs.YtmpncpamndhmcaaGreat
open Go Go.Ab Go.RowKit

theorem canB_app {a b : List Bd} : CanB (a ++ b) ↔ CanB a ∧ CanB b ∧ ∀ r ∈ a, ∀ s ∈ b, r.2.1 ≤ s.1 ∧ (r.2.1 = s.1 → r.2.2 ≠ s.2.2) := by
  unfold CanB
  rw [List.pairwise_append]
  constructor
  · rintro ⟨h1, h2, h3, h4⟩
    exact ⟨⟨fun r hr => h1 r (by simp [hr]), h2⟩, ⟨fun r hr => h1 r (by simp [hr]), h3⟩, h4⟩
  · rintro ⟨⟨h1, h2⟩, ⟨h3, h4⟩, h5⟩
    exact ⟨fun r hr => (List.mem_append.1 hr).elim (h1 r) (h3 r), h2, h4, h5⟩
theorem canB_one {r : Bd} : CanB [r] ↔ r.1 < r.2.1 ∧ r.2.2 ≠ [] ∧ Can r.2.2 := by
  rw [CanB.cons]; simp [CanB]
theorem inB_app {a b : List Bd} {x y : Int} : InB (a ++ b) x y ↔ InB a x y ∨ InB b x y := by
  simp only [InB, List.mem_append]
  constructor
  · rintro ⟨r, h | h, h2⟩
    · exact .inl ⟨r, h, h2⟩
    · exact .inr ⟨r, h, h2⟩
  · rintro (⟨r, h, h2⟩ | ⟨r, h, h2⟩)
    · exact ⟨r, .inl h, h2⟩
    · exact ⟨r, .inr h, h2⟩
theorem inB_one {r : Bd} {x y : Int} : InB [r] x y ↔ r.1 ≤ y ∧ y < r.2.1 ∧ InR r.2.2 x := by simp [InB]
theorem bstep_can {f : Int → List Rn} {o : List Bd} {c : Rn} (hf : Can (f c.1)) (h : CanB o) (hc : c.1 < c.2) (hs : ∀ l ∈ o, l.2.1 ≤ c.1) : CanB (bstep f o c) ∧ (∀ x y, InB (bstep f o c) x y ↔ InB o x y ∨ (c.1 ≤ y ∧ y < c.2 ∧ InR (f c.1) x)) ∧ ∀ l ∈ bstep f o c, l.2.1 ≤ c.2 := by
  by_cases he : f c.1 = []
  · rw [bstep_no he, he]
    exact ⟨h, fun x y => by simp [inR_nil], fun l hl => by have := hs l hl; omega⟩
  · have hone : CanB [((c.1, c.2, f c.1) : Bd)] := canB_one.2 ⟨hc, he, hf⟩
    rcases list_snoc o with rfl | ⟨o, l, rfl⟩
    · rw [bstep_nil he]
      exact ⟨hone, fun x y => by rw [inB_one]; simp [InB], by simp⟩
    · obtain ⟨h1, h2, h3⟩ := canB_app.1 h
      obtain ⟨l1, l2, l3⟩ := canB_one.1 h2
      have hl := hs l (by simp)
      by_cases e : l.2.1 = c.1 ∧ l.2.2 = f c.1
      · rw [bstep_in he e.1 e.2]
        refine ⟨canB_app.2 ⟨h1, canB_one.2 ⟨by simp only; omega, l2, l3⟩, fun a ha b hb => ?_⟩, fun x y => ?_, fun a ha => ?_⟩
        · rw [List.mem_singleton.1 hb]; exact h3 a ha l (by simp)
        · rw [inB_app, inB_app, inB_one, inB_one, ← e.2]
          simp only
          constructor
          · rintro (g | ⟨g1, g2, g3⟩)
            · exact .inl (.inl g)
            · by_cases g4 : y < l.2.1
              · exact .inl (.inr ⟨g1, g4, g3⟩)
              · exact .inr ⟨by omega, g2, g3⟩
          · rintro ((g | ⟨g1, g2, g3⟩) | ⟨g1, g2, g3⟩)
            · exact .inl g
            · exact .inr ⟨g1, by omega, g3⟩
            · exact .inr ⟨by omega, g2, g3⟩
        · rcases List.mem_append.1 ha with ha | ha
          · have := hs a (by simp [ha]); omega
          · rw [List.mem_singleton.1 ha]; exact Int.le_refl _
      · rw [bstep_out he e]
        refine ⟨canB_app.2 ⟨h, hone, fun a ha b hb => ?_⟩, fun x y => by rw [inB_app, inB_one], fun a ha => ?_⟩
        · rw [List.mem_singleton.1 hb]
          rcases List.mem_append.1 ha with ha | ha
          · have := (h3 a ha l (by simp)).1
            exact ⟨by simp only; omega, fun g => by simp only at g; omega⟩
          · rw [List.mem_singleton.1 ha]
            exact ⟨hl, fun g g2 => e ⟨g, g2⟩⟩
        · rcases List.mem_append.1 ha with ha | ha
          · have := hs a ha; omega
          · rw [List.mem_singleton.1 ha]; exact Int.le_refl _
theorem bfold_can {f : Int → List Rn} (hf : ∀ y, Can (f y)) : ∀ (l : List Rn) (o : List Bd), CanB o → (∀ p ∈ l, p.1 < p.2) → l.Pairwise (fun a b => a.2 ≤ b.1) → (∀ a ∈ o, ∀ p ∈ l, a.2.1 ≤ p.1) →
    CanB (l.foldl (bstep f) o) ∧ ∀ x y, InB (l.foldl (bstep f) o) x y ↔ InB o x y ∨ ∃ p ∈ l, p.1 ≤ y ∧ y < p.2 ∧ InR (f p.1) x
  | [], o, h, _, _, _ => ⟨h, fun x y => by simp⟩
  | c :: l, o, h, h1, h2, h3 => by
    obtain ⟨h4, h5⟩ := List.pairwise_cons.1 h2
    obtain ⟨g1, g2, g3⟩ := bstep_can (hf c.1) h (h1 c (by simp)) fun a ha => h3 a ha c (by simp)
    obtain ⟨k1, k2⟩ := bfold_can hf l _ g1 (fun s hs => h1 s (by simp [hs])) h5 fun a ha s hs => Int.le_trans (g3 a ha) (h4 s hs)
    refine ⟨k1, fun x y => ?_⟩
    rw [List.foldl_cons, k2, g2, or_assoc]
    simp
/-- The points of a list of rectangles. -/
def inn (r : R) (x y : Int) : Bool := (decide (r.x0 ≤ x) && decide (x < r.x1)) && (decide (r.y0 ≤ y) && decide (y < r.y1))
theorem inn_iff {r : R} {x y : Int} : inn r x y = true ↔ (r.x0 ≤ x ∧ x < r.x1) ∧ (r.y0 ≤ y ∧ y < r.y1) := by simp [inn]
def ptF (l : List R) (x y : Int) : Bool := l.any fun r => inn r x y
theorem ptF_iff {l : List R} {x y : Int} : ptF l x y = true ↔ ∃ r ∈ l, (r.x0 ≤ x ∧ x < r.x1) ∧ (r.y0 ≤ y ∧ y < r.y1) := by simp [ptF, inn]
theorem row_pt {l : List R} (hc : ∀ r ∈ l, rempty r = false) (x y : Int) : cvF (sumF (rsF l y)) x = ptF l x y := by
  have h1 : ∀ r ∈ rsF l y, r.1 < r.2 := fun r hr => (rsF_ok hc r hr).1
  have : cvF (sumF (rsF l y)) x = true ↔ ptF l x y = true := by
    rw [cvF_iff, sumF_in h1, ptF_iff]
    constructor
    · rintro ⟨r, hr, g⟩
      obtain ⟨s, hs, rfl⟩ := List.mem_map.1 hr
      obtain ⟨hs1, hs2⟩ := List.mem_filter.1 hs
      simp at hs2
      exact ⟨s, hs1, g, hs2⟩
    · rintro ⟨s, hs, g1, g2⟩
      exact ⟨(s.x0, s.x1), List.mem_map.2 ⟨s, List.mem_filter.2 ⟨hs, by simp [g2]⟩, rfl⟩, g1⟩
  cases e1 : cvF (sumF (rsF l y)) x <;> cases e2 : ptF l x y <;> simp_all
theorem bands_can {kf : Bool → Bool → Bool} (h0 : kf false false = false) (la lb : List R) : CanB (bandsF kf la lb) ∧ ∀ x y, InB (bandsF kf la lb) x y ↔ kf (ptF (cl la) x y) (ptF (cl lb) x y) = true := by
  have hr := ysF_rising (cl la ++ cl lb)
  obtain ⟨p1, p2⟩ := pairs_lt _ hr
  have hf : ∀ y, Can (rowF kf (cl la) (cl lb) y) := fun y => by unfold rowF combF; exact kept_can (xsF_rising _)
  obtain ⟨k1, k2⟩ := bfold_can hf (pairs (ysF (cl la ++ cl lb))) [] ⟨by simp, .nil⟩ p1 p2 (by simp)
  have hca := cl_ok la
  have hcb := cl_ok lb
  have hrow : ∀ x y, InR (rowF kf (cl la) (cl lb) y) x ↔ kf (ptF (cl la) x y) (ptF (cl lb) x y) = true := by
    intro x y
    have h1 := fun (l : List R) (hc : ∀ r ∈ l, rempty r = false) => sumF_can (l := rsF l y) fun r hr => (rsF_ok hc r hr).1
    unfold rowF
    rw [combF_in h0 _ _ (h1 _ hca).1 (h1 _ hcb).1, row_pt hca, row_pt hcb]
  have cut : ∀ p ∈ pairs (ysF (cl la ++ cl lb)), ∀ x y, p.1 ≤ y → y < p.2 → ptF (cl la) x p.1 = ptF (cl la) x y ∧ ptF (cl lb) x p.1 = ptF (cl lb) x y := by
    intro p hp x y g1 g2
    have key : ∀ l : List R, (∀ r ∈ l, r ∈ cl la ++ cl lb) → ptF l x p.1 = ptF l x y := by
      intro l hl
      unfold ptF
      refine any_eq fun r hr' => ?_
      have m1 : r.y0 ∈ ysF (cl la ++ cl lb) := mem_ysF.2 ⟨r, hl r hr', .inl rfl⟩
      have m2 : r.y1 ∈ ysF (cl la ++ cl lb) := mem_ysF.2 ⟨r, hl r hr', .inr rfl⟩
      have c1 := pairs_cut hr hp g1 g2 m1
      have c2 := pairs_cut hr hp g1 g2 m2
      unfold inn
      congr 2
      · exact decide_eq_decide.2 c1.symm
      · exact decide_eq_decide.2 ⟨fun h => by omega, fun h => by omega⟩
    exact ⟨key _ fun r hr' => List.mem_append_left _ hr', key _ fun r hr' => List.mem_append_right _ hr'⟩
  refine ⟨k1, fun x y => ?_⟩
  refine (k2 x y).trans ?_
  constructor
  · rintro (⟨b, hb, _⟩ | ⟨p, hp, g1, g2, g3⟩)
    · simp at hb
    · obtain ⟨c1, c2⟩ := cut p hp x y g1 g2
      rw [hrow, c1, c2] at g3
      exact g3
  · intro hk
    have hex : ∃ r ∈ cl la ++ cl lb, r.y0 ≤ y ∧ y < r.y1 := by
      cases e1 : ptF (cl la) x y with
      | true =>
        obtain ⟨r, hr', g⟩ := ptF_iff.1 e1
        exact ⟨r, List.mem_append_left _ hr', g.2⟩
      | false =>
        cases e2 : ptF (cl lb) x y with
        | true =>
          obtain ⟨r, hr', g⟩ := ptF_iff.1 e2
          exact ⟨r, List.mem_append_right _ hr', g.2⟩
        | false => rw [e1, e2, h0] at hk; cases hk
    obtain ⟨r, hr', g1, g2⟩ := hex
    obtain ⟨p, hp, q1, q2⟩ := pairs_cover hr (mem_ysF.2 ⟨r, hr', .inl rfl⟩) (mem_ysF.2 ⟨r, hr', .inr rfl⟩) g1 g2
    obtain ⟨c1, c2⟩ := cut p hp x y q1 q2
    exact .inr ⟨p, hp, q1, q2, by rw [hrow, c1, c2]; exact hk⟩
end Go.Proofs.YtmpncpamndhmcaaGreat
end

/-! Regions, in plain words: a canonical region put in order is itself; its area is the sum of the areas of any rectangles that lie apart and have its points. No program in sight; conditions: as each lemma states them. -/
section
namespace Go.Proofs.YtmpncpamndhmcaaGreat
open Go Go.Ab Go.RowKit

theorem rectsF_mem {bs : List Bd} {r : R} : r ∈ rectsF bs ↔ ∃ b ∈ bs, ∃ s ∈ b.2.2, r = mkR b.1 b.2.1 s := by
  simp only [rectsF, List.mem_flatMap, List.mem_map]
  constructor
  · rintro ⟨b, hb, s, hs, rfl⟩; exact ⟨b, hb, s, hs, rfl⟩
  · rintro ⟨b, hb, s, hs, rfl⟩; exact ⟨b, hb, s, hs, rfl⟩
theorem pt_rects {bs : List Bd} {x y : Int} : ptF (rectsF bs) x y = true ↔ InB bs x y := by
  rw [ptF_iff]
  constructor
  · rintro ⟨r, hr, g1, g2⟩
    obtain ⟨b, hb, s, hs, rfl⟩ := rectsF_mem.1 hr
    exact ⟨b, hb, g2.1, g2.2, s, hs, g1⟩
  · rintro ⟨b, hb, g1, g2, s, hs, g3⟩
    exact ⟨_, rectsF_mem.2 ⟨b, hb, s, hs, rfl⟩, g3, g1, g2⟩
theorem rects_clean {bs : List Bd} (h : CanB bs) (hr : ∀ x y, InB bs x y → (-16384 ≤ x ∧ x < 16384) ∧ (-16384 ≤ y ∧ y < 16384)) : ∀ r ∈ rectsF bs, rempty r = false := by
  intro r hr'
  obtain ⟨b, hb, s, hs, rfl⟩ := rectsF_mem.1 hr'
  obtain ⟨h1, _, h2⟩ := h.1 b hb
  have h3 := h2.1 s hs
  have p1 := hr s.1 b.1 ⟨b, hb, Int.le_refl _, h1, s, hs, Int.le_refl _, h3⟩
  have p2 := hr (s.2 - 1) (b.2.1 - 1) ⟨b, hb, by omega, by omega, s, hs, by omega, by omega⟩
  exact rempty_of _ (by simp only [mkR]; omega)
theorem bool_eq {a b : Bool} (h : a = true ↔ b = true) : a = b := by cases a <;> cases b <;> simp_all
theorem canon_can (l : List R) : CanB (bandsF orF l []) := (bands_can rfl l []).1
theorem canon_inB (l : List R) (x y : Int) : InB (bandsF orF l []) x y ↔ ptF (cl l) x y = true := by
  rw [(bands_can rfl l []).2]
  simp [cl, ptF]
theorem pt_rng {l : List R} (hc : ∀ r ∈ l, rempty r = false) {x y : Int} (h : ptF l x y = true) : (-16384 ≤ x ∧ x < 16384) ∧ (-16384 ≤ y ∧ y < 16384) := by
  obtain ⟨r, hr, g1, g2⟩ := ptF_iff.1 h
  have := rempty_ok r (hc r hr)
  omega
theorem canon_clean (l : List R) : ∀ r ∈ canonF l, rempty r = false := rects_clean (canon_can l) fun x y h => pt_rng (cl_ok l) ((canon_inB l x y).1 h)
/-! ### Areas: counts of points -/
end Go.Proofs.YtmpncpamndhmcaaGreat
end

/-! The reference's questions about a region, walked: Same, IsCanonical, Area, Contains. Conditions: as each lemma states them. -/
section
namespace Go.Proofs.YtmpncpamndhmcaaGreat
open Go Go.Ab Go.RowKit

attribute [local simp] rc_len rc_t4 rc_t1 rc_t2 rc_t3 rc_d1 rc_d2 rc_d3 rc_d4 rc_ag rc_one rc_eq

end Go.Proofs.YtmpncpamndhmcaaGreat
end

/-! The reference's Contains, walked. Conditions: as each lemma states them. -/
section
namespace Go.Proofs.YtmpncpamndhmcaaGreat
open Go Go.Ab Go.RowKit

attribute [local simp] rc_len rc_t4 rc_t1 rc_t2 rc_t3 rc_d1 rc_d2 rc_d3 rc_d4 rc_ag rc_one rc_eq

theorem ptF_snoc (l : List R) (r : R) (x y : Int) : ptF (cl (l ++ [r])) x y = (ptF (cl l) x y || (usF r && inn r x y)) := by
  rw [cl_push, usF_eq]
  cases rempty r <;> simp [ptF]
theorem ptF_mem {l : List R} {r : R} (h : r ∈ l) {x y : Int} (hu : usF r = true) (hi : inn r x y = true) : ptF (cl l) x y = true := by
  rw [usF_eq] at hu
  exact List.any_eq_true.2 ⟨r, List.mem_filter.2 ⟨h, by simpa using hu⟩, hi⟩
theorem c43 {H : AH} {K : AV → AH → Prop} {a : AV} {l : List R} {x y : Int} (ha : Rr H a l) (hl : l.length ≤ 1000000) (hk : K (vb (ptF (cl l) x y)) H) : @AC Tryz.prog 43 [a, vi x, vi y] H ⟨K⟩ := by
  have la := fun k => Rw.lenK ha (k := k)
  refine AC_of (.forget ?_)
  refine call_c follows cf43_ok (by simp) ?_
  simp
  refine wpc_loop (fun s => ∃ (i : Nat), s.n = 55 ∧ s.H = H ∧ s.t 0 = a ∧ s.t 1 = vi x ∧ s.t 2 = vi y ∧ s.t 7 = vi i ∧ i ≤ l.length ∧ ptF (cl (l.take i)) x y = false) (fun s => l.length - slotN (s.t 7)) ?_ ?_
  · exact FgK.same ⟨0, by simp, by simp, by simp, by simp, by simp, by simp, by omega, by simp [cl, ptF]⟩
  rintro s ⟨i, hn, hH, e0, e1, e2, e7, hi, hp⟩
  by_cases hlt : i < l.length
  · have wr := IntWalk.i64_in ((i : Int) + 1) (by omega)
    obtain ⟨p, hp1, hp2, hpf⟩ := fat rc_l ha hlt
    have et := ptF_snoc (l.take i) l[i] x y
    rw [← take_snoc' hlt, hp, Bool.false_or] at et
    have hall : usF l[i] = true → inn l[i] x y = true → ptF (cl l) x y = true := fun h1 h2 => ptF_mem (List.getElem_mem hlt) h1 h2
    generalize l[i] = r at *
    obtain ⟨q0, f0, g0⟩ := hpf 0 (vi r.x0) rfl
    obtain ⟨q1, f1, g1⟩ := hpf 1 (vi r.y0) rfl
    obtain ⟨q2, f2, g2⟩ := hpf 2 (vi r.x1) rfl
    obtain ⟨q3, f3, g3⟩ := hpf 3 (vi r.y1) rfl
    have fin : (usF r && inn r x y) = false → ∀ s1 : ASt, s1.n = 55 → s1.H = H → s1.t 0 = a → s1.t 1 = vi x → s1.t 2 = vi y → s1.t 7 = vi ((i : Int) + 1) → (∃ (i : Nat), s1.n = 55 ∧ s1.H = H ∧ s1.t 0 = a ∧ s1.t 1 = vi x ∧ s1.t 2 = vi y ∧ s1.t 7 = vi i ∧ i ≤ l.length ∧ ptF (cl (l.take i)) x y = false) ∧ l.length - slotN (s1.t 7) < l.length - slotN (s.t 7) :=
      fun h0 s1 h1 h2 h3 h4 h5 h6 => ⟨⟨i + 1, h1, h2, h3, h4, h5, by rw [h6]; simp, by omega, by rw [et, h0]⟩, by rw [h6, e7]; simp [slotN]; omega⟩
    simp (disch := omega) [hn, hH, e0, e1, e2, e7, la, hlt, hp1, hp2 _ (Sub.refl _)]
    refine (c71 _).ac ?_
    cases hu : usF r with
    | false =>
      simp (disch := omega) [wr]
      exact FgK.same (fin (by rw [hu]; rfl) _ (by simp) (by simp) (by simp) (by simp) (by simp) (by simp))
    | true =>
      by_cases h1 : r.x0 ≤ x
      · by_cases h2 : x < r.x1
        · by_cases h3 : r.y0 ≤ y
          · by_cases h4 : y < r.y1
            · have := hall hu (inn_iff.2 ⟨⟨h1, h2⟩, h3, h4⟩)
              rw [this] at hk
              simp (disch := omega) [hp1, f0, g0 _ (Sub.refl _), f1, g1 _ (Sub.refl _), f2, g2 _ (Sub.refl _), f3, g3 _ (Sub.refl _), h1, h2, h3, h4]
              exact ⟨H, Sub.refl _, hk⟩
            · simp (disch := omega) [wr, hp1, f0, g0 _ (Sub.refl _), f1, g1 _ (Sub.refl _), f2, g2 _ (Sub.refl _), f3, g3 _ (Sub.refl _), h1, h2, h3, h4]
              exact FgK.same (fin (by simp [inn, h4]) _ (by simp) (by simp) (by simp) (by simp) (by simp) (by simp))
          · simp (disch := omega) [wr, hp1, f0, g0 _ (Sub.refl _), f1, g1 _ (Sub.refl _), f2, g2 _ (Sub.refl _), h1, h2, h3]
            exact FgK.same (fin (by simp [inn, h3]) _ (by simp) (by simp) (by simp) (by simp) (by simp) (by simp))
        · simp (disch := omega) [wr, hp1, f0, g0 _ (Sub.refl _), f2, g2 _ (Sub.refl _), h1, h2]
          exact FgK.same (fin (by simp [inn, h2]) _ (by simp) (by simp) (by simp) (by simp) (by simp) (by simp))
      · simp (disch := omega) [wr, hp1, f0, g0 _ (Sub.refl _), h1]
        exact FgK.same (fin (by simp [inn, h1]) _ (by simp) (by simp) (by simp) (by simp) (by simp) (by simp))
  · rw [List.take_of_length_le (by omega)] at hp
    rw [hp] at hk
    simp (disch := omega) [hn, hH, e0, e1, e2, e7, la, hlt]
    exact ⟨H, Sub.refl _, hk⟩
end Go.Proofs.YtmpncpamndhmcaaGreat
end
