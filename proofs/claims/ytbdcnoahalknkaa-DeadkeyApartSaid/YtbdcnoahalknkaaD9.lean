/-
  The reference's New and Feed, walked. Conditions: as each lemma states them.
-/
import Derived.Test.YtbdcnoahalknkaaD8
namespace Go.Proofs.Ytbdcnoahalknkaa
open Go Go.Ab Go.RowKit
set_option linter.unusedSimpArgs false
set_option linter.unusedVariables false
set_option linter.unnecessarySimpa false

attribute [local simp] condK_true condK_false condK_not wpc_skip wpc_ret wpc_exit wpc_seq wpc_reg wpc_regD testA_bool wpc_cond wpc_block thenA_normal thenA_ret thenA_exit blockA_normal blockA_ret blockA_exit blockA_other endA_normal endA_ret ev_tmp' ev_const ev_func ev_global cv_int cv_bool cv_string cv_pointer cv_slice cv_agg cv_map put_some put_none wH_s setE_apply setE_env less_eq env_cons env_nil upd_upd upd_apply del_apply startA_eq cells_ag cells_sl one_sl cells_vs one_vs cells_ep one_ep cells_fn one_fn cells_int one_int cells_bool one_bool cells_string one_string cells_pointer one_pointer cells_slice one_slice cells_map one_map cells_agg resK_one resK_nil resK_two rvK_t rvK_c rvsK_nil rvsK_cons iseq_nil iseq_cons gdA_true gdA_false gdA_undef istep_free istep_guard istepV_free istepV_guard dseq_nil dseq_pu dseq_rd dseq_ef wpc_regT dtree_nil dtree_pu dtree_rd dtree_ef dtree_br chkAll_nil chkAll_cons andK_true pickK_true pickK_false pickK_tb pickK_fb bin2K_pl eqbK_eq eqbK_ne eqpK_eq eqpK_ne eqmK_eq eqmK_ne eqzK_eq eqzK_ne eqzK_sl eqzK_vs un1K_pl convK_int fillK_some fillA_cons fillA_nil cellsK_some needK_true needK_ok seeK_ep seeK_ptr oneK_agg oneK_one nilcK_ptr nilcK_ep fadrK_ptr fadrK_ep fldK_ag iadAK_ptr iadAK_ep iadSK_sl iadSK_vs extK_0 extK_1 extK_2 extK_3 lenK_pl lenK_sl lenK_vs lensK_pl boxK_some minmax1K_int storeK_ptr callvK_fn callvK_pl newsK_nil newsK_vs newsK_sl appK_nil appK_nil0 appK_sl appK_vs bnd1K_int bndK_none bndK_some slsK_vs slsK_nil slsK_sl0 slsK_sl slstrK_pl boolK_some eqsK_ag iop_eqs iop_sls iop_slstr seesK_some seesK_ro mapsK_some MAP_some findK_some findK_none plK_pl nmapK_none nmapK_some iop_mlook iop_mlen iop_mmk iop_mupd iop_mdel iop_mrng itK_none itK_some ptr0K_ptr iop_mnxt iop_ment it1K_some entK_some iop_mov iop_pick iop_bin iop_eqb iop_eqp iop_eqm iop_eqz iop_un iop_conv iop_build iop_load iop_nilc iop_fadr iop_fld iop_iadA iop_iadS iop_ext iop_mkf iop_len iop_lens iop_minmax iop_al iop_box iop_bsl iop_store iop_call iop_callv iop_app BIN_add BIN_sub BIN_mul BIN_and BIN_or BIN_xor BIN_andNot BIN_eql BIN_neq BIN_lss BIN_leq BIN_gtr BIN_geq BIN_quo BIN_rem BIN_shl BIN_shr BIN_sadd BIN_seql BIN_sneq BIN_slss BIN_sleq BIN_sgtr BIN_sgeq UN_neg UN_xor UN_not MM_nil MM_cons partsA argsA ptrA lessL eqL min2I slotN_int slotP_int slotI_int

theorem hit_take {S : List Sq} {v : List Int} {i : Nat} {s : Sq} (hs : S[i]? = some s) (h : ∀ t ∈ S.take i, t.ks ≠ v) (e : s.ks = v) : hit S v = some s := by
  have hlt : i < S.length := (List.getElem?_eq_some_iff.1 hs).1
  have hi : S[i] = s := (List.getElem?_eq_some_iff.1 hs).2
  have : S = S.take i ++ s :: S.drop (i + 1) := by rw [← hi, ← List.drop_eq_getElem_cons hlt, List.take_append_drop]
  unfold hit
  rw [this, List.find?_append]
  have h1 : List.find? (fun s => decide (s.ks = v)) (S.take i) = none := by simpa using h
  rw [h1]
  simp [e]
theorem preq {l m : List Int} (h : l.length = m.length) : l.isPrefixOf m = decide (m = l) := by
  by_cases e : m = l
  · subst e; simp
  · have : l.isPrefixOf m = false := by
      rw [Bool.eq_false_iff, ne_eq, List.isPrefixOf_iff_prefix]
      intro h2; exact e (h2.eq_of_length h).symm
    rw [this]; simp [e]
theorem c18 {H : AH} {K : AV → AH → Prop} {a b : AV} {mk : Bool} {L : List (AV × Sq)} {w : List Int} (x : Int) (ha : Sr H a L) (hb : Ri H b w) (hl : L.length ≤ 1000000) (hw : w.length ≤ 1000000)
    (hk : ∀ out H', Row H H' out ((feed (sqs L) w x).w.map vi) (feed (sqs L) w x).w.length 1 → K (.tp [.ag [out], vs8 (feed (sqs L) w x).r, vi (feed (sqs L) w x).n]) H') :
    @AC Try.prog 18 [.ag [vb mk, a], .ag [b], vi x] H ⟨K⟩ := by
  have oa := ha.row.one
  have ob := hb.one
  have la := fun k => ha.row.lenK (k := k)
  refine AC_of (.forget ?_)
  refine call_c follows cf18_ok (by simp) ?_
  simp [oa, ob]
  refine newK_of fun z hz => ?_
  simp [ob]
  refine newK_of fun y hy => ?_
  obtain ⟨n1, n2, hyH⟩ := upd_none'.1 hy
  simp [n2]
  refine newK_of fun u hu => ?_
  obtain ⟨n3, n4, hu1⟩ := upd_none'.1 hu
  obtain ⟨n5, n6, huH⟩ := upd_none'.1 hu1
  have hS : Sub H (upd (upd (upd H z (.cells [vb mk, a])) y (.cells [b])) u (.cells [vnil])) := (((Sub.refl H).upd hz).upd hyH).upd huH
  have hzz : (upd (upd (upd H z (.cells [vb mk, a])) y (.cells [b])) u (.cells [vnil])) z = some (.cells [vb mk, a]) := by simp [upd_apply, n2, n6]
  have hyy : (upd (upd (upd H z (.cells [vb mk, a])) y (.cells [b])) u (.cells [vnil])) y = some (.cells [b]) := by simp [upd_apply, n4]
  have huu : (upd (upd (upd H z (.cells [vb mk, a])) y (.cells [b])) u (.cells [vnil])) u = some (.cells [vnil]) := by simp [upd_apply]
  have ha2 := ha.sub hS
  have hb2 := hb.sub hS
  simp [n4, n6, n2]
  generalize upd (upd (upd H z (.cells [vb mk, a])) y (.cells [b])) u (.cells [vnil]) = H2 at *
  refine c22 ha2 hb2 hl hw fun kw H3 hrow => ?_
  have hS3 := hrow.sub
  have hkw := hrow.ri
  have hz3 := hS3.at hzz
  have hu3 := hS3.at huu
  have lkw := fun k => hkw.lenK (k := k)
  have hwl : (was (sqs L) w).length ≤ 1000000 := by
    cases c1 : opn (sqs L) w with
    | false => rw [was_no c1]; simp
    | true => rw [was_yes c1]; exact hw
  simp
  refine newK_of fun q hq => ?_
  have hSq : Sub H3 (upd H3 q (.cells [])) := (Sub.refl _).upd hq
  have hkw2 := hkw.sub hSq
  generalize hx1 : AV.sl q 0 0 1 true = x1
  simp
  rw [Ri.news hkw2, ← hx1]
  refine sl_app hq (Sub.refl _) (by simp) (by simp) (by omega) fun r H4 hr hs4 => ?_
  generalize hx2 : AV.sl r 0 (0 + (was (sqs L) w).length) 1 false = x2
  simp
  refine newK_of fun g hg => ?_
  have hs5 := hs4.trans ((Sub.refl H4).upd hg (o := .cells [vi x]))
  generalize hx3 : AV.sl g 0 1 1 true = x3
  have hnw : ∀ k : Nat → List AV → Prop, @NEWS (upd H4 g (.cells [vi x])) x3 1 ⟨k⟩ = k 1 [vi x] := by intro k; rw [← hx3]; simp
  simp [hnw]
  rw [← hx2]
  refine sl_app hr hs5 (by simp) (by simp) (by omega) fun r2 H5 hr2 hs6 => ?_
  have hrow5 : Row H3 (upd H3 r2 (.cells ((was (sqs L) w ++ [x]).map vi))) (.sl r2 0 (was (sqs L) w ++ [x]).length 1 false) ((was (sqs L) w ++ [x]).map vi) (was (sqs L) w ++ [x]).length 1 := .mk hr2
  have hs7 : Sub (upd H3 r2 (.cells ((was (sqs L) w ++ [x]).map vi))) H5 := by
    have := hs6
    simp only [List.nil_append] at this
    rw [List.map_append]
    exact this
  have hv5 : Ri H5 (.sl r2 0 (was (sqs L) w ++ [x]).length 1 false) (was (sqs L) w ++ [x]) := hrow5.ri.sub hs7
  have hlv : 0 + (was (sqs L) w).length + 1 = (was (sqs L) w ++ [x]).length := by simp
  rw [hlv]
  have h35 : Sub H3 H5 := (hrow5.sub).trans hs7
  have ha5 := ha2.sub (hS3.trans h35)
  have hz5 := h35.at hz3
  have hu5 := h35.at hu3
  have hvl : (was (sqs L) w ++ [x]).length ≤ 1000001 := by simp; omega
  have fin : ∀ X, ∃ H1, Sub H1 (upd H5 u X) ∧ Row H H1 (.sl r2 0 (was (sqs L) w ++ [x]).length 1 false) ((was (sqs L) w ++ [x]).map vi) (was (sqs L) w ++ [x]).length 1 := by
    intro X
    have hrH : H r2 = none := hS.none_of (hS3.none_of hr2)
    refine ⟨_, Sub.upd (Sub.trans (Sub.cong (hS.trans hS3)) hs7) ?_, Row.mk hrH⟩
    have : u ≠ r2 := ne_of_free hu3 hr2
    simp only [upd_apply, if_neg this]
    exact huH
  have fin0 : ∀ X, Sub H (upd H5 u X) := fun X => ((hS.trans hS3).trans h35).upd huH
  have lv := fun k => hv5.lenK (k := k)
  have ov := hv5.one
  have cvo := hv5.cells
  generalize hv : was (sqs L) w ++ [x] = v at *
  generalize hvo : AV.sl r2 0 v.length 1 false = vo at *
  have hfeed : feed (sqs L) w x = match hit (sqs L) v with
    | some s => ⟨[], s.r, 2⟩
    | none => if opn (sqs L) v = true then ⟨v, emp, 1⟩ else if opn (sqs L) w = true then ⟨[], emp, 3⟩ else ⟨[], emp, 0⟩ := by rw [← hv]; rfl
  simp
  refine wpc_loop (fun s' => ∃ i : Nat, s'.n = 65 ∧ s'.H = H5 ∧ s'.t 3 = pA z ∧ s'.t 6 = pA u ∧ s'.t 9 = kw ∧ s'.t 10 = vo ∧ s'.t 11 = vi i ∧ i ≤ L.length ∧ ∀ t ∈ sqs (L.take i), t.ks ≠ v) (fun s' => L.length - slotN (s'.t 11)) ?_ ?_
  · exact FgK.same ⟨0, by simp, by simp, by simp, by simp, by simp, by simp, by simp, by omega, by simp [sqs]⟩
  rintro s' ⟨i, hn, hH, e3, e6, e9, e10, e11, hi, ht⟩
  by_cases hlt : i < L.length
  · have wr := IntWalk.i64_in ((i : Int) + 1) (by omega)
    obtain ⟨p, q0, q1, hp, hq0, hq1, s0, s1, s2⟩ := ha5.at hlt
    have hkey := ha5.key _ (List.getElem_mem hlt)
    have hst := sqs_take L i hlt
    have hgi : (sqs L)[i]? = some L[i].2 := by simp [sqs, hlt]
    have htk : sqs (L.take i) = (sqs L).take i := by simp [sqs]
    generalize L[i] = xx at *
    obtain ⟨ax, sx⟩ := xx
    simp only at hkey hst s0 s1 s2 hgi
    have lx := fun k => hkey.lenK (k := k)
    have nxt : ∀ s1 : ASt, sx.ks ≠ v → s1.n = 65 → s1.H = H5 → s1.t 3 = pA z → s1.t 6 = pA u → s1.t 9 = kw → s1.t 10 = vo → s1.t 11 = vi ((i : Int) + 1) →
        (∃ i : Nat, s1.n = 65 ∧ s1.H = H5 ∧ s1.t 3 = pA z ∧ s1.t 6 = pA u ∧ s1.t 9 = kw ∧ s1.t 10 = vo ∧ s1.t 11 = vi i ∧ i ≤ L.length ∧ ∀ t ∈ sqs (L.take i), t.ks ≠ v) ∧ L.length - slotN (s1.t 11) < L.length - slotN (s'.t 11) :=
      fun s1 h1 h2 h3 h4 h5 h6 h7 h8 => ⟨⟨i + 1, h2, h3, h4, h5, h6, h7, by rw [h8]; simp, by omega, fun t hm => by
        rw [hst] at hm
        rcases List.mem_append.1 hm with hm | hm
        · exact ht t hm
        · obtain rfl := List.mem_singleton.1 hm; exact h1⟩, by rw [h8, e11]; simp [slotN]; omega⟩
    by_cases c1 : v.length = sx.ks.length
    · simp (disch := omega) [hn, hH, e3, e6, e9, e10, e11, la, lv, hlt, hp, hq0, hq1, s1 _ (Sub.refl _), hz5, lx, c1]
      refine c26 hv5 hkey (by have : maxLen = 9223372036854775807 := rfl; omega) ?_
      rw [preq c1]
      by_cases c2 : sx.ks = v
      · have hh := hit_take hgi (by rw [← htk]; exact ht) c2
        rw [hfeed, hh] at hk
        have hne : ¬ (u = r2) := ne_of_free hu3 hr2
        have hpq := fun X => s2 (upd H5 u X)
        have hsame : upd H5 u (.cells [vnil]) = H5 := by
          funext j; simp only [upd_apply]; split
          · rename_i e; rw [e, hu5]
          · rfl
        simp [c2, hz5, hp, hq1, s2 _ (Sub.refl _), hu5, hsame]
        exact ⟨H, (hS.trans hS3).trans h35, hk vnil H (Row.nil H 1)⟩
      · simp (disch := omega) [c2, wr]
        refine FgK.same (nxt _ c2 ?_ ?_ ?_ ?_ ?_ ?_ ?_) <;> simp
    · have c2 : sx.ks ≠ v := fun e => c1 (by rw [e])
      have c1' : ¬ (v.length : Int) = sx.ks.length := by omega
      simp (disch := omega) [hn, hH, e3, e6, e9, e10, e11, la, lv, hlt, hp, hq0, hq1, s1 _ (Sub.refl _), hz5, lx, c1, c1', wr]
      refine FgK.same (nxt _ c2 ?_ ?_ ?_ ?_ ?_ ?_ ?_) <;> simp
  · rw [List.take_of_length_le (by omega)] at ht
    have hh : hit (sqs L) v = none := hit_none.2 ht
    rw [hfeed, hh] at hk
    simp (disch := omega) [hn, hH, e3, e6, e9, e10, e11, la, hlt, hz5]
    refine c30 ha5 hv5 hl (by have : maxLen = 9223372036854775807 := rfl; omega) ?_
    cases c3 : opn (sqs L) v with
    | true =>
      rw [c3] at hk
      obtain ⟨H1, k1, k2⟩ := fin (.cells [vo])
      simp [hu5, ov, cvo]
      exact ⟨H1, k1, hk _ _ k2⟩
    | false =>
      rw [c3] at hk
      have hgt : (0 < (was (sqs L) w).length) ↔ opn (sqs L) w = true := by rw [← was_ne, List.length_pos_iff]
      cases c4 : opn (sqs L) w with
      | true =>
        rw [c4] at hk
        have := hgt.2 c4
        simp [hu5, lkw, this]
        exact ⟨H, fin0 _, hk vnil H (Row.nil H 1)⟩
      | false =>
        rw [c4] at hk
        have : ¬ 0 < (was (sqs L) w).length := fun e => by have := hgt.1 e; rw [c4] at this; cases this
        simp [hu5, lkw, this]
        exact ⟨H, fin0 _, hk vnil H (Row.nil H 1)⟩
end Go.Proofs.Ytbdcnoahalknkaa
