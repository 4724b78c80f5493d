/-
  The tree of sequences, walked: child and add of a node, and what a state's word leads to. Conditions: as each lemma states them.
-/
import Derived.Test.YtbdcnoahalknkaaD2
import Derived.Test.YtbdcnoahalknkaaCf
import Derived.Test.YtbdcnoahalknkaaAbO
import Derived.Test.YtbdcnoahalknkaaAbT
namespace Go.Proofs.Ytbdcnoahalknkaa
open Go Go.Ab Go.RowKit
set_option linter.unusedSimpArgs false
set_option linter.unusedVariables false
set_option linter.unnecessarySimpa false

attribute [local simp] condK_true condK_false condK_not wpc_skip wpc_ret wpc_exit wpc_seq wpc_reg wpc_regD testA_bool wpc_cond wpc_block thenA_normal thenA_ret thenA_exit blockA_normal blockA_ret blockA_exit blockA_other endA_normal endA_ret ev_tmp' ev_const ev_func ev_global cv_int cv_bool cv_string cv_pointer cv_slice cv_agg cv_map put_some put_none wH_s setE_apply setE_env less_eq env_cons env_nil upd_upd upd_apply del_apply startA_eq cells_ag cells_sl one_sl cells_vs one_vs cells_ep one_ep cells_fn one_fn cells_int one_int cells_bool one_bool cells_string one_string cells_pointer one_pointer cells_slice one_slice cells_map one_map cells_agg resK_one resK_nil resK_two rvK_t rvK_c rvsK_nil rvsK_cons iseq_nil iseq_cons gdA_true gdA_false gdA_undef istep_free istep_guard istepV_free istepV_guard dseq_nil dseq_pu dseq_rd dseq_ef wpc_regT dtree_nil dtree_pu dtree_rd dtree_ef dtree_br chkAll_nil chkAll_cons andK_true pickK_true pickK_false pickK_tb pickK_fb bin2K_pl eqbK_eq eqbK_ne eqpK_eq eqpK_ne eqmK_eq eqmK_ne eqzK_eq eqzK_ne eqzK_sl eqzK_vs un1K_pl convK_int fillK_some fillA_cons fillA_nil cellsK_some needK_true needK_ok seeK_ep seeK_ptr oneK_agg oneK_one nilcK_ptr nilcK_ep fadrK_ptr fadrK_ep fldK_ag iadAK_ptr iadAK_ep iadSK_sl iadSK_vs extK_0 extK_1 extK_2 extK_3 lenK_pl lenK_sl lenK_vs lensK_pl boxK_some minmax1K_int storeK_ptr callvK_fn callvK_pl newsK_nil newsK_vs newsK_sl appK_nil appK_nil0 appK_sl appK_vs bnd1K_int bndK_none bndK_some slsK_vs slsK_nil slsK_sl0 slsK_sl slstrK_pl boolK_some eqsK_ag iop_eqs iop_sls iop_slstr seesK_some seesK_ro mapsK_some MAP_some findK_some findK_none plK_pl nmapK_none nmapK_some iop_mlook iop_mlen iop_mmk iop_mupd iop_mdel iop_mrng itK_none itK_some ptr0K_ptr iop_mnxt iop_ment it1K_some entK_some iop_mov iop_pick iop_bin iop_eqb iop_eqp iop_eqm iop_eqz iop_un iop_conv iop_build iop_load iop_nilc iop_fadr iop_fld iop_iadA iop_iadS iop_ext iop_mkf iop_len iop_lens iop_minmax iop_al iop_box iop_bsl iop_store iop_call iop_callv iop_app BIN_add BIN_sub BIN_mul BIN_and BIN_or BIN_xor BIN_andNot BIN_eql BIN_neq BIN_lss BIN_leq BIN_gtr BIN_geq BIN_quo BIN_rem BIN_shl BIN_shr BIN_sadd BIN_seql BIN_sneq BIN_slss BIN_sleq BIN_sgtr BIN_sgeq UN_neg UN_xor UN_not MM_nil MM_cons partsA argsA ptrA lessL eqL min2I slotN_int slotP_int slotI_int
attribute [local simp] Option.isNone_none Option.isNone_some pO_some pO_none mO_some mO_none

theorem follows : Try.prog.follows .mixedOrders = true := by kernel_rfl
theorem emp_no {r : ByteArray} (h : r ≠ emp) : r.toList.isEmpty = false := by
  have h1 : (r.toList == emp.toList) = false := by rw [bytes_beq]; simpa using h
  cases h2 : r.toList with
  | nil => rw [h2] at h1; simp at h1
  | cons a l => rfl
theorem mfind_nil {kk : Nat} {k : Value} {i : Nat} : mfind kk k [] i = some none := rfl
theorem Dom.up {S : List Sq} (w : List Int) (k : Int) (h : Dom S (w ++ [k])) : Dom S w := h.pre
theorem c29 {H : AH} {K : AV → AH → Prop} {D : List Int → Prop} {res : List Int → ByteArray} {nd mp : List Int → Option Nat} (h : Tri H D res nd mp) (hp : ∀ w k, D (w ++ [k]) → D w) (w : List Int) (k : Int)
    (hk : K (pO (nd (w ++ [k]))) H) : @AC Try.prog 29 [pO (nd w), vi k] H ⟨K⟩ := by
  refine AC_of ?_
  refine call_c follows cf29_ok (by simp) ?_
  cases e : nd w with
  | none =>
    have h1 : nd (w ++ [k]) = none := h.nd_none fun hd => by
      obtain ⟨b, hb⟩ := h.nd_some (hp w k hd)
      rw [e] at hb; cases hb
    rw [h1] at hk
    simp at hk ⊢
    exact hk
  | some b =>
    have hb := h.node w b e
    cases e2 : mp w with
    | none =>
      have h1 : nd (w ++ [k]) = none := h.nd_none (h.leaf w e2 k)
      rw [h1] at hk
      rw [e2] at hb
      simp [hb] at hk ⊢
      exact hk
    | some m =>
      rw [e2] at hb
      obtain ⟨es, st, cl, h1, ⟨h2, h3⟩ | ⟨h2, j, h3⟩⟩ := kid_find h e2 k
      · rw [h.nd_none h2] at hk
        simp [hb, h1, h3] at hk ⊢
        exact hk
      · simp [hb, h1, h3]
        exact hk
theorem c33 {B H : AH} {K : AV → AH → Prop} {D : List Int → Prop} {res : List Int → ByteArray} {nd mp : List Int → Option Nat} {w : List Int} {b : Nat} (h : TriB B H D res nd mp) (hb : nd w = some b) (k : Int)
    (hr : ¬ D (w ++ [k]) → res (w ++ [k]) = emp) (hk : ∀ H' nd' mp' c, TriB B H' (fun v => D v ∨ v = w ++ [k]) res nd' mp' → (∀ v x, nd v = some x → nd' v = some x) → nd' (w ++ [k]) = some c → K (pA c) H') : @AC Try.prog 33 [pA b, vi k] H ⟨K⟩ := by
  refine AC_of ?_
  refine call_c follows cf33_ok (by simp) ?_
  have hn := h.t.node w b hb
  cases e2 : mp w with
  | none =>
    rw [e2] at hn
    simp [hn]
    refine newK_of fun m hm => ?_
    have n1 := free_ne hm b (by simp [hn])
    have h2 := h.map hb e2 hm
    have hd := h.t.leaf w e2 k
    simp [n1, hn, mfind_nil]
    refine newK_of fun c hc => ?_
    have hc' := upd_none'.1 hc
    have hc2 := upd_none'.1 hc'.2.2
    have h3 := h2.push (w := w) (m := m) (k := k) (es := []) (st := []) (cl := 0) (by simp) hd (hr hd) hc (by simp [n1])
    simp [n1, hc', hc2, hn, mfind_nil, mfind, sameK]
    refine hk _ _ _ c (by simpa using h3) (fun v x hv => ?_) (by simp)
    rw [if_neg]
    · exact hv
    · rintro rfl
      rw [h.t.nd_none hd] at hv; cases hv
  | some m =>
    rw [e2] at hn
    obtain ⟨es, st, cl, h1, ⟨h2, h3⟩ | ⟨h2, j, h3⟩⟩ := kid_find h.t e2 k
    · simp [hn, h1, h3]
      refine newK_of fun c hc => ?_
      have n1 := free_ne hc b (by simp [hn])
      have n2 := free_ne hc m (by simp [h1])
      have n3 : b ≠ m := by rintro rfl; rw [h1] at hn; cases hn
      have h4 := h.push e2 h2 (hr h2) hc h1
      have hks := h.t.kids w m e2
      obtain ⟨ks, st', cl', h5, h6, h7, h8⟩ := hks
      rw [h1] at h5
      cases h5
      have hkn : ∀ x ∈ ks, id x ≠ k := fun x hx e => h2 ((h8 k).1 (e ▸ hx))
      have hf : mfind 1 (.int .i64 k) ((mI id (fun k => pO (nd (w ++ [k]))) ks) ++ [(.int .i64 k, pA c)]) 0 = some (some (0 + ks.length, pA c)) := by
        have := mfind_some (key := fun x : Int × AV => x.1) (val := fun x => x.2) (s := k) (e := (k, pA c)) (m2 := []) (ks.map fun x => (x, pO (nd (w ++ [x])))) 0 (fun x hx => by
          obtain ⟨y, hy, rfl⟩ := List.mem_map.1 hx
          exact hkn y hy) rfl
        simpa [mI, Function.comp_def] using this
      simp [n1, n2, n3, Ne.symm n3, hn, h1, h3]
      simp [hf]
      refine hk _ _ _ c (by simpa using h4) (fun v x hv => ?_) (by simp)
      rw [if_neg]
      · exact hv
      · rintro rfl
        rw [h.t.nd_none h2] at hv; cases hv
    · obtain ⟨c, hc⟩ := h.t.nd_some h2
      rw [hc] at h3
      simp [hn, h1, h3]
      exact hk H nd mp c (h.cong (fun v => ⟨.inl, fun e => e.elim id fun e => e ▸ h2⟩) fun _ => rfl) (fun v x hv => hv) hc
/-- The table of the sequences S. -/
structure Tb (H : AH) (t : Nat) (S : List Sq) (nd mp : List Int → Option Nat) : Prop where
  acc : Acc S
  tri : Tri H (Dom S) (resOf S) nd mp
  tab : ∃ r, nd [] = some r ∧ H t = some (.cells [pA r, vi (longest S)])
theorem Tb.sub {H H' : AH} {t : Nat} {S : List Sq} {nd mp : List Int → Option Nat} (h : Tb H t S nd mp) (hs : Sub H H') : Tb H' t S nd mp := ⟨h.acc, h.tri.mono hs, by
  obtain ⟨r, h1, h2⟩ := h.tab
  exact ⟨r, h1, hs _ _ h2⟩⟩
theorem c27 {H : AH} {K : AV → AH → Prop} {t : Nat} {S : List Sq} {nd mp : List Int → Option Nat} (h : Tb H t S nd mp) (hk : K (vb true) H) : @AC Try.prog 27 [pA t] H ⟨K⟩ := by
  obtain ⟨r, h1, h2⟩ := h.tab
  refine AC_of ?_
  refine call_c follows cf27_ok (by simp) ?_
  simp [h2]
  exact hk
theorem c27n {H : AH} {K : AV → AH → Prop} (hk : K (vb false) H) : @AC Try.prog 27 [.pl (.pointer none)] H ⟨K⟩ := by
  refine AC_of ?_
  refine call_c follows cf27_ok (by simp) ?_
  simp
  exact hk
theorem was_dom {S : List Sq} (h : Acc S) (w : List Int) : Dom S (was S w) := by
  cases h2 : opn S w with
  | false => rw [was_no h2]; exact .inl rfl
  | true => rw [was_yes h2]; exact (h.opn.1 h2).2.1
theorem c28 {H : AH} {K : AV → AH → Prop} {t : Nat} {S : List Sq} {nd mp : List Int → Option Nat} {a : AV} {w : List Int} (h : Tb H t S nd mp) (ha : Ri H a w) (hl : w.length ≤ 1000000)
    (hk : K (.tp [pO (nd (was S w)), vb (opn S w)]) H) : @AC Try.prog 28 [pA t, .ag [a]] H ⟨K⟩ := by
  have oa := ha.one
  have la := fun k => Rw.lenK ha (k := k)
  obtain ⟨r, h1, h2⟩ := h.tab
  refine AC_of (.forget ?_)
  refine call_c follows cf28_ok (by simp) ?_
  simp [oa]
  refine newK_of fun z hz => ?_
  have nz := free_ne hz t (by simp [h2])
  have hS : Sub H (upd H z (.cells [a])) := (Sub.refl H).upd hz
  simp [nz, h2, la]
  have hT := h.sub hS
  have ha2 : Ri _ a w := Rw.sub ha hS
  have hzz : (upd H z (.cells [a])) z = some (.cells [a]) := by simp
  have htt := hS _ _ h2
  generalize upd H z (.cells [a]) = H2 at *
  refine wpc_loop (fun s => ∃ i : Nat, s.n = 44 ∧ s.H = H2 ∧ s.t 0 = pA t ∧ s.t 3 = pA z ∧ s.t 6 = pO (nd (w.take i)) ∧ s.t 14 = a ∧ s.t 15 = vi w.length ∧ s.t 16 = vi i ∧ i ≤ w.length) (fun s => w.length - slotN (s.t 16)) ?_ ?_
  · exact FgK.same ⟨0, by simp, by simp, by simp, by simp, by simp [h1], by simp, by simp, by simp, by omega⟩
  rintro s ⟨i, hn, hH, e0, e3, e6, e14, e15, e16, hi⟩
  have wr := IntWalk.i64_in ((i : Int) + 1) (by omega)
  by_cases hlt : i < w.length
  · obtain ⟨p, hp1, hp2⟩ := ha2.see hlt
    simp (disch := omega) [hn, hH, e0, e3, e6, e14, e15, e16, hlt, hp1, hp2 _ (Sub.refl _)]
    refine c29 hT.tri Dom.up _ _ ?_
    simp (disch := omega) [wr]
    refine FgK.same ⟨⟨i + 1, by simp [*], by simp [*], by simp [*], by simp [*], ?_, by simp [*], by simp [*], by simp [*], by omega⟩, by simp [*]; omega⟩
    have e : w.take (i + 1) = w.take i ++ [w[i]] := by rw [List.take_succ_eq_append_getElem hlt]
    rw [e]
    simp
  · obtain rfl : i = w.length := by omega
    have e6' : s.t 6 = pO (nd w) := by rw [e6, List.take_length]
    clear e6
    cases ho : opn S w with
    | true =>
      rw [was_yes ho, ho] at hk
      obtain ⟨g1, g2, g3⟩ := h.acc.opn.1 ho
      obtain ⟨b, hb⟩ := hT.tri.nd_some g2
      have hbn := hT.tri.node w b hb
      rw [g3] at hbn
      rw [hb] at hk e6'
      have g4 : ¬ (w.length : Int) = 0 := by have := List.length_pos_iff.2 g1; omega
      simp [hn, hH, e0, e3, e6', e14, e15, e16, hbn, hzz, la, g1]
      exact ⟨H, hS, hk⟩
    | false =>
      rw [was_no ho, ho, h1] at hk
      cases hb : nd w with
      | none =>
        rw [hb] at e6'
        simp [hn, hH, e0, e3, e6', e14, e15, e16, htt]
        exact ⟨H, hS, hk⟩
      | some b =>
        have hd := (hT.tri.dom w).1 (by rw [hb]; rfl)
        have hbn := hT.tri.node w b hb
        rw [hb] at e6'
        by_cases g3 : resOf S w = emp
        · have g1 : w = [] := by
            apply Classical.byContradiction
            intro g1
            have := h.acc.opn.2 ⟨g1, hd, g3⟩
            rw [ho] at this; cases this
          subst g1
          rw [g3] at hbn
          simp [hn, hH, e0, e3, e6', e14, e15, e16, hbn, hzz, la, htt]
          exact ⟨H, hS, hk⟩
        · have g5 := emp_no g3
          simp [hn, hH, e0, e3, e6', e14, e15, e16, hbn, hzz, la, htt, g5]
          exact ⟨H, hS, hk⟩
end Go.Proofs.Ytbdcnoahalknkaa
