/-
  New, Longest and Feed of the program, walked. Conditions: as each lemma states them.
-/
import Derived.Test.YtbdcnoahalknkaaD4
namespace Go.Proofs.Ytbdcnoahalknkaa
open Go Go.Ab Go.RowKit
set_option linter.unusedSimpArgs false
set_option linter.unusedVariables false
set_option linter.unnecessarySimpa false

attribute [local simp] condK_true condK_false condK_not wpc_skip wpc_ret wpc_exit wpc_seq wpc_reg wpc_regD testA_bool wpc_cond wpc_block thenA_normal thenA_ret thenA_exit blockA_normal blockA_ret blockA_exit blockA_other endA_normal endA_ret ev_tmp' ev_const ev_func ev_global cv_int cv_bool cv_string cv_pointer cv_slice cv_agg cv_map put_some put_none wH_s setE_apply setE_env less_eq env_cons env_nil upd_upd upd_apply del_apply startA_eq cells_ag cells_sl one_sl cells_vs one_vs cells_ep one_ep cells_fn one_fn cells_int one_int cells_bool one_bool cells_string one_string cells_pointer one_pointer cells_slice one_slice cells_map one_map cells_agg resK_one resK_nil resK_two rvK_t rvK_c rvsK_nil rvsK_cons iseq_nil iseq_cons gdA_true gdA_false gdA_undef istep_free istep_guard istepV_free istepV_guard dseq_nil dseq_pu dseq_rd dseq_ef wpc_regT dtree_nil dtree_pu dtree_rd dtree_ef dtree_br chkAll_nil chkAll_cons andK_true pickK_true pickK_false pickK_tb pickK_fb bin2K_pl eqbK_eq eqbK_ne eqpK_eq eqpK_ne eqmK_eq eqmK_ne eqzK_eq eqzK_ne eqzK_sl eqzK_vs un1K_pl convK_int fillK_some fillA_cons fillA_nil cellsK_some needK_true needK_ok seeK_ep seeK_ptr oneK_agg oneK_one nilcK_ptr nilcK_ep fadrK_ptr fadrK_ep fldK_ag iadAK_ptr iadAK_ep iadSK_sl iadSK_vs extK_0 extK_1 extK_2 extK_3 lenK_pl lenK_sl lenK_vs lensK_pl boxK_some minmax1K_int storeK_ptr callvK_fn callvK_pl newsK_nil newsK_vs newsK_sl appK_nil appK_nil0 appK_sl appK_vs bnd1K_int bndK_none bndK_some slsK_vs slsK_nil slsK_sl0 slsK_sl slstrK_pl boolK_some eqsK_ag iop_eqs iop_sls iop_slstr seesK_some seesK_ro mapsK_some MAP_some findK_some findK_none plK_pl nmapK_none nmapK_some iop_mlook iop_mlen iop_mmk iop_mupd iop_mdel iop_mrng itK_none itK_some ptr0K_ptr iop_mnxt iop_ment it1K_some entK_some iop_mov iop_pick iop_bin iop_eqb iop_eqp iop_eqm iop_eqz iop_un iop_conv iop_build iop_load iop_nilc iop_fadr iop_fld iop_iadA iop_iadS iop_ext iop_mkf iop_len iop_lens iop_minmax iop_al iop_box iop_bsl iop_store iop_call iop_callv iop_app BIN_add BIN_sub BIN_mul BIN_and BIN_or BIN_xor BIN_andNot BIN_eql BIN_neq BIN_lss BIN_leq BIN_gtr BIN_geq BIN_quo BIN_rem BIN_shl BIN_shr BIN_sadd BIN_seql BIN_sneq BIN_slss BIN_sleq BIN_sgtr BIN_sgeq UN_neg UN_xor UN_not MM_nil MM_cons partsA argsA ptrA lessL eqL min2I slotN_int slotP_int slotI_int
attribute [local simp] Option.isNone_none Option.isNone_some pO_some pO_none mO_some mO_none

def sqc (x : AV × Sq) : List AV := [x.1, vs8 x.2.r]
theorem sqc_len (x : AV × Sq) : (sqc x).length = 2 := rfl
/-- A row of sequences. -/
structure Sr (H : AH) (a : AV) (L : List (AV × Sq)) : Prop where
  row : Rw H a (flat sqc L) L.length 2
  key : ∀ x ∈ L, Ri H x.1 x.2.ks
def sqs (L : List (AV × Sq)) : List Sq := L.map (·.2)
theorem sqs_len (L : List (AV × Sq)) : (sqs L).length = L.length := by simp [sqs]
theorem Sr.sub {H H' : AH} {a : AV} {L : List (AV × Sq)} (h : Sr H a L) (hs : Sub H H') : Sr H' a L := ⟨h.row.sub hs, fun x hx => Rw.sub (h.key x hx) hs⟩
theorem Sr.see {H : AH} {a : AV} {L : List (AV × Sq)} {i : Nat} (h : Sr H a L) (hi : i < L.length) : ∃ p, (∀ k : AV → Prop, @iadSK 2 a (vi i) ⟨k⟩ = k p) ∧ ∀ H', Sub H H' → ∀ k : List AV → Prop, @SEE H' p 2 ⟨k⟩ = k [L[i].1, vs8 L[i].2.r] := by
  obtain ⟨p, h1, h2⟩ := Rw.see h.row hi
  refine ⟨p, h1, fun H' hs k => ?_⟩
  rw [h2 H' hs, flat_drop sqc_len L i hi, List.take_append_of_le_length (by rw [sqc_len]; omega)]
  rfl
theorem longest_le {S : List Sq} (h : Acc S) : longest S ≤ 6 := by
  have : ∀ S : List Sq, (∀ s ∈ S, s.ks.length ≤ 6) → longest S ≤ 6 := by
    intro S
    induction S with
    | nil => intro _; simp [longest]
    | cons s S ih => intro h; have h1 := h s (by simp); have h2 := ih fun t ht => h t (by simp [ht]); simp only [longest]; omega
  exact this S fun s hs => (chk_ok (h.chk s hs)).2.1
theorem sqs_take (L : List (AV × Sq)) (i : Nat) (h : i < L.length) : sqs (L.take (i + 1)) = sqs (L.take i) ++ [L[i].2] := by
  rw [List.take_succ_eq_append_getElem h]; simp only [sqs, List.map_append, List.map_cons, List.map_nil]
theorem newE_at (L : List (AV × Sq)) (i : Nat) (h : i < L.length) : newE (sqs (L.take i)) (sqs (L.drop i)) = newE (sqs (L.take i)) (L[i].2 :: sqs (L.drop (i + 1))) := by
  rw [List.drop_eq_getElem_cons h]; rfl
theorem tribI {H Hs : AH} {t : Nat} {X : AO} {D : List Int → Prop} {res : List Int → ByteArray} {nd mp : List Int → Option Nat} {y : Nat} {Y X' : AO} (h : TriB (upd (upd (upd H t X) y Y) t X') Hs D res nd mp) (hy : (upd H t X) y = none) : TriB (upd H t X') Hs D res nd mp := by
  refine h.less fun j o hj => ?_
  have hyt : y ≠ t := by rintro rfl; simp [upd_apply] at hy
  have hyH : H y = none := by simpa [upd_apply, hyt] using hy
  simp only [upd_apply] at hj ⊢
  by_cases e : j = t
  · simpa [e] using hj
  · rw [if_neg e] at hj ⊢
    have : j ≠ y := by rintro rfl; rw [hyH] at hj; cases hj
    rw [if_neg this, if_neg e]; exact hj
theorem c12 {H : AH} {K : AV → AH → Prop} {a : AV} {L : List (AV × Sq)} (ha : Sr H a L) (hl : ∀ x ∈ L, x.2.ks.length ≤ maxLen) (hk1 : newT (sqs L) ≠ 0 → K (.tp [.pl (.pointer none), vi (newT (sqs L))]) H)
    (hk2 : newT (sqs L) = 0 → ∀ H' t nd mp, Sub H H' → Tb H' t (sqs L) nd mp → H t = none → (∀ j, Own nd mp j → H j = none) → K (.tp [pA t, vi 0]) H') : @AC Try.prog 12 [a] H ⟨K⟩ := by
  have la := fun k => ha.row.lenK (k := k)
  refine AC_of (.forget ?_)
  refine call_c follows cf12_ok (by simp) ?_
  by_cases c1 : 256 < L.length
  · have hT : newT (sqs L) = 5 := by unfold newT; rw [if_pos (by rw [sqs_len]; exact c1)]
    have := hk1 (by rw [hT]; decide)
    rw [hT] at this
    have c1' : (256 : Int) < L.length := by omega
    simp [la, c1']
    exact ⟨H, Sub.refl H, this⟩
  have hT : newT (sqs L) = newE [] (sqs L) := by unfold newT; rw [if_neg (by rw [sqs_len]; exact c1)]
  rw [hT] at hk1 hk2
  have c1' : ¬ (256 : Int) < L.length := by omega
  simp [la, c1']
  refine newK_of fun r hr => ?_
  simp
  refine newK_of fun t ht => ?_
  obtain ⟨n1, n2, htH⟩ := upd_none'.1 ht
  simp [la]
  have hrt : (upd H t (.cells [pA r, vi 0])) r = none := by simp [upd_apply, n2, hr]
  have h0 := TriB.root hrt
  have hc : upd (upd H r (.cells [vs8 ⟨#[]⟩, mO none])) t (.cells [pA r, vi 0]) = upd (upd H t (.cells [pA r, vi 0])) r (.cells [vs8 ⟨#[]⟩, mO none]) := by
    funext j; simp only [upd_apply]
    by_cases e1 : j = r <;> by_cases e2 : j = t
    · exact absurd (e2.symm.trans e1) n1
    · simp [e1, n2]
    · simp [e2, n1]
    · simp [e1, e2]
  rw [← hc] at h0
  refine wpc_loop (fun s => ∃ (i : Nat) (nd mp : List Int → Option Nat), s.n = 35 ∧ s.t 4 = pA t ∧ s.t 16 = a ∧ s.t 17 = vi L.length ∧ s.t 18 = vi i ∧ i ≤ L.length ∧ 
    TriB (upd H t (.cells [pA r, vi (longest (sqs (L.take i)))])) s.H (Dom (sqs (L.take i))) (resOf (sqs (L.take i))) nd mp ∧ nd [] = some r ∧ Acc (sqs (L.take i)) ∧ newE (sqs (L.take i)) (sqs (L.drop i)) = newE [] (sqs L)) (fun s => L.length - slotN (s.t 18)) ?_ ?_
  · refine FgK.same ⟨0, fun w => if w = [] then some r else none, fun _ => none, by simp, by simp, by simp, by simp, by simp, by omega, ?_, ?_, ?_, ?_⟩
    · refine h0.cong (fun w => ?_) fun w => ?_
      · simp [Dom, sqs]
      · simp [resOf, hit, sqs]
    · simp
    · simpa [sqs] using Acc.nil
    · simp [sqs]
  rintro s ⟨i, nd, mp, hn, e4, e16, e17, e18, hi, hTr, hr0, hA, hE⟩
  have wr := IntWalk.i64_in ((i : Int) + 1) (by omega)
  have hsubH : Sub H (upd H t (.cells [pA r, vi (longest (sqs (L.take i)))])) := (Sub.refl H).upd htH
  have hHs := hsubH.trans hTr.sub
  by_cases hlt : i < L.length
  · have ha2 := ha.sub hHs
    obtain ⟨p, hp1, hp2⟩ := ha2.see hlt
    have hkey := ha.key _ (List.getElem_mem hlt)
    have hkl := hl _ (List.getElem_mem hlt)
    have hst := sqs_take L i hlt
    have hat := newE_at L i hlt
    rw [hE] at hat
    generalize L[i] = x at *
    obtain ⟨ax, sx⟩ := x
    simp only at hkey hkl hst hat hp2
    have ox := Rw.one hkey
    have cx := Rw.cells hkey
    simp (disch := omega) [hn, e4, e16, e17, e18, hlt, hp1, hp2 _ (Sub.refl _)]
    refine newK_of fun y hy => ?_
    have hyB := hTr.sub.none_of hy
    have hSy : Sub s.H (upd s.H y (.cells [vnil, vs8 ⟨#[]⟩])) := (Sub.refl _).upd hy
    simp (disch := omega) [hp2 _ hSy, ox]
    have hSy2 : Sub s.H (upd s.H y (.cells [ax, vs8 sx.r])) := (Sub.refl _).upd hy
    have hk3 : Ri (upd s.H y (.cells [ax, vs8 sx.r])) ax sx.ks := Rw.sub hkey (hHs.trans hSy2)
    refine c23 sx hk3 hkl ?_
    by_cases c2 : chk sx = 0
    · rw [c2]
      simp
      refine c24 (hTr.beside (X := .cells [ax, vs8 sx.r]) hy) (L := longest (sqs (L.take i))) (t := t) (r0 := r) ?_ hr0 hA sx c2 (Rw.sub hkey (hsubH.trans ((Sub.refl _).upd hyB))) (by have := longest_le hA; omega) (fun hcl H' hs => ?_) (fun hcl H' nd' mp' hT' hr' => ?_)
      · have : t ≠ y := by rintro rfl; simp [upd_apply] at hyB
        simp [upd_apply, this]
      · have h7 : newE [] (sqs L) = 7 := by rw [hat, newE_clash c2 hcl]
        rw [h7] at hk1
        simp
        exact ⟨H, hsubH.trans (((Sub.refl _).upd hyB).trans hs), hk1 (by decide)⟩
      · have hT2 := tribI hT' hyB
        simp (disch := omega) [wr]
        refine FgK.same ⟨⟨i + 1, nd', mp', by simp [*], by simp [*], by simp [*], by simp [*], by simp [*], by omega, ?_, hr', ?_, ?_⟩, by simp [*]; omega⟩
        · rw [hst, longest_push]
          exact hT2
        · rw [hst]
          exact hA.push c2 hcl
        · rw [hst, hat, newE_step c2 hcl]
    · have h7 : newE [] (sqs L) = chk sx := by rw [hat, newE_chk c2]
      rw [h7] at hk1
      simp [c2]
      exact ⟨H, hHs.trans hSy2, hk1 c2⟩
  · obtain rfl : i = L.length := by omega
    simp only [List.take_length, List.drop_length] at hTr hA hE
    have hz : newE [] (sqs L) = 0 := by rw [← hE]; rfl
    simp (disch := omega) [hn, e4, e16, e17, e18]
    refine ⟨s.H, Sub.refl _, hk2 hz s.H t nd mp ?_ ⟨hA, hTr.t, r, hr0, hTr.sub _ _ (by simp [upd_apply])⟩ htH fun j hj => ?_⟩
    · simpa using hHs
    · have h5 := hTr.free j hj
      simp only [upd_apply] at h5
      split at h5
      · cases h5
      · exact h5
theorem c15 {H : AH} {K : AV → AH → Prop} {t : Nat} {S : List Sq} {nd mp : List Int → Option Nat} (h : Tb H t S nd mp) (hk : K (vi (longest S)) H) : @AC Try.prog 15 [pA t] H ⟨K⟩ := by
  obtain ⟨r, h1, h2⟩ := h.tab
  refine AC_of ?_
  refine call_c follows cf15_ok (by simp) ?_
  simp
  refine c27 h ?_
  simp [h2]
  exact hk
theorem c15n {H : AH} {K : AV → AH → Prop} (hk : K (vi 0) H) : @AC Try.prog 15 [.pl (.pointer none)] H ⟨K⟩ := by
  refine AC_of ?_
  refine call_c follows cf15_ok (by simp) ?_
  simp
  refine c27n ?_
  simp
  exact hk
end Go.Proofs.Ytbdcnoahalknkaa
