/-
  New of the program, walked: check, insert, New. Conditions: as each lemma states them.
-/
import Derived.Test.YtbdcnoahalknkaaD3
namespace Go.Proofs.Ytbdcnoahalknkaa
open Go Go.Ab Go.RowKit
set_option linter.unusedSimpArgs false
set_option linter.unusedVariables false
set_option linter.unnecessarySimpa false

attribute [local simp] condK_true condK_false condK_not wpc_skip wpc_ret wpc_exit wpc_seq wpc_reg wpc_regD testA_bool wpc_cond wpc_block thenA_normal thenA_ret thenA_exit blockA_normal blockA_ret blockA_exit blockA_other endA_normal endA_ret ev_tmp' ev_const ev_func ev_global cv_int cv_bool cv_string cv_pointer cv_slice cv_agg cv_map put_some put_none wH_s setE_apply setE_env less_eq env_cons env_nil upd_upd upd_apply del_apply startA_eq cells_ag cells_sl one_sl cells_vs one_vs cells_ep one_ep cells_fn one_fn cells_int one_int cells_bool one_bool cells_string one_string cells_pointer one_pointer cells_slice one_slice cells_map one_map cells_agg resK_one resK_nil resK_two rvK_t rvK_c rvsK_nil rvsK_cons iseq_nil iseq_cons gdA_true gdA_false gdA_undef istep_free istep_guard istepV_free istepV_guard dseq_nil dseq_pu dseq_rd dseq_ef wpc_regT dtree_nil dtree_pu dtree_rd dtree_ef dtree_br chkAll_nil chkAll_cons andK_true pickK_true pickK_false pickK_tb pickK_fb bin2K_pl eqbK_eq eqbK_ne eqpK_eq eqpK_ne eqmK_eq eqmK_ne eqzK_eq eqzK_ne eqzK_sl eqzK_vs un1K_pl convK_int fillK_some fillA_cons fillA_nil cellsK_some needK_true needK_ok seeK_ep seeK_ptr oneK_agg oneK_one nilcK_ptr nilcK_ep fadrK_ptr fadrK_ep fldK_ag iadAK_ptr iadAK_ep iadSK_sl iadSK_vs extK_0 extK_1 extK_2 extK_3 lenK_pl lenK_sl lenK_vs lensK_pl boxK_some minmax1K_int storeK_ptr callvK_fn callvK_pl newsK_nil newsK_vs newsK_sl appK_nil appK_nil0 appK_sl appK_vs bnd1K_int bndK_none bndK_some slsK_vs slsK_nil slsK_sl0 slsK_sl slstrK_pl boolK_some eqsK_ag iop_eqs iop_sls iop_slstr seesK_some seesK_ro mapsK_some MAP_some findK_some findK_none plK_pl nmapK_none nmapK_some iop_mlook iop_mlen iop_mmk iop_mupd iop_mdel iop_mrng itK_none itK_some ptr0K_ptr iop_mnxt iop_ment it1K_some entK_some iop_mov iop_pick iop_bin iop_eqb iop_eqp iop_eqm iop_eqz iop_un iop_conv iop_build iop_load iop_nilc iop_fadr iop_fld iop_iadA iop_iadS iop_ext iop_mkf iop_len iop_lens iop_minmax iop_al iop_box iop_bsl iop_store iop_call iop_callv iop_app BIN_add BIN_sub BIN_mul BIN_and BIN_or BIN_xor BIN_andNot BIN_eql BIN_neq BIN_lss BIN_leq BIN_gtr BIN_geq BIN_quo BIN_rem BIN_shl BIN_shr BIN_sadd BIN_seql BIN_sneq BIN_slss BIN_sleq BIN_sgtr BIN_sgeq UN_neg UN_xor UN_not MM_nil MM_cons partsA argsA ptrA lessL eqL min2I slotN_int slotP_int slotI_int
attribute [local simp] Option.isNone_none Option.isNone_some pO_some pO_none mO_some mO_none

theorem emp_tl : emp.toList = [] := by rw [ByteArray.toList_eq]
theorem emp_b (r : ByteArray) : r.toList.isEmpty = decide (r = emp) := by
  by_cases h : r = emp
  · subst h; rw [emp_tl]; simp
  · rw [emp_no h]; simp [h]
theorem emp_l (r : ByteArray) : (r.toList = []) = (r = emp) := by
  have := emp_b r
  refine propext ⟨fun h => ?_, fun h => by subst h; exact emp_tl⟩
  rw [h] at this
  simpa using this.symm
theorem emp_z (r : ByteArray) : r.size = 0 ↔ r = emp := by
  constructor
  · intro h
    refine ByteArray.ext (Array.eq_empty_of_size_eq_zero h)
  · rintro rfl; rfl
theorem c32 {H : AH} {K : AV → AH → Prop} {a : AV} {l : List Int} (ha : Ri H a l) (h0 : l ≠ []) (hl : l.length ≤ 1000000) (hk : ∀ m, m ∈ l → (∀ x ∈ l, m ≤ x) → K (vi m) H) : @AC Try.prog 32 [a] H ⟨K⟩ := by
  have hpos := List.length_pos_iff.2 h0
  have la := fun k => Rw.lenK ha (k := k)
  obtain ⟨p, hp1, hp2⟩ := ha.see hpos
  refine AC_of ?_
  refine call_c follows cf32_ok (by simp) ?_
  simp at hp1
  have hnl : ¬ (l.length : Int) < 1 := by omega
  simp [la, hp1, hp2 _ (Sub.refl _), hnl]
  refine wpc_loop (fun s => ∃ (i : Nat) (m : Int), s.n = 25 ∧ s.H = H ∧ s.t 0 = a ∧ s.t 3 = vi m ∧ s.t 4 = vi i ∧ i ≤ l.length ∧ m ∈ l ∧ ∀ x ∈ l.take i, m ≤ x) (fun s => l.length - slotN (s.t 4)) ?_ ?_
  · refine FgK.same ⟨1, l[0], by simp, by simp, by simp, by simp, by simp, by omega, by simp, fun x hx => ?_⟩
    rw [List.take_succ_eq_append_getElem hpos] at hx
    simp at hx
    omega
  rintro s ⟨i, m, hn, hH, e0, e3, e4, hi, hm, hle⟩
  have wr := IntWalk.i64_in ((i : Int) + 1) (by omega)
  by_cases hlt : i < l.length
  · obtain ⟨q, hq1, hq2⟩ := ha.see hlt
    simp (disch := omega) [hn, hH, e0, e3, e4, la, hlt, hq1, hq2 _ (Sub.refl _), wr]
    refine FgK.same ⟨⟨i + 1, if l[i] < m then l[i] else m, by simp, by simp, by simp, by simp, by simp, by omega, ?_, ?_⟩, by simp [e4]; omega⟩
    · split
      · simp
      · exact hm
    · intro x hx
      rw [List.take_succ_eq_append_getElem hlt] at hx
      rcases List.mem_append.1 hx with hx | hx
      · have := hle x hx
        split <;> omega
      · obtain rfl := List.mem_singleton.1 hx
        split <;> omega
  · have := hk m hm fun x hx => hle x (by rw [List.take_of_length_le (by omega)]; exact hx)
    simp (disch := omega) [hn, hH, e0, e3, e4, la, hlt]
    exact this
theorem c23 {H : AH} {K : AV → AH → Prop} {a : AV} (s : Sq) (ha : Ri H a s.ks) (hl : s.ks.length ≤ maxLen) (hk : K (vi (chk s)) H) : @AC Try.prog 23 [.ag [a, vs8 s.r]] H ⟨K⟩ := by
  have oa := ha.one
  have ca := Rw.cells ha
  have la := fun k => Rw.lenK ha (k := k)
  refine AC_of (.forget ?_)
  refine call_c follows cf23_ok (by simp) ?_
  simp [oa]
  refine newK_of fun z hz => ?_
  have nz := free_ne hz
  have hS : Sub H (upd H z (.cells [a, vs8 s.r])) := (Sub.refl H).upd hz
  have ha2 : Ri _ a s.ks := Rw.sub ha hS
  by_cases c1 : (s.ks.length : Int) < 1
  · have hc : chk s = 5 := by simp only [chk]; rw [if_pos (by omega)]
    rw [hc] at hk
    simp [la, c1]
    exact ⟨H, hS, hk⟩
  · by_cases c2 : (6 : Int) < s.ks.length
    · have hc : chk s = 5 := by simp only [chk]; rw [if_pos (by omega)]
      rw [hc] at hk
      simp [la, c1, c2]
      exact ⟨H, hS, hk⟩
    · have hne : s.ks ≠ [] := by rintro e; rw [e] at c1; simp at c1
      simp [la, c1, c2]
      refine c32 ha2 hne (by omega) fun m hm hmin => ?_
      have hc0 : chk s = if ∃ k ∈ s.ks, k < 1 then 6 else if s.r.size = 0 ∨ 16 < s.r.size then 3 else 0 := by simp only [chk]; rw [if_neg (by omega)]
      by_cases c3 : m < 1
      · have hc : chk s = 6 := by rw [hc0, if_pos ⟨m, hm, c3⟩]
        rw [hc] at hk
        simp [c3]
        exact ⟨H, hS, hk⟩
      · rw [if_neg (by rintro ⟨k, h1, h2⟩; have := hmin k h1; omega)] at hc0
        by_cases c4 : s.r = emp
        · have hc : chk s = 3 := by rw [hc0, if_pos (.inl ((emp_z _).2 c4))]
          rw [hc] at hk
          have g4 : s.r.toList.isEmpty = true := by rw [emp_b]; simp [c4]
          simp [c3, g4]
          exact ⟨H, hS, hk⟩
        · have c4' : ¬ s.r.size = 0 := fun e => c4 ((emp_z _).1 e)
          by_cases c5 : (16 : Int) < s.r.size
          · have hc : chk s = 3 := by rw [hc0, if_pos (.inr (by omega))]
            rw [hc] at hk
            simp [c3, emp_no c4, c5]
            exact ⟨H, hS, hk⟩
          · have hc : chk s = 0 := by rw [hc0, if_neg (by omega)]
            rw [hc] at hk
            simp [c3, emp_no c4, c5]
            exact ⟨H, hS, hk⟩

theorem dom_push {S : List Sq} {s : Sq} {v : List Int} : Dom (S ++ [s]) v ↔ Dom S v ∨ v <+: s.ks := by
  simp only [Dom, List.mem_append, List.mem_singleton]
  constructor
  · rintro (h | ⟨t, h | rfl, h2⟩)
    · exact .inl (.inl h)
    · exact .inl (.inr ⟨t, h, h2⟩)
    · exact .inr h2
  · rintro ((h | ⟨t, h, h2⟩) | h)
    · exact .inl h
    · exact .inr ⟨t, .inl h, h2⟩
    · exact .inr ⟨s, .inr rfl, h⟩
theorem res_push {S : List Sq} {s : Sq} (hc : clash S s = false) (v : List Int) : (if v = s.ks then s.r else resOf S v) = resOf (S ++ [s]) v := by
  have h1 : hit (S ++ [s]) v = (hit S v).or (if s.ks = v then some s else none) := by
    unfold hit
    rw [List.find?_append]
    congr 1
    by_cases e : s.ks = v <;> simp [e]
  unfold resOf
  rw [h1]
  split
  · rename_i e
    subst e
    have : hit S s.ks = none := hit_none.2 fun t ht e => by
      have := (clash_iff (s := s)).2 ⟨t, ht, .inl (by rw [e]; exact List.prefix_refl _)⟩
      rw [hc] at this; cases this
    rw [this]
    simp
  · rename_i e
    rw [if_neg (Ne.symm e)]
    cases hit S v <;> rfl
theorem Acc.res_dom {S : List Sq} (h : Acc S) {v : List Int} (hd : ¬ Dom S v) : resOf S v = emp := h.res_emp.2 fun s hs e => hd (.inr ⟨s, hs, e ▸ List.prefix_refl _⟩)
theorem c24 {B H : AH} {K : AV → AH → Prop} {t r0 L : Nat} {S : List Sq} {nd mp : List Int → Option Nat} {a : AV} (h : TriB B H (Dom S) (resOf S) nd mp) (hB : B t = some (.cells [pA r0, vi L])) (hr : nd [] = some r0) (hA : Acc S)
    (s : Sq) (hs : chk s = 0) (ha : Ri B a s.ks) (hL : L ≤ 1000) (hk1 : clash S s = true → ∀ H', Sub B H' → K (vi 7) H')
    (hk2 : clash S s = false → ∀ H' nd' mp', TriB (upd B t (.cells [pA r0, vi (max L s.ks.length : Nat)])) H' (Dom (S ++ [s])) (resOf (S ++ [s])) nd' mp' → nd' [] = some r0 → K (vi 0) H') :
    @AC Try.prog 24 [pA t, .ag [a, vs8 s.r]] H ⟨K⟩ := by
  have oa := ha.one
  have la := fun k => Rw.lenK ha (k := k)
  have hck := chk_ok hs
  have hsn := chk_nil hs
  refine AC_of (.forget ?_)
  refine call_c follows cf24_ok (by simp) ?_
  simp [oa]
  refine newK_of fun z hz => ?_
  have ht := h.sub t _ hB
  have nz := free_ne hz t (by simp [ht])
  have hBz := h.sub.none_of hz
  have h2 := h.beside (X := .cells [a, vs8 s.r]) hz
  have hB2 : (upd B z (.cells [a, vs8 s.r])) t = some (.cells [pA r0, vi L]) := by simp [upd_apply, nz, hB]
  have hz2 : (upd B z (.cells [a, vs8 s.r])) z = some (.cells [a, vs8 s.r]) := by simp [upd_apply]
  have hSB : Sub B (upd B z (.cells [a, vs8 s.r])) := (Sub.refl B).upd hBz
  simp [nz, ht, la]
  generalize hB' : upd B z (.cells [a, vs8 s.r]) = B2 at *
  have ha2 : Ri B2 a s.ks := Rw.sub ha hSB
  refine wpc_loop (fun s' => ∃ (i : Nat) (nd' mp' : List Int → Option Nat) (b : Nat), s'.n = 62 ∧ s'.t 0 = pA t ∧ s'.t 3 = pA z ∧ s'.t 5 = pA b ∧ s'.t 13 = a ∧ s'.t 14 = vi s.ks.length ∧ s'.t 15 = vi i ∧ i ≤ s.ks.length ∧
    TriB B2 s'.H (fun v => Dom S v ∨ v <+: s.ks.take i) (resOf S) nd' mp' ∧ nd' [] = some r0 ∧ nd' (s.ks.take i) = some b ∧ ∀ j, 0 < j → j < i → resOf S (s.ks.take j) = emp) (fun s' => s.ks.length - slotN (s'.t 15)) ?_ ?_
  · refine FgK.same ⟨0, nd, mp, r0, by simp, by simp, by simp, by simp, by simp, by simp, by simp, by omega, ?_, hr, by simpa using hr, fun j h1 h2 => by omega⟩
    refine h2.cong (fun v => ⟨.inl, fun e => e.elim id fun e => ?_⟩) fun _ => rfl
    have : v = [] := by simpa using e
    exact .inl this
  rintro s' ⟨i, nd', mp', b, hn, e0, e3, e5, e13, e14, e15, hi, hT, hr', hb, hj⟩
  have wr := IntWalk.i64_in ((i : Int) + 1) (by omega)
  have hbn := hT.t.node _ b hb
  have htt := hT.sub t _ hB2
  have hzz := hT.sub z _ hz2
  by_cases hlt : i < s.ks.length
  · obtain ⟨p, hp1, hp2⟩ := ha2.see hlt
    have et : s.ks.take (i + 1) = s.ks.take i ++ [s.ks[i]] := by rw [List.take_succ_eq_append_getElem hlt]
    have go : i = 0 ∨ resOf S (s.ks.take i) = emp → ∀ s0 : ASt, s0.n = 62 → s0.H = s'.H → @AC Try.prog 33 [pA b, vi s.ks[i]] s'.H ⟨fun v H' => ∀ (c : Nat), v = pA c → True⟩ := fun _ _ _ _ => c33 hT hb _ (fun hd => hA.res_dom fun h => hd (.inl h)) fun _ _ _ _ _ _ _ _ _ => trivial
    clear go
    have fwd : ∀ H1 nd1 mp1 c, TriB B2 H1 (fun v => (Dom S v ∨ v <+: s.ks.take i) ∨ v = s.ks.take i ++ [s.ks[i]]) (resOf S) nd1 mp1 → (∀ v x, nd' v = some x → nd1 v = some x) → nd1 (s.ks.take i ++ [s.ks[i]]) = some c →
        (i = 0 ∨ resOf S (s.ks.take i) = emp) → TriB B2 H1 (fun v => Dom S v ∨ v <+: s.ks.take (i + 1)) (resOf S) nd1 mp1 ∧ nd1 [] = some r0 ∧ nd1 (s.ks.take (i + 1)) = some c ∧ ∀ j, 0 < j → j < i + 1 → resOf S (s.ks.take j) = emp := by
      intro H1 nd1 mp1 c q1 q2 q3 q4
      refine ⟨q1.cong (fun v => ?_) fun _ => rfl, q2 _ _ hr', by rw [et]; exact q3, fun j g1 g2 => ?_⟩
      · rw [et, List.prefix_concat_iff, or_assoc]
        constructor
        · rintro (g | g | g)
          · exact .inl g
          · exact .inr (.inr g)
          · exact .inr (.inl g)
        · rintro (g | g | g)
          · exact .inl g
          · exact .inr (.inr g)
          · exact .inr (.inl g)
      · rcases Nat.lt_or_ge j i with g3 | g3
        · exact hj j g1 g3
        · obtain rfl : j = i := by omega
          exact q4.resolve_left (by omega)
    by_cases c1 : i = 0
    · have c1' : ¬ 0 < i := by omega
      simp (disch := omega) [hn, e0, e3, e5, e13, e14, e15, hlt, hp1, hp2 _ hT.sub, c1']
      refine c33 hT hb _ (fun hd => hA.res_dom fun h => hd (.inl h)) fun H1 nd1 mp1 c q1 q2 q3 => ?_
      obtain ⟨q5, q6, q7, q8⟩ := fwd H1 nd1 mp1 c q1 q2 q3 (.inl c1)
      simp (disch := omega) [wr]
      exact FgK.same ⟨⟨i + 1, nd1, mp1, c, by simp [*], by simp [*], by simp [*], by simp [*], by simp [*], by simp [*], by simp [*], by omega, q5, q6, q7, q8⟩, by simp [*]; omega⟩
    · have c1' : 0 < i := by omega
      by_cases c2 : resOf S (s.ks.take i) = emp
      · simp (disch := omega) [hn, e0, e3, e5, e13, e14, e15, hlt, hp1, hp2 _ hT.sub, c1', hbn, c2, emp_tl]
        refine c33 hT hb _ (fun hd => hA.res_dom fun h => hd (.inl h)) fun H1 nd1 mp1 c q1 q2 q3 => ?_
        obtain ⟨q5, q6, q7, q8⟩ := fwd H1 nd1 mp1 c q1 q2 q3 (.inr c2)
        simp (disch := omega) [wr]
        exact FgK.same ⟨⟨i + 1, nd1, mp1, c, by simp [*], by simp [*], by simp [*], by simp [*], by simp [*], by simp [*], by simp [*], by omega, q5, q6, q7, q8⟩, by simp [*]; omega⟩
      · have hcl := (clash_walk hA hs).2 (.inl ⟨i, by omega, hlt, c2⟩)
        simp (disch := omega) [hn, e0, e3, e5, e13, e14, e15, hlt, hp1, hp2 _ hT.sub, c1', hbn, emp_no c2]
        exact ⟨_, Sub.refl _, hk1 hcl _ (hSB.trans hT.sub)⟩
  · obtain rfl : i = s.ks.length := by omega
    rw [List.take_length] at hbn hb
    simp only [List.take_length] at hT
    by_cases c2 : resOf S s.ks = emp
    · have noc : (∀ k, ¬ Dom S (s.ks ++ [k])) → clash S s = false := by
        intro hno
        cases hc : clash S s with
        | false => rfl
        | true =>
          rcases (clash_walk hA hs).1 hc with ⟨j, g1, g2, g3⟩ | g | ⟨k, g⟩
          · exact absurd (hj j g1 g2) g3
          · exact absurd c2 g
          · exact absurd g (hno k)
      have kid : ∀ k, (Dom S (s.ks ++ [k]) ∨ s.ks ++ [k] <+: s.ks) ↔ Dom S (s.ks ++ [k]) := by
        intro k
        refine ⟨fun e => e.elim id fun e => ?_, .inl⟩
        have := e.length_le
        simp at this
        omega
      have fin : (∀ k, ¬ Dom S (s.ks ++ [k])) → ∀ r', TriB B2 (upd s'.H b (.cells [vs8 s.r, r'])) (fun v => Dom S v ∨ v <+: s.ks) (fun v => if v = s.ks then s.r else resOf S v) nd' mp' → 
          K (vi 0) (upd (upd s'.H b (.cells [vs8 s.r, r'])) t (.cells [pA r0, vi (max L s.ks.length : Nat)])) := by
        intro hno r' q
        have hc := noc hno
        refine hk2 hc _ nd' mp' ?_ hr'
        have q1 : TriB B2 (upd s'.H b (.cells [vs8 s.r, r'])) (Dom (S ++ [s])) (resOf (S ++ [s])) nd' mp' := q.cong (fun v => dom_push.symm) fun v => res_push hc v
        have q2 := (q1.less hSB)
        exact q2.base hB
      have hbt : b ≠ t := by rintro rfl; rw [hbn] at htt; cases htt
      have hbz : b ≠ z := by
        rintro rfl
        have := hT.free b (.inl ⟨_, hb⟩)
        rw [hz2] at this; cases this
      rw [c2] at hbn
      have hset := hT.set hb s.r
      have hmx : max (L : Int) s.ks.length = (max L s.ks.length : Nat) := by omega
      have hm2 : (if L < s.ks.length then (s.ks.length : Int) else L) = (max L s.ks.length : Nat) := by split <;> omega
      cases e2 : mp' s.ks with
      | none =>
        rw [e2] at hbn hset
        have hno : ∀ k, ¬ Dom S (s.ks ++ [k]) := fun k => fun hd => hT.t.leaf _ e2 k (.inl hd)
        have := fin hno _ hset
        simp (disch := omega) [hn, e0, e3, e5, e13, e14, e15, hbn, htt, hzz, hbt, hbz, Ne.symm hbt, Ne.symm hbz, la, hm2]
        exact ⟨_, Sub.refl _, by simpa using this⟩
      | some m =>
        rw [e2] at hbn hset
        obtain ⟨ks, st, cl, h5, h6, h7, h8⟩ := hT.t.kids _ m e2
        have hml := mI_len (key := id) (val := fun k => pO (nd' (s.ks ++ [k]))) ks
        cases ks with
        | nil =>
          have hno : ∀ k, ¬ Dom S (s.ks ++ [k]) := fun k hd => by have := (h8 k).2 (.inl hd); simp at this
          have := fin hno _ hset
          simp (disch := omega) [hn, e0, e3, e5, e13, e14, e15, hbn, htt, hzz, hbt, hbz, Ne.symm hbt, Ne.symm hbz, la, hm2, h5, hml]
          exact ⟨_, Sub.refl _, by simpa using this⟩
        | cons k0 ks =>
          have hcl := (clash_walk hA hs).2 (.inr (.inr ⟨k0, (kid k0).1 ((h8 k0).1 (by simp))⟩))
          have hp : (0 : Int) < (ks.length : Int) + 1 := by omega
          simp (disch := omega) [hn, e0, e3, e5, e13, e14, e15, hbn, htt, hzz, hbt, hbz, Ne.symm hbt, Ne.symm hbz, la, h5, hml, hp]
          exact ⟨_, Sub.refl _, hk1 hcl _ (hSB.trans hT.sub)⟩
    · have hcl := (clash_walk hA hs).2 (.inr (.inl c2))
      simp (disch := omega) [hn, e0, e3, e5, e13, e14, e15, hbn, emp_no c2]
      exact ⟨_, Sub.refl _, hk1 hcl _ (hSB.trans hT.sub)⟩
end Go.Proofs.Ytbdcnoahalknkaa
