/-
  The reference's layout: New, Plug. Conditions: as each lemma states them.
-/
import Derived.Test.YtidcajmbkbamcaaL18
namespace Go.Proofs.Ytidcajmbkbamcaa
open Go Go.Ab Go.RowKit
set_option linter.unusedSimpArgs false
set_option linter.unusedVariables false
set_option linter.unnecessarySimpa false

attribute [local simp] condK_true condK_false condK_not wpc_skip wpc_ret wpc_exit wpc_seq wpc_reg wpc_regD testA_bool wpc_cond wpc_block thenA_normal thenA_ret thenA_exit blockA_normal blockA_ret blockA_exit blockA_other endA_normal endA_ret ev_tmp' ev_const ev_func ev_global cv_int cv_bool cv_string cv_pointer cv_slice cv_agg put_some put_none wH_s setE_apply setE_env less_eq env_cons env_nil upd_upd upd_apply del_apply startA_eq cells_ag cells_sl one_sl cells_vs one_vs cells_ep one_ep cells_fn one_fn cells_int one_int cells_bool one_bool cells_string one_string cells_pointer one_pointer cells_slice one_slice cells_map one_map cells_agg resK_one resK_nil resK_two rvK_t rvK_c rvsK_nil rvsK_cons iseq_nil iseq_cons gdA_true gdA_false gdA_undef istep_free istep_guard istepV_free istepV_guard dseq_nil dseq_pu dseq_rd dseq_ef chkAll_nil chkAll_cons andK_true pickK_true pickK_false pickK_tb pickK_fb bin2K_pl eqbK_eq eqbK_ne eqpK_eq eqpK_ne un1K_pl convK_int fillK_some fillA_cons fillA_nil cellsK_some needK_true needK_ok seeK_ep seeK_ptr oneK_agg oneK_one nilcK_ptr nilcK_ep fadrK_ptr fadrK_ep fldK_ag iadAK_ptr iadAK_ep iadSK_sl iadSK_vs extK_0 extK_1 extK_2 extK_3 lenK_pl lenK_sl lenK_vs lensK_pl boxK_some minmax1K_int storeK_ptr callvK_fn callvK_pl newsK_nil newsK_vs newsK_sl appK_nil appK_nil0 appK_sl appK_vs bnd1K_int bndK_none bndK_some slsK_vs slsK_nil slsK_sl0 slsK_sl slstrK_pl boolK_some eqsK_ag iop_eqs iop_sls iop_slstr seesK_some seesK_ro mapsK_some MAP_some findK_some findK_none plK_pl nmapK_none nmapK_some iop_mlook iop_mlen iop_mmk iop_mupd iop_mdel iop_mrng itK_none itK_some ptr0K_ptr iop_mnxt iop_ment it1K_some entK_some iop_mov iop_pick iop_bin iop_eqb iop_eqp iop_un iop_conv iop_build iop_load iop_nilc iop_fadr iop_fld iop_iadA iop_iadS iop_ext iop_mkf iop_len iop_lens iop_minmax iop_al iop_box iop_bsl iop_store iop_call iop_callv iop_app BIN_add BIN_sub BIN_mul BIN_and BIN_or BIN_xor BIN_andNot BIN_eql BIN_neq BIN_lss BIN_leq BIN_gtr BIN_geq BIN_quo BIN_rem BIN_shl BIN_shr BIN_sadd BIN_seql BIN_sneq BIN_slss BIN_sleq BIN_sgtr BIN_sgeq UN_neg UN_xor UN_not MM_nil MM_cons partsA argsA ptrA lessL eqL min2I slotN_int slotP_int slotI_int
attribute [local simp] oc_len oc_tt oc_dd oc_one oc_ag oc_t1 oc_t2 oc_t3 oc_t4 oc_t5 oc_t6 oc_t7 oc_d1 oc_d2 oc_d3 oc_d4 oc_d5 oc_d6 oc_d7 opq_len opq_tt opq_dd opq_one opq_ag opq_t1 opq_t2 opq_t3 opq_t4 opq_t5 opq_t6 opq_t7 opq_t8 opq_d1 opq_d2 opq_d3 opq_d4 opq_d5 opq_d6 opq_d7 opq_d8 rc_len rc_t4 rc_t1 rc_t2 rc_t3 rc_d1 rc_d2 rc_d3 rc_d4 rc_ag rc_one rc_eq min2_t min2_f

/-- What a call of the reference hands back. -/
def Back (H : AH) (L : List O) (E : Int) (K : AV → AH → Prop) : Prop := ∀ out H', Sub H H' → LR H' out L → K (.tp [.ag [vb true, out], vi E]) H'
theorem c18 {H : AH} {K : AV → AH → Prop} (hk : K (.ag [vb true, vnil]) H) : @AC Try.prog 18 [] H ⟨K⟩ := by
  refine AC_of (.forget ?_)
  refine call_c follows cf18_ok (by simp) ?_
  simp
  refine newK_of fun z hz => ?_
  simp
  exact ⟨H, (Sub.refl H).upd hz, hk⟩
def bless (a b : ByteArray) : Bool := Op.bytesLess a.toList b.toList
def oins (o : O) : List O → List O
  | [] => [o]
  | x :: t => if bless o.nm x.nm = true then o :: x :: t else x :: oins o t
theorem oins_len (o : O) : ∀ l, (oins o l).length = l.length + 1
  | [] => rfl
  | x :: t => by
    unfold oins
    split
    · rfl
    · simp [oins_len o t]
def wplE (L : List O) (o : O) : Int := if chk o ≠ 0 then chk o else if 0 ≤ fndF o.nm L 0 then 7 else if ovkF o (-1) L 0 = true then 6 else if 8 ≤ L.length then 5 else 0
def wplL (L : List O) (o : O) : List O := if wplE L o = 0 then oins o L else L
theorem c40 {H : AH} {K : AV → AH → Prop} {x : AV} (L : List O) (o : O) (hx : LR H x L) (hl : L.length ≤ 1000000)
    (hk : Back H (wplL L o) (wplE L o) K) : @AC Try.prog 40 [.ag [vb true, x], .ag (oc o)] H ⟨K⟩ := by
  refine AC_of (.forget ?_)
  have ox := hx.one
  refine call_c follows cf40_ok (by simp) ?_
  simp [ox]
  refine newK_of fun z hz => ?_
  simp
  refine newK_of fun ze hze => ?_
  obtain ⟨n1, n2, hze'⟩ := upd_none'.1 hze
  simp
  refine newK_of fun v hv => ?_
  obtain ⟨n3, n4, hv1⟩ := upd_none'.1 hv
  obtain ⟨n5, n6, hv2⟩ := upd_none'.1 hv1
  simp [n2, n4, n6]
  have hS : Sub H (upd (upd (upd H z (.cells [vb true, x])) ze (.cells (oc o))) v (.cells [vb false, vnil])) := (((Sub.refl H).upd hz).upd hze').upd hv2
  have h2z : (upd (upd (upd H z (.cells [vb true, x])) ze (.cells (oc o))) v (.cells [vb false, vnil])) z = some (.cells [vb true, x]) := by simp [upd_apply, n2, n6]
  have h2e : (upd (upd (upd H z (.cells [vb true, x])) ze (.cells (oc o))) v (.cells [vb false, vnil])) ze = some (.cells (oc o)) := by simp [upd_apply, n4]
  have h2v : (upd (upd (upd H z (.cells [vb true, x])) ze (.cells (oc o))) v (.cells [vb false, vnil])) v = some (.cells [vb false, vnil]) := by simp [upd_apply]
  generalize upd (upd (upd H z (.cells [vb true, x])) ze (.cells (oc o))) v (.cells [vb false, vnil]) = H2 at *
  have hx2 := hx.sub hS
  have lx := fun k => hx.lenK (k := k)
  have bad : ∀ {E}, wplE L o = E → E ≠ 0 → ∃ H1, Sub H1 (upd H2 v (.cells [vb true, x])) ∧ K (.tp [.ag [vb true, x], vi E]) H1 := by
    intro E e1 e2
    have := hk x H (Sub.refl H) (by rw [wplL, if_neg (by rw [e1]; exact e2)]; exact hx)
    rw [e1] at this
    exact ⟨H, hS.upd hv2, this⟩
  try simp [h2z, h2e, ox]
  refine (c49 o).ac ?_
  by_cases c1 : chk o = 0
  case neg =>
    have e1 : wplE L o = chk o := if_pos c1
    simp [c1, h2z, h2e, h2v, ox]
    exact bad e1 c1
  simp [c1, h2z, h2e, h2v, ox]
  refine c56 L o.nm hx2 hl ?_
  by_cases c2 : 0 ≤ fndF o.nm L 0
  · have e1 : wplE L o = 7 := by rw [wplE, if_neg (by simp [c1]), if_pos c2]
    simp [c2, h2z, h2e, h2v, ox]
    exact bad e1 (by decide)
  simp [c2, h2z, h2e, h2v, ox]
  refine c57 L o (-1) hx2 hl ?_
  cases c3 : ovkF o (-1) L 0 with
  | true =>
    have e1 : wplE L o = 6 := by rw [wplE, if_neg (by simp [c1]), if_neg c2, if_pos c3]
    simp [h2z, h2e, h2v, ox]
    exact bad e1 (by decide)
  | false =>
  by_cases c4 : (8 : Int) ≤ L.length
  · have e1 : wplE L o = 5 := by rw [wplE, if_neg (by simp [c1]), if_neg c2, if_neg (by simp [c3]), if_pos (by omega)]
    simp [h2z, h2e, h2v, ox, lx, c4]
    exact bad e1 (by decide)
  have e1 : wplE L o = 0 := by rw [wplE, if_neg (by simp [c1]), if_neg c2, if_neg (by simp [c3]), if_neg (by omega)]
  have hk2 : ∀ out H', Row H H' out (flat oc (oins o L)) (oins o L).length 8 → K (.tp [.ag [vb true, out], vi 0]) H' := fun out H' hr => by
    have := hk out H' hr.sub (by rw [wplL, if_pos e1]; exact hr.rin (by rw [oc_flat_len]))
    rwa [e1] at this
  simp [h2z, h2e, h2v, ox, lx, c4]
  refine newK_of fun y hy => ?_
  have nz1 := free_ne hy ze (by simp [h2e])
  have nz2 := free_ne hy v (by simp [h2v])
  have nz3 := free_ne hy z (by simp [h2z])
  try simp
  have up : ∀ o, Sub H2 (upd H2 y o) := fun o => (Sub.refl H2).upd hy
  refine wpc_loop (fun s' => ∃ (i : Nat) (out : AV) (P : List O) (d : Bool), s'.n = 81 ∧ s'.t 2 = pA z ∧ s'.t 3 = pA ze ∧ s'.t 4 = pA v ∧ s'.t 7 = pA y ∧ s'.t 8 = vb d ∧ s'.t 9 = vi i ∧ i ≤ L.length ∧ P ++ (if d = true then L.drop i else oins o (L.drop i)) = oins o L ∧ Row (upd H2 y (.cells [vb true, out])) s'.H out (flat oc P) P.length 8) (fun s' => L.length - slotN (s'.t 9)) ?_ ?_
  · exact FgK.same ⟨0, vnil, [], false, by simp, by simp, by simp, by simp, by simp, by simp, by simp, by omega, by simp, by simp [flat_nil]; exact Row.nil _ 8⟩
  rintro s' ⟨i, out, P, d, hn, t2, t3, t4, t7, t8, t9, hi, hO, hrow⟩
  have w := IntWalk.i64_in ((i : Int) + 1) (by omega)
  have hsub := hrow.sub
  have hone := hrow.one
  have hz3 := hsub.at ((up _).at h2z)
  have he3 := hsub.at ((up _).at h2e)
  have hv3 := hsub.at ((up _).at h2v)
  have hy3 : s'.H y = some (.cells [vb true, out]) := hsub.at (by simp [upd_apply])
  have hOl : P.length ≤ L.length + 1 := by
    have := congrArg List.length hO
    rw [oins_len] at this
    simp at this; omega
  by_cases hlt : i < L.length
  · have hd := oc_at hlt
    obtain ⟨rest, hd1⟩ := oc_nm_at hlt
    have hbd : i * 8 + 8 ≤ (flat oc L).length := by rw [oc_flat_len]; omega
    have hbd1 : i * 8 + 1 ≤ (flat oc L).length := by omega
    have hdr := List.drop_eq_getElem_cons hlt
    generalize L[i] = e at hd hd1 hdr
    have hd2 : List.take 8 (vs8 e.nm :: rest) = oc e := by rw [← hd1]; exact hd
    obtain ⟨q, f, rfl, hqH⟩ := hx2.sl (by omega)
    have hq3 := hsub.at ((up _).at hqH)
    have nqy := free_ne hy q (by simp [hqH])
    rw [hdr] at hO
    cases d with
    | true =>
      simp only [if_true] at hO
      simp (disch := omega) [hn, t2, t3, t4, t7, t8, t9, hz3, he3, hy3, hq3, hd, hd1, hd2, hbd, hbd1, hlt]
      refine newK_of fun u hu => ?_
      have nu := free_ne hu y (by simp [hy3])
      have nq := free_ne hu q (by simp [hq3])
      have nr := free_ne hu z (by simp [hz3])
      have hsu : Sub s'.H (upd s'.H u (.cells (oc e))) := (Sub.refl _).upd hu
      simp (disch := omega) [hn, t2, t3, t4, t7, t8, t9, hz3, he3, hy3, hq3, hd, hd1, hd2, hbd, hbd1, hlt, nu, nq, nr]
      refine hrow.app (by exact hsu) (by decide) rfl (by rw [oc_flat_len]) (by omega) fun g H' hg hsg => ?_
      obtain ⟨r1, r2, r3, r4, r5, r6⟩ := sub_turn hg hsg (.cells [vb true, .sl g 0 (P.length + 1) 8 false])
      simp (disch := omega) [hn, t2, t3, t4, t7, t8, t9, r1, w]
      refine FgK.of _ r3 ⟨⟨i + 1, .sl g 0 (P.length + 1) 8 false, P ++ [e], true, by simp [hn], by simp [t2], by simp [t3], by simp [t4], by simp [t7], by simp [t8], by simp, by omega, by simpa using hO, ?_⟩, by simp [t9]; omega⟩
      rw [flat_snoc]
      simpa using Row.mk (cs := flat oc (P ++ [e])) (n := P.length + 1) (sz := 8) r2
    | false =>
      simp only [Bool.false_eq_true, if_false] at hO
      cases b1 : bless o.nm e.nm with
      | true =>
        have b1' : Op.bytesLess o.nm.toList e.nm.toList = true := b1
        rw [oins, if_pos b1] at hO
        simp (disch := omega) [hn, t2, t3, t4, t7, t8, t9, hz3, he3, hy3, hq3, hd, hd1, hd2, hbd, hbd1, hlt, b1']
        refine newK_of fun u hu => ?_
        have nu := free_ne hu y (by simp [hy3])
        have hsu : Sub s'.H (upd s'.H u (.cells (oc o))) := (Sub.refl _).upd hu
        try simp (disch := omega) [hn, t2, t3, t4, t7, t8, t9, hy3, nu]
        refine hrow.app (by exact hsu) (by decide) rfl (by rw [oc_flat_len]) (by omega) fun g H' hg hsg => ?_
        obtain ⟨r1, r2, r3, r4, r5, r6⟩ := sub_turn hg hsg (.cells [vb true, .sl g 0 (P.length + 1) 8 false])
        have hsA := ((Sub.refl (upd H2 y (.cells [vb true, out]))).upd hg).trans hsg
        have gz := hsA.at ((up _).at h2z)
        have gq := hsA.at ((up _).at hqH)
        simp (disch := omega) [hn, t2, t3, t4, t7, t8, t9, r1, gz, gq, nz3, nqy, hd, hd1, hd2, hbd, hbd1, hlt]
        rw [flat_snoc] at r3
        have hrow2 := Row.mk (cs := flat oc (P ++ [o])) (n := P.length + 1) (sz := 8) r2
        have hs2 : Sub H2 (upd H' y (.cells [vb true, .sl g 0 (P.length + 1) 8 false])) := ((up _).trans hrow2.sub).trans r3
        have gz2 := hs2.at h2z
        have gq2 : upd H' y (.cells [vb true, .sl g 0 (P.length + 1) 8 false]) q = some (.cells (flat oc L)) := by simp [upd_apply, nqy, gq]
        have gy : (upd H' y (.cells [vb true, .sl g 0 (P.length + 1) 8 false])) y = some (.cells [vb true, .sl g 0 (P.length + 1) 8 false]) := by simp [upd_apply]
        generalize upd H' y (.cells [vb true, .sl g 0 (P.length + 1) 8 false]) = H5 at r3 hs2 gz2 gq2 gy ⊢
        generalize AV.sl g 0 (P.length + 1) 8 false = out2 at *
        have hone2 := hrow2.one
        refine newK_of fun u2 hu2 => ?_
        have nu2 := free_ne hu2 y (by simp [gy])
        have nq2 := free_ne hu2 q (by simp [gq2])
        have nr2 := free_ne hu2 z (by simp [gz2])
        have hsu2 : Sub H5 (upd H5 u2 (.cells (oc e))) := (Sub.refl _).upd hu2
        simp (disch := omega) [hn, t2, t3, t4, t7, t8, t9, gz2, gy, gq2, hd, hd1, hd2, hbd, hbd1, hlt, nu2, nq2, nr2]
        refine hrow2.app (by exact r3.trans hsu2) (by decide) rfl (by rw [oc_flat_len]; simp) (by omega) fun g2 H6 hg2 hsg2 => ?_
        obtain ⟨u1, u2', u3, u4, u5, u6⟩ := sub_turn hg2 hsg2 (.cells [vb true, .sl g2 0 (P.length + 1 + 1) 8 false])
        simp (disch := omega) [hn, t2, t3, t4, t7, t8, t9, u1, w]
        refine FgK.of _ u3 ⟨⟨i + 1, .sl g2 0 (P.length + 1 + 1) 8 false, P ++ [o] ++ [e], true, by simp [hn], by simp [t2], by simp [t3], by simp [t4], by simp [t7], by simp, by simp, by omega, by simpa using hO, ?_⟩, by simp [t9]; omega⟩
        rw [flat_snoc]
        have h9 := Row.mk (cs := flat oc (P ++ [o] ++ [e])) (n := P.length + 1 + 1) (sz := 8) u2'
        have h8 : (P ++ [o] ++ [e]).length = P.length + 1 + 1 := by simp
        rw [h8]
        exact h9
      | false =>
        have b1' : Op.bytesLess o.nm.toList e.nm.toList = false := b1
        rw [oins, if_neg (by rw [b1]; decide)] at hO
        simp (disch := omega) [hn, t2, t3, t4, t7, t8, t9, hz3, he3, hy3, hq3, hd, hd1, hd2, hbd, hbd1, hlt, b1']
        refine newK_of fun u hu => ?_
        have nu := free_ne hu y (by simp [hy3])
        have nq := free_ne hu q (by simp [hq3])
        have nr := free_ne hu z (by simp [hz3])
        have hsu : Sub s'.H (upd s'.H u (.cells (oc e))) := (Sub.refl _).upd hu
        simp (disch := omega) [hn, t2, t3, t4, t7, t8, t9, hz3, he3, hy3, hq3, hd, hd1, hd2, hbd, hbd1, hlt, nu, nq, nr]
        refine hrow.app (by exact hsu) (by decide) rfl (by rw [oc_flat_len]) (by omega) fun g H' hg hsg => ?_
        obtain ⟨r1, r2, r3, r4, r5, r6⟩ := sub_turn hg hsg (.cells [vb true, .sl g 0 (P.length + 1) 8 false])
        simp (disch := omega) [hn, t2, t3, t4, t7, t8, t9, r1, w]
        refine FgK.of _ r3 ⟨⟨i + 1, .sl g 0 (P.length + 1) 8 false, P ++ [e], false, by simp [hn], by simp [t2], by simp [t3], by simp [t4], by simp [t7], by simp [t8], by simp, by omega, by simpa using hO, ?_⟩, by simp [t9]; omega⟩
        rw [flat_snoc]
        simpa using Row.mk (cs := flat oc (P ++ [e])) (n := P.length + 1) (sz := 8) r2
  · rw [List.drop_of_length_le (by omega)] at hO
    rw [← hO] at hk2
    cases d with
    | true =>
      simp only [if_true, List.append_nil] at hk2
      simp (disch := omega) [hn, t2, t3, t4, t7, t8, t9, hz3, hy3, hv3, lx, hlt, hone]
      obtain ⟨H1, h3, h4⟩ := hrow.out2 (H := H) (hS.trans (up _)) (y := v) hv2 ((up _).at h2v) (.cells [vb true, out])
      exact ⟨H1, h3, hk2 _ _ h4⟩
    | false =>
      simp only [Bool.false_eq_true, if_false, oins] at hk2
      simp (disch := omega) [hn, t2, t3, t4, t7, t8, t9, hz3, he3, hy3, hv3, lx, hlt, hone]
      refine newK_of fun u hu => ?_
      have nu := free_ne hu y (by simp [hy3])
      have hsu : Sub s'.H (upd s'.H u (.cells (oc o))) := (Sub.refl _).upd hu
      try simp (disch := omega) [hn, t2, t3, t4, t7, t8, t9, hy3, nu]
      refine hrow.app (by exact hsu) (by decide) rfl (by rw [oc_flat_len]) (by omega) fun g H' hg hsg => ?_
      obtain ⟨r1, r2, r3, r4, r5, r6⟩ := sub_turn hg hsg (.cells [vb true, .sl g 0 (P.length + 1) 8 false])
      have hsA := ((Sub.refl (upd H2 y (.cells [vb true, out]))).upd hg).trans hsg
      have hv' := hsA.at ((up _).at h2v)
      simp (disch := omega) [hn, t2, t3, t4, t7, t8, t9, r1, hv', nz2]
      rw [flat_snoc] at r3
      have hrow2 := Row.mk (cs := flat oc (P ++ [o])) (n := P.length + 1) (sz := 8) r2
      obtain ⟨H1, h3, h4⟩ := hrow2.out2 (H := H) (hS.trans (up _)) (y := v) hv2 ((up _).at h2v) (.cells [vb true, .sl g 0 (P.length + 1) 8 false])
      exact ⟨H1, h3.trans (Sub.cong r3), hk2 _ _ (by simpa using h4)⟩
end Go.Proofs.Ytidcajmbkbamcaa
