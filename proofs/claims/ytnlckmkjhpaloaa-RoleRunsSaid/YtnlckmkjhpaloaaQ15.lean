/-
  RoleRuns: for every run the law returns true, and its arguments read as they did. No conditions: every input that the row admits.
-/
import Derived.Test.YtnlckmkjhpaloaaQ14
namespace Go.Proofs.Ytnlckmkjhpaloaa
open Go Go.Ab Go.RowKit Go.ChangeShapes Go.WideShapes Go.ChangeAt
set_option linter.unusedSimpArgs false
set_option linter.unusedVariables false
set_option linter.unnecessarySimpa false

attribute [local simp] condK_true condK_false condK_not wpc_skip wpc_ret wpc_exit wpc_seq wpc_reg wpc_regD testA_bool wpc_cond wpc_block thenA_normal thenA_ret thenA_exit blockA_normal blockA_ret blockA_exit blockA_other endA_normal endA_ret ev_tmp' ev_const ev_func ev_global cv_int cv_bool cv_string cv_pointer cv_slice cv_agg put_some put_none wH_s setE_apply setE_env less_eq env_cons env_nil upd_upd upd_apply del_apply startA_eq cells_ag cells_sl one_sl cells_vs one_vs cells_ep one_ep cells_fn one_fn cells_int one_int cells_bool one_bool cells_string one_string cells_pointer one_pointer cells_slice one_slice cells_map one_map cells_agg resK_one resK_nil resK_two rvK_t rvK_c rvsK_nil rvsK_cons iseq_nil iseq_cons gdA_true gdA_false gdA_undef istep_free istep_guard istepV_free istepV_guard dseq_nil dseq_pu dseq_rd dseq_ef chkAll_nil chkAll_cons andK_true pickK_true pickK_false pickK_tb pickK_fb bin2K_pl eqbK_eq eqbK_ne eqpK_eq eqpK_ne un1K_pl convK_int fillK_some fillA_cons fillA_nil cellsK_some needK_true needK_ok seeK_ep seeK_ptr oneK_agg oneK_one nilcK_ptr nilcK_ep fadrK_ptr fadrK_ep fldK_ag iadAK_ptr iadAK_ep iadSK_sl iadSK_vs extK_0 extK_1 extK_2 extK_3 lenK_pl lenK_sl lenK_vs lensK_pl boxK_some minmax1K_int storeK_ptr callvK_fn callvK_pl newsK_nil newsK_vs newsK_sl appK_nil appK_nil0 appK_sl appK_vs bnd1K_int bndK_none bndK_some slsK_vs slsK_nil slsK_sl0 slsK_sl slstrK_pl boolK_some eqsK_ag iop_eqs iop_sls iop_slstr seesK_some seesK_ro mapsK_some MAP_some findK_some findK_none plK_pl nmapK_none nmapK_some iop_mlook iop_mlen iop_mmk iop_mupd iop_mdel iop_mrng itK_none itK_some ptr0K_ptr iop_mnxt iop_ment it1K_some entK_some iop_mov iop_pick iop_bin iop_eqb iop_eqp iop_un iop_conv iop_build iop_load iop_nilc iop_fadr iop_fld iop_iadA iop_iadS iop_ext iop_mkf iop_len iop_lens iop_minmax iop_al iop_box iop_bsl iop_store iop_call iop_callv iop_app BIN_add BIN_sub BIN_mul BIN_and BIN_or BIN_xor BIN_andNot BIN_eql BIN_neq BIN_lss BIN_leq BIN_gtr BIN_geq BIN_quo BIN_rem BIN_shl BIN_shr BIN_sadd BIN_seql BIN_sneq BIN_slss BIN_sleq BIN_sgtr BIN_sgeq UN_neg UN_xor UN_not MM_nil MM_cons partsA argsA ptrA lessL eqL min2I slotN_int slotP_int slotI_int
attribute [local simp] ent_len ent_tt ent_dd ent_one ent_ag ent_t1 ent_d1 opc_len opc_tt opc_dd opc_one opc_ag opc_t1 opc_t2 opc_d1 opc_d2 en_len en_tt en_dd en_one en_ag en_t1 en_t2 en_d1 en_d2 ent_eq upm_upm

theorem rfind_cons (x : En) (l : List En) (t : Int) : rfind (x :: l) t = if x.s = t then x else rfind l t := by
  unfold rfind
  rw [List.find?_cons]
  by_cases h : x.s = t
  · simp [h]
  · have : (x.s == t) = false := by simpa using h
    simp [h, this]
theorem rfind_rout (s t : Int) : ∀ L : List En, rfind (rout L s) t = if t = s then rz else rfind L t
  | [] => by simp [rout, rfind]
  | x :: L => by
    have ih := rfind_rout s t L
    by_cases h : x.s = s
    · have : rout (x :: L) s = rout L s := by simp [rout, h]
      rw [this, ih, rfind_cons]
      by_cases e : t = s
      · simp [e]
      · simp [e, h, Ne.symm e]
    · have : rout (x :: L) s = x :: rout L s := by simp [rout, h]
      rw [this, rfind_cons, rfind_cons, ih]
      by_cases e : x.s = t
      · have : ¬ t = s := fun h2 => h (e.trans h2)
        simp [e, this]
      · simp [e]
theorem rfind_rins (e : En) (t : Int) : ∀ l : List En, (∀ x ∈ l, x.s ≠ e.s) → rfind (rins e l) t = if e.s = t then e else rfind l t
  | [], _ => by rw [rins, rfind_cons]
  | x :: l, h => by
    have ih := rfind_rins e t l fun y hy => h y (List.mem_cons_of_mem _ hy)
    have h0 := h x (by simp)
    unfold rins
    split
    · rw [rfind_cons]
    · rw [rfind_cons, ih, rfind_cons]
      by_cases e1 : x.s = t
      · have : ¬ e.s = t := fun e2 => h0 (e1.trans e2.symm)
        simp [e1, this]
      · simp [e1]
theorem mem_rins (e x : En) : ∀ l : List En, x ∈ rins e l ↔ x = e ∨ x ∈ l
  | [] => by simp [rins]
  | y :: l => by
    have ih := mem_rins e x l
    unfold rins
    split
    · simp
    · simp only [List.mem_cons, ih]
      constructor
      · rintro (h | h | h) <;> simp [h]
      · rintro (h | h | h) <;> simp [h]
def Rising (l : List En) : Prop := l.Pairwise fun a b => a.s < b.s
theorem rising_rins (e : En) : ∀ l : List En, (∀ x ∈ l, x.s ≠ e.s) → Rising l → Rising (rins e l)
  | [], _, _ => by simp [rins, Rising]
  | x :: l, h, hr => by
    obtain ⟨h1, h2⟩ := List.pairwise_cons.1 hr
    have h0 := h x (by simp)
    have ih := rising_rins e l (fun y hy => h y (List.mem_cons_of_mem _ hy)) h2
    unfold rins
    split
    · rename_i c
      refine List.pairwise_cons.2 ⟨fun y hy => ?_, hr⟩
      rcases List.mem_cons.1 hy with rfl | hy
      · exact c
      · have := h1 y hy; omega
    · rename_i c
      refine List.pairwise_cons.2 ⟨fun y hy => ?_, ih⟩
      rcases (mem_rins e y l).1 hy with rfl | hy
      · omega
      · exact h1 y hy
theorem rout_ne (L : List En) (s : Int) : ∀ x ∈ rout L s, x.s ≠ s := by
  intro x hx
  have := (List.mem_filter.1 hx).2
  simpa using this
theorem rising_rout {L : List En} (s : Int) (h : Rising L) : Rising (rout L s) := h.filter _
theorem rfind_rwith (L : List En) (e : En) (t : Int) : rfind (rwith L e) t = if e.s = t then e else rfind L t := by
  rw [rwith, rfind_rins e t _ (rout_ne L e.s), rfind_rout]
  by_cases h : e.s = t
  · simp [h]
  · simp [h, Ne.symm h]
/-- The list says what the map says. -/
structure Rel (g : Int → Ent) (L : List En) : Prop where
  up : Rising L
  fd : ∀ s, (rfind L s).r = (g s).r ∧ (rfind L s).a = (g s).a
  ok : ∀ s, g s = e0 ∨ isR (g s).r = true
theorem Rel.with {g : Int → Ent} {L : List En} (h : Rel g L) (s r : Int) (a : Bool) (hr : isR r = true) : Rel (gset g s ⟨r, a⟩) (rwith L ⟨s, r, a⟩) := by
  refine ⟨rising_rins _ _ (rout_ne L s) (rising_rout s h.up), fun t => ?_, fun t => ?_⟩
  · rw [rfind_rwith]
    unfold gset
    by_cases e : t = s
    · simp [e]
    · simp [e, Ne.symm e, h.fd t]
  · unfold gset
    by_cases e : t = s
    · simp [e, hr]
    · simp [e, h.ok t]
theorem Rel.without {g : Int → Ent} {L : List En} (h : Rel g L) (s : Int) : Rel (gset g s e0) (rout L s) := by
  refine ⟨rising_rout s h.up, fun t => ?_, fun t => ?_⟩
  · rw [rfind_rout]
    unfold gset
    by_cases e : t = s
    · simp [e, rz, e0]
    · simp [e, h.fd t]
  · unfold gset
    by_cases e : t = s
    · simp [e]
    · simp [e, h.ok t]
theorem Rel.asg {g : Int → Ent} {L : List En} (h : Rel g L) (s r : Int) : wasgE L s r = asgE g s r ∧ Rel (asgG g s r) (wasgL L s r) := by
  have hE : wasgE L s r = asgE g s r := by
    unfold wasgE asgE
    by_cases c : s < 1 ∨ isR r = false
    · rw [if_pos c, if_pos c]
    · rw [if_neg c, if_neg c, (h.fd s).1, (h.fd s).2]
      congr 1
      have hok := h.ok s
      generalize g s = e at hok
      obtain ⟨er, ea⟩ := e
      rcases hok with hok | hok
      · cases hok; simp [e0]
      · have : er ≠ 0 := by rintro rfl; cases hok
        simp [e0, this]
        cases ea <;> simp
  refine ⟨hE, ?_⟩
  unfold asgG wasgL
  rw [hE]
  split
  · rename_i c
    refine h.with s r true ?_
    unfold asgE at c
    split at c
    · cases c
    · rename_i c2
      cases e : isR r with
      | true => rfl
      | false => exact absurd (.inr e) c2
  · exact h
theorem Rel.rel {g : Int → Ent} {L : List En} (h : Rel g L) (s : Int) : wrelE L s = relE g s ∧ Rel (relG g s) (wrelL L s) := by
  unfold wrelE relE relG wrelL
  rw [(h.fd s).1, (h.fd s).2]
  refine ⟨rfl, ?_⟩
  split
  · rename_i c
    refine h.with s _ false ?_
    rcases h.ok s with e | e
    · rw [e] at c; cases c
    · exact e
  · exact h
theorem Rel.dst {g : Int → Ent} {L : List En} (h : Rel g L) (s : Int) : wdstE L s = dstE g s ∧ Rel (dstG g s) (wdstL L s) := by
  have hE : wdstE L s = dstE g s := by unfold wdstE dstE; rw [(h.fd s).2]
  refine ⟨hE, ?_⟩
  unfold dstG wdstL
  rw [hE]
  split
  · exact h.without s
  · exact h
theorem Rel.op {g : Int → Ent} {L : List En} (h : Rel g L) (x : Op) : wE L x = opE g x ∧ Rel (opG g x) (wL L x) := by
  unfold wE opE opG wL
  by_cases c1 : x.k = 0
  · simp only [if_pos c1]; exact h.asg _ _
  · simp only [if_neg c1]
    by_cases c2 : x.k = 1
    · simp only [if_pos c2]; exact h.rel _
    · simp only [if_neg c2]; exact h.dst _
theorem rfind_mem {s : Int} : ∀ {L : List En} {e : En}, Rising L → e ∈ L → e.s = s → rfind L s = e
  | x :: L, e, hr, he, hs => by
    obtain ⟨h1, h2⟩ := List.pairwise_cons.1 hr
    rw [rfind_cons]
    rcases List.mem_cons.1 he with rfl | he
    · rw [if_pos hs]
    · have := h1 e he
      rw [if_neg (by omega)]
      exact rfind_mem h2 he hs
theorem rfind_or (s : Int) : ∀ L : List En, rfind L s = rz ∨ (rfind L s ∈ L ∧ (rfind L s).s = s)
  | [] => .inl (by simp [rfind])
  | x :: L => by
    rw [rfind_cons]
    split
    · rename_i c; exact .inr ⟨by simp, c⟩
    · rcases rfind_or s L with h | ⟨h1, h2⟩
      · exact .inl h
      · exact .inr ⟨List.mem_cons_of_mem _ h1, h2⟩
theorem Rel.of {g : Int → Ent} {L : List En} (h : Rel g L) (n : Int) : OfL g n (wof L n) := by
  refine ⟨?_, fun t => ?_⟩
  · rw [wof, List.pairwise_map]
    exact h.up.filter _
  · rw [wof, List.mem_map]
    constructor
    · rintro ⟨e, he, rfl⟩
      obtain ⟨h1, h2⟩ := List.mem_filter.1 he
      have h3 := rfind_mem h.up h1 rfl
      have h4 := h.fd e.s
      have h5 := h.ok e.s
      rw [h3] at h4
      simp [wofF] at h2
      have h6 : g e.s = ⟨n, true⟩ := by
        generalize g e.s = k at h4
        obtain ⟨kr, ka⟩ := k
        simp at h4
        rw [← h4.1, ← h4.2, h2.1, h2.2]
      rw [h6] at h5
      rcases h5 with h5 | h5
      · cases h5
      · exact ⟨h5, h6⟩
    · rintro ⟨h1, h2⟩
      have h4 := h.fd t
      rw [h2] at h4
      rcases rfind_or t L with e | ⟨e1, e2⟩
      · rw [e] at h4; cases h4.2
      · exact ⟨_, List.mem_filter.2 ⟨e1, by simp [wofF, h4.1, h4.2]⟩, e2⟩
theorem wL_len (L : List En) (x : Op) : (wL L x).length ≤ L.length + 1 := by
  have h1 := fun e => rwith_len L e
  have h2 := fun s => rout_len L s
  unfold wL wasgL wrelL wdstL
  repeat' split
  all_goals first | exact h1 _ | (have := h2 x.s; omega) | omega
theorem RG.other {H : AH} {p b z : Nat} {g : Int → Ent} {m : Es} {st : List Nat} {cl : Nat} {X : AO} (h : RG H p b g m st cl) (n1 : p ≠ z) (n2 : b ≠ z) : RG (upd H z X) p b g m st cl :=
  ⟨⟨by simp only [upd_apply, if_neg n1]; exact h.rs.ob, by simp only [upd_apply, if_neg n2]; exact h.rs.mp, h.rs.ne, h.rs.nd, h.rs.stp⟩, h.g⟩
theorem rowIn_upm {H : AH} {b : Nat} {mm : List (Value × AV)} {ss : List Nat} {cc : Nat} {X : AO} {out : AV} {cs : List AV} {n sz : Nat} (hb : H b = some (.map mm ss cc)) (h : RowIn H out cs n sz) : RowIn (upd H b X) out cs n sz := by
  rcases h with ⟨hl, ⟨h0, rfl⟩ | ⟨r, f, rfl, hr⟩⟩
  · exact ⟨hl, .inl ⟨h0, rfl⟩⟩
  · refine ⟨hl, .inr ⟨r, f, rfl, ?_⟩⟩
    have : r ≠ b := by rintro rfl; rw [hb] at hr; cases hr
    simp only [upd_apply, if_neg this]; exact hr
theorem c3 (l : List Op) : PC Try.prog 3 [.vs l.length false (flat opc l)] (vb true) := by
  refine .tell fun H => ?_
  refine call_c follows cf3_ok (by simp) ?_
  by_cases d1 : (60 : Int) < l.length
  · repeat' (first | simp [*] | with_reducible (refine (c9 ..).ac ?_))
    exact Sub.refl _
  simp [d1]
  refine c10 fun p b hp hb hg => ?_
  have hS : Sub H (upd (upd H b (.map [] [] 0)) p (.cells [vb true, .pl (.map (some b))])) := ((Sub.refl H).upd hb).upd hp
  generalize upd (upd H b (.map [] [] 0)) p (.cells [vb true, .pl (.map (some b))]) = H1 at hg hS ⊢
  simp
  refine c11 ?_
  simp
  refine newK_of fun z hz => ?_
  have hpz : p ≠ z := ne_of_free hg.rs.ob hz
  have hbz : b ≠ z := ne_of_free hg.rs.mp hz
  have hzH : H z = none := hS.none_of hz
  have hS1 : Sub H (upd H1 z (.cells [vnil])) := hS.upd hzH
  have hg1 := hg.other (X := .cells [vnil]) hpz hbz
  have hz1 : upd H1 z (.cells [vnil]) z = some (.cells [vnil]) := by simp [upd_apply]
  simp
  generalize upd H1 z (.cells [vnil]) = H2 at hg1 hS1 hz1 ⊢
  refine wpc_loop (fun s => ∃ (i : Nat) (x : AV) (L : List En) (m : Es) (st : List Nat) (cl : Nat) (g : Int → Ent), s.n = 89 ∧ s.t 0 = .vs l.length false (flat opc l) ∧ s.t 3 = pA p ∧ s.t 4 = pA z ∧ s.t 5 = vi i ∧
      RG s.H p b g m st cl ∧ s.H z = some (.cells [x]) ∧ RowIn s.H x (flat en L) L.length 3 ∧ Rel g L ∧ Sub H s.H ∧ i ≤ l.length ∧ m.length ≤ i ∧ L.length ≤ i) (fun s => l.length - slotN (s.t 5)) ?_ ?_
  · exact FgK.same ⟨0, vnil, [], [], [], 0, _, by simp, by simp, by simp, by simp, by simp, hg1, hz1, RowIn.nil _ 3, ⟨.nil, fun s => by simp [rfind, rz, e0], fun s => .inl rfl⟩, hS1, by omega, by simp, by simp⟩
  rintro s ⟨i, x, L, m, st, cl, g, hn, f0, f3, f4, f5, hG, hz3, hx, hrel, hS3, hi, hml, hLl⟩
  have w := IntWalk.i64_in ((i : Int) + 1) (by omega)
  have ox := hx.one
  by_cases hlt : i < l.length
  · obtain ⟨rest, hd⟩ := op_at hlt
    generalize l[i] = o at hd
    obtain ⟨xk, xs, xr⟩ := o
    simp only at hd
    have hd1 : (flat opc l).drop (i * 3 + 1) = vi xs :: vi xr :: rest := by rw [← List.drop_drop, hd]; rfl
    have hd2 : (flat opc l).drop (i * 3 + 2) = vi xr :: rest := by rw [← List.drop_drop, hd]; rfl
    have hfl : (flat opc l).length = l.length * 3 := flat_len (enc := opc) (fun _ => rfl) l
    have k1 : 1 ≤ (flat opc l).length - (i * 3 + 1) := by rw [hfl]; omega
    have k2 : 1 ≤ (flat opc l).length - (i * 3 + 2) := by rw [hfl]; omega
    obtain ⟨qE, qR⟩ := hrel.op ⟨xk, xs, xr⟩
    have hwl := wL_len L ⟨xk, xs, xr⟩
    simp (disch := omega) [hn, f0, f3, f4, f5, hlt, hd, hz3, ox]
    refine c12 L ⟨xk, xs, xr⟩ hx (by omega) fun out Ha ha hra => ?_
    rw [qE]
    have za := ha.at hz3
    have ga := hG.sub ha
    have oa := hra.one
    simp (disch := omega) [hn, f0, f3, f4, f5, hlt, hd, za, ox, oa]
    refine newK_of fun y hy => ?_
    have ny := free_ne hy z (by simp [za])
    have nyp := ne_of_free ga.rs.ob hy
    have nyb := ne_of_free ga.rs.mp hy
    have hyb : Sub Ha (upd Ha y (.cells [out])) := (Sub.refl Ha).upd hy
    have zb := hyb.at za
    have gb := ga.sub hyb
    have rb := hra.sub hyb
    have yb : upd Ha y (.cells [out]) y = some (.cells [out]) := by simp [upd_apply]
    simp (disch := omega) [hn, f0, f3, f4, f5, hlt, hd, za, ox, ny, oa]
    have hSb := (hS3.trans ha).trans hyb
    clear ha za ga hra hyb hy hS3 hG hz3 hx
    generalize upd Ha y (.cells [out]) = Hb at *
    refine c13 _ gb fun m1 s1 c1 l1 g1 => ?_
    have zc : upm Hb b m1 s1 c1 z = some (.cells [x]) := by simp only [upm, upd_apply, if_neg (Ne.symm hbz)]; exact zb
    have yc : upm Hb b m1 s1 c1 y = some (.cells [out]) := by simp only [upm, upd_apply, if_neg (Ne.symm nyb)]; exact yb
    have rc : RowIn (upm Hb b m1 s1 c1) out _ _ 3 := rowIn_upm gb.rs.mp rb
    have hSc : Sub H (upm Hb b m1 s1 c1) := hSb.upd hb
    generalize upm Hb b m1 s1 c1 = Hc at *
    simp (disch := omega) [hn, f0, f3, f4, f5, zc, yc, oa]
    have gd := g1.other (X := .cells [out]) hpz hbz
    have zd : upd Hc z (.cells [out]) z = some (.cells [out]) := by simp [upd_apply]
    have rd := rowIn_box (X := .cells [out]) zc rc
    have hSd : Sub H (upd Hc z (.cells [out])) := hSc.upd hzH
    generalize upd Hc z (.cells [out]) = Hd at *
    generalize wL L ⟨xk, xs, xr⟩ = L' at *
    have fe := qR.fd xs
    have hof := qR.of xr
    try simp (disch := omega) [hn, f0, f3, f4, f5, hlt, hd, hd1, hd2, k1, k2, zd, oa]
    refine c14 _ gd ?_
    simp (disch := omega) [hn, f0, f3, f4, f5, hlt, hd, hd1, hd2, k1, k2, zd, oa]
    refine c15 L' xs rd (by omega) ?_
    simp (disch := omega) [hn, f0, f3, f4, f5, hlt, hd, hd1, hd2, k1, k2, zd, oa, fe.1]
    refine c16 _ gd ?_
    simp (disch := omega) [hn, f0, f3, f4, f5, hlt, hd, hd1, hd2, k1, k2, zd, oa]
    refine c17 L' xs rd (by omega) ?_
    simp (disch := omega) [hn, f0, f3, f4, f5, hlt, hd, hd1, hd2, k1, k2, zd, oa, fe.2]
    refine c19 _ gd (by omega) fun o2 He lo r3 of3 => ?_
    have hle := of3.eq hof
    subst hle
    have ze := r3.sub.at zd
    simp (disch := omega) [hn, f0, f3, f4, f5, hlt, hd, hd1, hd2, k1, k2, ze, oa]
    refine c20 L' xr (rd.sub r3.sub) (by omega) fun o4 Hf r5 => ?_
    simp (disch := omega) [hn, f0, f3, f4, f5]
    refine c18 ((r3.rin (by simp)).sub r5.sub) (r5.rin (by simp)) (by have := wof_len L' xr; omega) ?_
    simp (disch := omega) [hn, f0, f3, f4, f5, w]
    exact FgK.of _ (r3.sub.trans r5.sub) ⟨⟨i + 1, out, L', m1, s1, c1, _, by simp [hn], by simp [f0], by simp [f3], by simp [f4], by simp, gd, zd, rd, qR, hSd, by omega, by omega, by omega⟩, by simp [*]; omega⟩
  · simp (disch := omega) [hn, f0, f3, f4, f5, hlt]
    refine (c9).ac ?_
    simp
    exact hS3
theorem law_RoleRuns (xs : List AV) (hf : FitsT [(false, [.sl opL])] xs) : ACall Try.prog 3 xs (fun _ => none) (fun v _ => v = vb true) := by
  match xs, hf with
  | [a], ⟨h1, _⟩ =>
    obtain ⟨l, rfl, _⟩ := fitOps h1
    exact (c3 l).same rfl

theorem roleRuns_lifted (os : Os) (started : os.Started) (H : Type) (enc : TypeId × Value → H) :
    ReturnsInHanded {} Try.checked os 3 .any (Rows.roleRunsSpec.pre6 enc Try.prog Try.f3 Rows.roleRunsRow.domain false) (Rows.roleRunsSpec.post enc Try.prog Try.f3 false true false false) := by
  refine returnsInHanded_of_change_sized (C := Try.checked) own started (by kernel_rfl) Try.func3
    (ChangeSpec.witness6 (enc := enc) (C := Try.checked) false ⟨#[], #[.slice none 0 0], []⟩ 8 (by kernel_rfl) (by kernel_rfl) (by kernel_rfl) (by kernel_rfl)) ?_
  intro W base args ds gs before hval hW _ _ _
  refine law_contract (L := [(false, [.sl opL])]) laidOut (by kernel_rfl) rfl (fun ds hd => ?_) ⟨_, rfl, by kernel_rfl⟩ ?_ (fun xs hf => law_RoleRuns xs hf) W base args ds gs before hval hW
  · match ds, hd with
    | [d0], _ => exact ⟨rfl, rfl, rfl⟩
  · exact of_decide_eq_true (by kernel_rfl)

theorem roleRuns_holds : Rows.RoleRunsSaid :=
  OpenClaim.holds_of_wide 3 Try.f3 rfl rfl rfl rfl rfl rfl rfl ⟨rfl, rfl, rfl, rfl, rfl⟩ rfl rfl rfl rfl rfl (by kernel_rfl) Try.func3 (by kernel_rfl)
    (of_decide_eq_true (by kernel_rfl)) (by unfold Func.isWrapper; first | (rw [if_pos (by decide +kernel)]; kernel_rfl) | (rw [if_neg (by decide +kernel)]; exact ⟨rfl, rfl⟩))
    (fun os started H enc _ => roleRuns_lifted os started H enc)
end Go.Proofs.Ytnlckmkjhpaloaa
