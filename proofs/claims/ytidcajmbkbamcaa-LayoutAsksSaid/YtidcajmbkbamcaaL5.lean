/-
  The layout: Move, Clamp; the law's screens. Conditions: as each lemma states them.
-/
import Derived.Test.YtidcajmbkbamcaaL4
namespace Go.Proofs.Ytidcajmbkbamcaa
open Go Go.Ab Go.RowKit
set_option linter.unusedSimpArgs false
set_option linter.unusedVariables false
set_option linter.unnecessarySimpa false

attribute [local simp] condK_true condK_false condK_not wpc_skip wpc_ret wpc_exit wpc_seq wpc_reg wpc_regD testA_bool wpc_cond wpc_block thenA_normal thenA_ret thenA_exit blockA_normal blockA_ret blockA_exit blockA_other endA_normal endA_ret ev_tmp' ev_const ev_func ev_global cv_int cv_bool cv_string cv_pointer cv_slice cv_agg put_some put_none wH_s setE_apply setE_env less_eq env_cons env_nil upd_upd upd_apply del_apply startA_eq cells_ag cells_sl one_sl cells_vs one_vs cells_ep one_ep cells_fn one_fn cells_int one_int cells_bool one_bool cells_string one_string cells_pointer one_pointer cells_slice one_slice cells_map one_map cells_agg resK_one resK_nil resK_two rvK_t rvK_c rvsK_nil rvsK_cons iseq_nil iseq_cons gdA_true gdA_false gdA_undef istep_free istep_guard istepV_free istepV_guard dseq_nil dseq_pu dseq_rd dseq_ef chkAll_nil chkAll_cons andK_true pickK_true pickK_false pickK_tb pickK_fb bin2K_pl eqbK_eq eqbK_ne eqpK_eq eqpK_ne un1K_pl convK_int fillK_some fillA_cons fillA_nil cellsK_some needK_true needK_ok seeK_ep seeK_ptr oneK_agg oneK_one nilcK_ptr nilcK_ep fadrK_ptr fadrK_ep fldK_ag iadAK_ptr iadAK_ep iadSK_sl iadSK_vs extK_0 extK_1 extK_2 extK_3 lenK_pl lenK_sl lenK_vs lensK_pl boxK_some minmax1K_int storeK_ptr callvK_fn callvK_pl newsK_nil newsK_vs newsK_sl appK_nil appK_nil0 appK_sl appK_vs bnd1K_int bndK_none bndK_some slsK_vs slsK_nil slsK_sl0 slsK_sl slstrK_pl boolK_some eqsK_ag iop_eqs iop_sls iop_slstr seesK_some seesK_ro mapsK_some MAP_some findK_some findK_none plK_pl nmapK_none nmapK_some iop_mlook iop_mlen iop_mmk iop_mupd iop_mdel iop_mrng itK_none itK_some ptr0K_ptr iop_mnxt iop_ment it1K_some entK_some iop_mov iop_pick iop_bin iop_eqb iop_eqp iop_un iop_conv iop_build iop_load iop_nilc iop_fadr iop_fld iop_iadA iop_iadS iop_ext iop_mkf iop_len iop_lens iop_minmax iop_al iop_box iop_bsl iop_store iop_call iop_callv iop_app BIN_add BIN_sub BIN_mul BIN_and BIN_or BIN_xor BIN_andNot BIN_eql BIN_neq BIN_lss BIN_leq BIN_gtr BIN_geq BIN_quo BIN_rem BIN_shl BIN_shr BIN_sadd BIN_seql BIN_sneq BIN_slss BIN_sleq BIN_sgtr BIN_sgeq UN_neg UN_xor UN_not MM_nil MM_cons partsA argsA ptrA lessL eqL min2I slotN_int slotP_int slotI_int
attribute [local simp] oc_len oc_tt oc_dd oc_one oc_ag oc_t1 oc_t2 oc_t3 oc_t4 oc_t5 oc_t6 oc_t7 oc_d1 oc_d2 oc_d3 oc_d4 oc_d5 oc_d6 oc_d7 rc_len rc_t4 rc_t1 rc_t2 rc_t3 rc_d1 rc_d2 rc_d3 rc_d4 rc_ag rc_one rc_eq min2_t min2_f

def at_ (o : O) (x y : Int) : O := ⟨o.nm, o.w, o.h, o.rf, o.sc, o.tr, x, y⟩
def movE (m : List O) (s : ByteArray) (x y : Int) : Int := if has m s = false then 8 else if chk (at_ (look m s) x y) ≠ 0 then chk (at_ (look m s) x y) else if ovl m (at_ (look m s) x y) = true then 6 else 0
def movM (m : List O) (s : ByteArray) (x y : Int) : List O := if movE m s x y = 0 then m.map (fun o => if o.nm = s then at_ o x y else o) else m
theorem mov_mid {m1 m2 : List O} {e : O} {x y : Int} (hn : ((m1 ++ e :: m2).map okey).Nodup) : (m1 ++ e :: m2).map (fun o => if o.nm = e.nm then at_ o x y else o) = m1 ++ at_ e x y :: m2 := by
  simp only [List.map_append, List.map_cons] at hn
  rw [List.nodup_append] at hn
  obtain ⟨h1, h2, h3⟩ := hn
  rw [List.nodup_cons] at h2
  have a1 : m1.map (fun o => if o.nm = e.nm then at_ o x y else o) = m1 := by
    conv => rhs; rw [← List.map_id m1]
    refine List.map_congr_left fun z hz => if_neg fun e' => h3 _ (List.mem_map.2 ⟨z, hz, rfl⟩) (okey e) (by simp) e'
  have a2 : m2.map (fun o => if o.nm = e.nm then at_ o x y else o) = m2 := by
    conv => rhs; rw [← List.map_id m2]
    refine List.map_congr_left fun z hz => if_neg fun e' => h2.1 (List.mem_map.2 ⟨z, hz, e'⟩)
  rw [List.map_append, List.map_cons, a1, a2, if_pos rfl]
theorem c29 {H : AH} {K : AV → AH → Prop} {p b : Nat} {m : List O} {st : List Nat} {cl : Nat} (s : ByteArray) (x y : Int) (h : LS H p b m st cl)
    (hk : ∀ st' cl', LS (upo H b (movM m s x y) st' cl') p b (movM m s x y) st' cl' → K (vi (movE m s x y)) (upo H b (movM m s x y) st' cl')) : @AC Try.prog 29 [pA p, vs8 s, vi x, vi y] H ⟨K⟩ := by
  have same : ∀ {e}, movE m s x y = e → e ≠ 0 → K (vi e) H := fun {e} h1 h2 => by
    have := hk st cl (by rw [movM, if_neg (by rw [h1]; exact h2), h.self]; exact h)
    rwa [movM, if_neg (by rw [h1]; exact h2), h.self, h1] at this
  have h1 := h.ob
  have h2 := h.mp
  refine AC_of (.forget ?_)
  refine call_c follows cf29_ok (by simp) ?_
  simp
  refine c36 h ?_
  rcases splitS okey s m with e | ⟨m1, e, m2, e0, e1, e2⟩
  · have ef := sfind_none (val := oval) m 0 e
    have hE : movE m s x y = 8 := if_pos (has_none e)
    simp [h1, h2, ef]
    refine newK_of fun u hu => ?_
    have hsu : Sub H (upd H u (.cells (oc ⟨⟨#[]⟩, 0, 0, 0, 0, 0, 0, 0⟩))) := (Sub.refl _).upd hu
    have nub := free_ne hu b (by simp [h2])
    have nup := free_ne hu p (by simp [h1])
    simp [h1, h2, nub, nup, ef]
    exact ⟨H, hsu, same hE (by decide)⟩
  · subst e0
    have e2' : e.nm = s := e2
    subst e2'
    have ef := sfind_some (val := oval) (m2 := m2) m1 0 e1 rfl
    have hlk : look (m1 ++ e :: m2) e.nm = e := look_mid e1 rfl
    have hE : movE (m1 ++ e :: m2) e.nm x y = if chk (at_ e x y) ≠ 0 then chk (at_ e x y) else if ovl (m1 ++ e :: m2) (at_ e x y) = true then 6 else 0 := by
      rw [movE, if_neg (by rw [has_mid rfl]; decide), hlk]
    simp [h1, h2, ef]
    refine newK_of fun u hu => ?_
    have hsu0 : Sub H (upd H u (.cells (oc (at_ e x y)))) := (Sub.refl _).upd hu
    have nub := free_ne hu b (by simp [h2])
    have nup := free_ne hu p (by simp [h1])
    have hcell : ([vs8 e.nm, vi e.w, vi e.h, vi e.rf, vi e.sc, vi e.tr, vi x, vi y] : List AV) = oc (at_ e x y) := rfl
    have hat : (⟨e.nm, e.w, e.h, e.rf, e.sc, e.tr, x, y⟩ : O) = at_ e x y := rfl
    simp [h1, h2, nub, nup, ef, upd_upd, hcell, hat]
    refine (c47 (at_ e x y)).ac ?_
    have gu : upd H u (.cells (oc (at_ e x y))) u = some (.cells (oc (at_ e x y))) := by simp [upd_apply]
    have g1 := hsu0.at h1
    have g2 := hsu0.at h2
    have hL := h.sub hsu0
    generalize hH3 : upd H u (.cells (oc (at_ e x y))) = H3 at *
    by_cases c1 : chk (at_ e x y) = 0
    · simp [c1, gu, g1, g2]
      refine c48 (at_ e x y) hL ?_
      cases c2 : ovl (m1 ++ e :: m2) (at_ e x y) with
      | true =>
        have hE2 : movE (m1 ++ e :: m2) e.nm x y = 6 := by rw [hE, if_neg (by simp [c1]), if_pos c2]
        simp
        exact ⟨H, hsu0, same hE2 (by decide)⟩
      | false =>
        have hE2 : movE (m1 ++ e :: m2) e.nm x y = 0 := by rw [hE, if_neg (by simp [c1]), if_neg (by simp [c2])]
        have hM : movM (m1 ++ e :: m2) e.nm x y = m1 ++ at_ e x y :: m2 := by rw [movM, if_pos hE2, mov_mid h.nd]
        have e4 := mS_set (key := okey) (val := oval) (m1 := m1) (m2 := m2) (e := e) (at_ e x y)
        have fin := hk st cl (by
          rw [hM]
          refine h.new ?_ (h.stp.len (by simp))
          have := h.nd
          simp only [List.map_append, List.map_cons] at this ⊢
          exact this)
        rw [hM, hE2] at fin
        unfold upo at fin
        rw [← e4] at fin
        simp [g1, g2, gu, ef]
        exact ⟨_, hsu0.cong, fin⟩
    · have hE2 : movE (m1 ++ e :: m2) e.nm x y = chk (at_ e x y) := by rw [hE, if_pos c1]
      simp [c1]
      exact ⟨H, hsu0, same hE2 c1⟩
def scr (s : ByteArray) (w h x y : Int) : O := ⟨s, w, h, 60000, 1, 0, x, y⟩
theorem c28 (s : ByteArray) (w h x y : Int) : PC Try.prog 28 [vs8 s, vi w, vi h, vi x, vi y] (.ag (oc (scr s w h x y))) := by
  refine .tell fun H => ?_
  refine call_c follows cf28_ok (by simp) ?_
  have hcell : (⟨s, w, h, 60000, 1, 0, x, y⟩ : O) = scr s w h x y := rfl
  simp
  refine newK_of fun u hu => ?_
  simp [hcell]
  exact (Sub.refl H).upd hu
def clS (x y : Int) (acc : Option (Int × Int)) (r : R) : Option (Int × Int) := match acc with
  | none => some (rclamp r x y)
  | some q => if nrr (awy (rclamp r x y).1 x) (awy (rclamp r x y).2 y) (awy q.1 x) (awy q.2 y) = true then some (rclamp r x y) else some q
def clF (L : List R) (x y : Int) : Int × Int := (L.foldl (clS x y) none).getD (0, 0)
theorem c14 {H : AH} {K : AV → AH → Prop} {p b : Nat} {m : List O} {st : List Nat} {cl : Nat} (x y : Int) (h : LS H p b m st cl) (hm : m.length ≤ 1000000)
    (hk : K (.tp [vi (clF (sareas m) x y).1, vi (clF (sareas m) x y).2]) H) : @AC Try.prog 14 [pA p, vi x, vi y] H ⟨K⟩ := by
  refine AC_of (.forget ?_)
  refine call_c follows cf14_ok (by simp) ?_
  simp
  refine c32 h hm fun on H2 hr => ?_
  have hS := hr.sub
  have hlen : (sareas m).length = m.length := by rw [sareas, List.length_map, souts_len]
  have hx := hr.rin (by rw [rc_flat_len])
  have lx := fun k => hx.lenK (k := k)
  simp [lx]
  generalize sareas m = N at *
  refine wpc_loop (fun s => ∃ (i : Nat) (bx by_ : Int) (fd : Bool), s.n = 51 ∧ s.t 1 = vi x ∧ s.t 2 = vi y ∧ s.t 8 = vi bx ∧ s.t 9 = vi by_ ∧ s.t 10 = vb fd ∧ s.t 16 = on ∧ s.t 17 = vi N.length ∧ s.t 18 = vi i ∧ i ≤ N.length ∧
      (N.take i).foldl (clS x y) none = (if fd = true then some (bx, by_) else none) ∧ (fd = false → bx = 0 ∧ by_ = 0) ∧ s.H = H2) (fun s => N.length - slotN (s.t 18)) ?_ ?_
  · exact FgK.same ⟨0, 0, 0, false, by simp, by simp, by simp, by simp, by simp, by simp, by simp, by simp, by simp, by omega, by simp, fun _ => ⟨rfl, rfl⟩, by simp⟩
  rintro s ⟨i, bx, by_, fd, hn, e1, e2, e8, e9, e10, e16, e17, e18, hi, hF, hz, hH⟩
  have w := IntWalk.i64_in ((i : Int) + 1) (by omega)
  by_cases hlt : i < N.length
  · have hd := rc_at hlt
    have hsp := take_snoc hlt
    have hbd : i * 4 + 4 ≤ (flat rc N).length := by rw [rc_flat_len]; omega
    generalize N[i] = r at hd hsp
    obtain ⟨q, f, rfl, hq⟩ := hx.sl (by omega)
    have hF2 : (N.take (i + 1)).foldl (clS x y) none = clS x y (if fd = true then some (bx, by_) else none) r := by rw [hsp, List.foldl_append, hF]; rfl
    simp (disch := omega) [hn, hH, e1, e2, e8, e9, e10, e16, e17, e18, hlt, hq, hd, hbd]
    refine newK_of fun u hu => ?_
    have hsu : Sub H2 (upd H2 u (.cells (rc r))) := (Sub.refl _).upd hu
    simp (disch := omega) [hn, hH, e1, e2, e8, e9, e10, e16, e17, e18]
    refine (c33 r x y).ac ?_
    cases fd with
    | false =>
      simp only [Bool.false_eq_true, if_false, clS] at hF2
      simp (disch := omega) [hn, hH, e1, e2, e8, e9, e10, e16, e17, e18, w]
      exact FgK.of _ hsu ⟨⟨i + 1, (rclamp r x y).1, (rclamp r x y).2, true, by simp [hn], by simp [e1], by simp [e2], by simp, by simp, by simp, by simp [e16], by simp [e17], by simp, by omega, by simp [hF2], (fun e => by cases e), rfl⟩, by simp [e18]; omega⟩
    | true =>
      simp only [if_true, clS] at hF2
      simp (disch := omega) [hn, hH, e1, e2, e8, e9, e10, e16, e17, e18]
      refine (c35 (rclamp r x y).1 x).ac ?_
      simp (disch := omega) [hn, hH, e1, e2, e8, e9, e10, e16, e17, e18]
      refine (c35 (rclamp r x y).2 y).ac ?_
      simp (disch := omega) [hn, hH, e1, e2, e8, e9, e10, e16, e17, e18]
      refine (c35 bx x).ac ?_
      simp (disch := omega) [hn, hH, e1, e2, e8, e9, e10, e16, e17, e18]
      refine (c35 by_ y).ac ?_
      simp (disch := omega) [hn, hH, e1, e2, e8, e9, e10, e16, e17, e18]
      refine (c34 (awy (rclamp r x y).1 x) (awy (rclamp r x y).2 y) (awy bx x) (awy by_ y)).ac ?_
      cases hnr : nrr (awy (rclamp r x y).1 x) (awy (rclamp r x y).2 y) (awy bx x) (awy by_ y) with
      | true =>
        rw [hnr] at hF2
        simp (disch := omega) [hn, hH, e1, e2, e8, e9, e10, e16, e17, e18, w]
        exact FgK.of _ hsu ⟨⟨i + 1, (rclamp r x y).1, (rclamp r x y).2, true, by simp [hn], by simp [e1], by simp [e2], by simp, by simp, by simp, by simp [e16], by simp [e17], by simp, by omega, by simpa using hF2, (fun e => by cases e), rfl⟩, by simp [e18]; omega⟩
      | false =>
        rw [hnr] at hF2
        simp (disch := omega) [hn, hH, e1, e2, e8, e9, e10, e16, e17, e18, w]
        exact FgK.of _ hsu ⟨⟨i + 1, bx, by_, true, by simp [hn], by simp [e1], by simp [e2], by simp [e8], by simp [e9], by simp [e10], by simp [e16], by simp [e17], by simp, by omega, by simpa using hF2, (fun e => by cases e), rfl⟩, by simp [e18]; omega⟩
  · rw [List.take_of_length_le (by omega)] at hF
    have hfin : clF N x y = (bx, by_) := by
      rw [clF, hF]
      cases fd with
      | true => rfl
      | false => obtain ⟨rfl, rfl⟩ := hz rfl; rfl
    rw [hfin] at hk
    simp (disch := omega) [hn, hH, e1, e2, e8, e9, e10, e16, e17, e18, hlt]
    exact ⟨H, hS, hk⟩
end Go.Proofs.Ytidcajmbkbamcaa
