/-
  The law's calls, and a layout that is built by calls. Conditions: as each lemma states them.
-/
import Derived.Test.YtidcajmbkbamcaaL8
namespace Go.Proofs.Ytidcajmbkbamcaa
open Go Go.Ab Go.RowKit
set_option linter.unusedSimpArgs false
set_option linter.unusedVariables false
set_option linter.unnecessarySimpa false

attribute [local simp] condK_true condK_false condK_not wpc_skip wpc_ret wpc_exit wpc_seq wpc_reg wpc_regD testA_bool wpc_cond wpc_block thenA_normal thenA_ret thenA_exit blockA_normal blockA_ret blockA_exit blockA_other endA_normal endA_ret ev_tmp' ev_const ev_func ev_global cv_int cv_bool cv_string cv_pointer cv_slice cv_agg put_some put_none wH_s setE_apply setE_env less_eq env_cons env_nil upd_upd upd_apply del_apply startA_eq cells_ag cells_sl one_sl cells_vs one_vs cells_ep one_ep cells_fn one_fn cells_int one_int cells_bool one_bool cells_string one_string cells_pointer one_pointer cells_slice one_slice cells_map one_map cells_agg resK_one resK_nil resK_two rvK_t rvK_c rvsK_nil rvsK_cons iseq_nil iseq_cons gdA_true gdA_false gdA_undef istep_free istep_guard istepV_free istepV_guard dseq_nil dseq_pu dseq_rd dseq_ef chkAll_nil chkAll_cons andK_true pickK_true pickK_false pickK_tb pickK_fb bin2K_pl eqbK_eq eqbK_ne eqpK_eq eqpK_ne un1K_pl convK_int fillK_some fillA_cons fillA_nil cellsK_some needK_true needK_ok seeK_ep seeK_ptr oneK_agg oneK_one nilcK_ptr nilcK_ep fadrK_ptr fadrK_ep fldK_ag iadAK_ptr iadAK_ep iadSK_sl iadSK_vs extK_0 extK_1 extK_2 extK_3 lenK_pl lenK_sl lenK_vs lensK_pl boxK_some minmax1K_int storeK_ptr callvK_fn callvK_pl newsK_nil newsK_vs newsK_sl appK_nil appK_nil0 appK_sl appK_vs bnd1K_int bndK_none bndK_some slsK_vs slsK_nil slsK_sl0 slsK_sl slstrK_pl boolK_some eqsK_ag iop_eqs iop_sls iop_slstr seesK_some seesK_ro mapsK_some MAP_some findK_some findK_none plK_pl nmapK_none nmapK_some iop_mlook iop_mlen iop_mmk iop_mupd iop_mdel iop_mrng itK_none itK_some ptr0K_ptr iop_mnxt iop_ment it1K_some entK_some iop_mov iop_pick iop_bin iop_eqb iop_eqp iop_un iop_conv iop_build iop_load iop_nilc iop_fadr iop_fld iop_iadA iop_iadS iop_ext iop_mkf iop_len iop_lens iop_minmax iop_al iop_box iop_bsl iop_store iop_call iop_callv iop_app BIN_add BIN_sub BIN_mul BIN_and BIN_or BIN_xor BIN_andNot BIN_eql BIN_neq BIN_lss BIN_leq BIN_gtr BIN_geq BIN_quo BIN_rem BIN_shl BIN_shr BIN_sadd BIN_seql BIN_sneq BIN_slss BIN_sleq BIN_sgtr BIN_sgeq UN_neg UN_xor UN_not MM_nil MM_cons partsA argsA ptrA lessL eqL min2I slotN_int slotP_int slotI_int
attribute [local simp] oc_len oc_tt oc_dd oc_one oc_ag oc_t1 oc_t2 oc_t3 oc_t4 oc_t5 oc_t6 oc_t7 oc_d1 oc_d2 oc_d3 oc_d4 oc_d5 oc_d6 oc_d7 rc_len rc_t4 rc_t1 rc_t2 rc_t3 rc_d1 rc_d2 rc_d3 rc_d4 rc_ag rc_one rc_eq min2_t min2_f

structure Op where
  k : Int
  nm : ByteArray
  w : Int
  h : Int
  rf : Int
  sc : Int
  tr : Int
  x : Int
  y : Int
  deriving DecidableEq
def opq (r : Op) : List AV := [vi r.k, vs8 r.nm, vi r.w, vi r.h, vi r.rf, vi r.sc, vi r.tr, vi r.x, vi r.y]
theorem opq_len (r : Op) : (opq r).length = 9 := rfl
theorem opq_tt (r : Op) : (opq r).take 9 = opq r := rfl
theorem opq_dd (r : Op) : (opq r).drop 9 = [] := rfl
theorem opq_one (r : Op) : (opq r).all AV.one = true := rfl
theorem opq_t1 (r : Op) : (opq r).take 1 = [vi r.k] := rfl
theorem opq_d1 (r : Op) : (opq r).tail = [vs8 r.nm, vi r.w, vi r.h, vi r.rf, vi r.sc, vi r.tr, vi r.x, vi r.y] := rfl
theorem opq_t2 (r : Op) : (opq r).take 2 = [vi r.k, vs8 r.nm] := rfl
theorem opq_d2 (r : Op) : (opq r).drop 2 = [vi r.w, vi r.h, vi r.rf, vi r.sc, vi r.tr, vi r.x, vi r.y] := rfl
theorem opq_t3 (r : Op) : (opq r).take 3 = [vi r.k, vs8 r.nm, vi r.w] := rfl
theorem opq_d3 (r : Op) : (opq r).drop 3 = [vi r.h, vi r.rf, vi r.sc, vi r.tr, vi r.x, vi r.y] := rfl
theorem opq_t4 (r : Op) : (opq r).take 4 = [vi r.k, vs8 r.nm, vi r.w, vi r.h] := rfl
theorem opq_d4 (r : Op) : (opq r).drop 4 = [vi r.rf, vi r.sc, vi r.tr, vi r.x, vi r.y] := rfl
theorem opq_t5 (r : Op) : (opq r).take 5 = [vi r.k, vs8 r.nm, vi r.w, vi r.h, vi r.rf] := rfl
theorem opq_d5 (r : Op) : (opq r).drop 5 = [vi r.sc, vi r.tr, vi r.x, vi r.y] := rfl
theorem opq_t6 (r : Op) : (opq r).take 6 = [vi r.k, vs8 r.nm, vi r.w, vi r.h, vi r.rf, vi r.sc] := rfl
theorem opq_d6 (r : Op) : (opq r).drop 6 = [vi r.tr, vi r.x, vi r.y] := rfl
theorem opq_t7 (r : Op) : (opq r).take 7 = [vi r.k, vs8 r.nm, vi r.w, vi r.h, vi r.rf, vi r.sc, vi r.tr] := rfl
theorem opq_d7 (r : Op) : (opq r).drop 7 = [vi r.x, vi r.y] := rfl
theorem opq_t8 (r : Op) : (opq r).take 8 = [vi r.k, vs8 r.nm, vi r.w, vi r.h, vi r.rf, vi r.sc, vi r.tr, vi r.x] := rfl
theorem opq_d8 (r : Op) : (opq r).drop 8 = [vi r.y] := rfl
theorem opq_ag (c0 : Int) (c1 : ByteArray) (c2 : Int) (c3 : Int) (c4 : Int) (c5 : Int) (c6 : Int) (c7 : Int) (c8 : Int) : AV.ag [vi c0, vs8 c1, vi c2, vi c3, vi c4, vi c5, vi c6, vi c7, vi c8] = .ag (opq ⟨c0, c1, c2, c3, c4, c5, c6, c7, c8⟩) := rfl
attribute [local simp] opq_len opq_tt opq_dd opq_one opq_ag opq_t1 opq_t2 opq_t3 opq_t4 opq_t5 opq_t6 opq_t7 opq_t8 opq_d1 opq_d2 opq_d3 opq_d4 opq_d5 opq_d6 opq_d7 opq_d8
def Op.o (x : Op) : O := ⟨x.nm, x.w, x.h, x.rf, x.sc, x.tr, x.x, x.y⟩
def doE (m : List O) (x : Op) : Int := if x.k = 1 then plugE m x.o else if x.k = 2 then delE m x.nm else movE m x.nm x.x x.y
def doM (m : List O) (x : Op) : List O := if x.k = 1 then plugM m x.o else if x.k = 2 then delM m x.nm else movM m x.nm x.x x.y
theorem doM_len (m : List O) (x : Op) : (doM m x).length ≤ m.length + 1 := by
  unfold doM
  split
  · unfold plugM; split <;> simp
  · split
    · have := List.length_filter_le (fun o : O => !decide (o.nm = x.nm)) m
      unfold delM; omega
    · unfold movM; split <;> simp
theorem doM_bad {m : List O} {x : Op} (h : doE m x ≠ 0) : doM m x = m := by
  unfold doE at h
  unfold doM
  split
  · rename_i c; rw [if_pos c] at h; exact if_neg h
  · rename_i c
    rw [if_neg c] at h
    split
    · rename_i c2
      rw [if_pos c2] at h
      unfold delE at h
      split at h
      · exact absurd rfl h
      · rename_i c3
        refine delM_none fun y hy e => c3 ?_
        rw [has, List.any_eq_true]; exact ⟨y, hy, by simpa using e⟩
    · rename_i c2; rw [if_neg c2] at h; exact if_neg h
theorem c17 {H : AH} {K : AV → AH → Prop} {p b : Nat} {m : List O} {st : List Nat} {cl : Nat} (x : Op) (h : LS H p b m st cl)
    (hk : ∀ st' cl', LS (upo H b (doM m x) st' cl') p b (doM m x) st' cl' → K (vi (doE m x)) (upo H b (doM m x) st' cl')) : @AC Try.prog 17 [pA p, .ag (opq x)] H ⟨K⟩ := by
  refine AC_of (.forget ?_)
  refine call_c follows cf17_ok (by simp) ?_
  simp
  refine newK_of fun z hz => ?_
  have hs : Sub H (upd H z (.cells (opq x))) := (Sub.refl H).upd hz
  have h1 := h.sub hs
  have ho : (⟨x.nm, x.w, x.h, x.rf, x.sc, x.tr, x.x, x.y⟩ : O) = x.o := rfl
  have mv : ∀ {m' : List O} {st' : List Nat} {cl' : Nat}, LS (upo (upd H z (.cells (opq x))) b m' st' cl') p b m' st' cl' → LS (upo H b m' st' cl') p b m' st' cl' := fun {m' st' cl'} g => h.new g.nd g.stp
  simp
  by_cases c1 : x.k = 1
  · simp [c1, ho]
    refine c24 x.o h1 fun st' cl' g => ?_
    have := hk st' cl' (by rw [doM, if_pos c1]; exact mv g)
    rw [doM, if_pos c1, doE, if_pos c1] at this
    simp
    exact ⟨_, hs.cong, this⟩
  · by_cases c2 : x.k = 2
    · simp [c2]
      refine c26 x.nm h1 fun st' cl' g => ?_
      have := hk st' cl' (by rw [doM, if_neg c1, if_pos c2]; exact mv g)
      rw [doM, if_neg c1, if_pos c2, doE, if_neg c1, if_pos c2] at this
      simp
      exact ⟨_, hs.cong, this⟩
    · simp [c1, c2]
      refine c29 x.nm x.x x.y h1 fun st' cl' g => ?_
      have := hk st' cl' (by rw [doM, if_neg c1, if_neg c2]; exact mv g)
      rw [doM, if_neg c1, if_neg c2, doE, if_neg c1, if_neg c2] at this
      simp
      exact ⟨_, hs.cong, this⟩
def run (l : List Op) : List O := l.foldl doM []
theorem run_len : ∀ (l : List Op) (m : List O), (l.foldl doM m).length ≤ m.length + l.length
  | [], m => by simp
  | x :: l, m => by
    have h1 := run_len l (doM m x)
    have h2 := doM_len m x
    simp only [List.foldl_cons, List.length_cons]; omega
theorem opq_at {l : List Op} {i : Nat} (h : i < l.length) : ((flat opq l).drop (i * 9)).take 9 = opq l[i] := by
  rw [flat_drop (enc := opq) (fun _ => rfl) l i h]; rfl
theorem opq_flat_len (L : List Op) : (flat opq L).length = L.length * 9 := flat_len (enc := opq) (fun _ => rfl) L
theorem upo_upo {H : AH} {b : Nat} {m m' : List O} {st st' : List Nat} {cl cl' : Nat} : upo (upo H b m st cl) b m' st' cl' = upo H b m' st' cl' := upd_upd
theorem c13 {H : AH} {K : AV → AH → Prop} (l : List Op) (hl : l.length ≤ 60)
    (hk : ∀ p b st cl H', Sub H H' → H b = none → LS H' p b (run l) st cl → K (pA p) H') : @AC Try.prog 13 [.vs l.length false (flat opq l)] H ⟨K⟩ := by
  refine AC_of ?_
  refine call_c follows cf13_ok (by simp) ?_
  simp
  refine c27 fun p b hp hb hg => ?_
  have hS : Sub H (upd (upd H b (.map [] [] 0)) p (.cells [vb true, .pl (.map (some b))])) := ((Sub.refl H).upd hb).upd hp
  generalize upd (upd H b (.map [] [] 0)) p (.cells [vb true, .pl (.map (some b))]) = H1 at hg hS ⊢
  simp
  refine wpc_loop (fun s => ∃ (i : Nat) (st : List Nat) (cl : Nat), s.n = 21 ∧ s.t 0 = .vs l.length false (flat opq l) ∧ s.t 3 = pA p ∧ s.t 4 = vi i ∧ i ≤ l.length ∧ LS (upo H1 b (run (l.take i)) st cl) p b (run (l.take i)) st cl ∧ s.H = upo H1 b (run (l.take i)) st cl) (fun s => l.length - slotN (s.t 4)) ?_ ?_
  · have e : upo H1 b (run (l.take 0)) [] 0 = H1 := hg.self
    exact FgK.same ⟨0, [], 0, by simp, by simp, by simp, by simp, by omega, by rw [e]; exact hg, by rw [e]⟩
  rintro s ⟨i, st, cl, hn, e0, e3, e4, hi, hG, hH⟩
  have w := IntWalk.i64_in ((i : Int) + 1) (by omega)
  by_cases hlt : i < l.length
  · have hd := opq_at hlt
    have hsp := take_snoc hlt
    have hbd : i * 9 + 9 ≤ (flat opq l).length := by rw [opq_flat_len]; omega
    generalize l[i] = x at hd hsp
    have hR : run (l.take (i + 1)) = doM (run (l.take i)) x := by rw [hsp, run, List.foldl_append]; rfl
    generalize run (l.take i) = m at *
    simp (disch := omega) [hn, e0, e3, e4, hlt, hd, hbd]
    rw [hH]
    refine c17 x hG fun st' cl' g => ?_
    rw [upo_upo, ← hR] at g
    rw [upo_upo, ← hR]
    simp (disch := omega) [hn, e0, e3, e4, w]
    exact FgK.same ⟨⟨i + 1, st', cl', by simp [hn], by simp [e0], by simp [e3], by simp, by omega, g, by simp⟩, by simp [e4]; omega⟩
  · rw [List.take_of_length_le (by omega)] at hG hH
    have := hk p b st cl (upo H1 b (run l) st cl) (hS.upd hb) hb hG
    simp (disch := omega) [hn, e0, e3, e4, hlt, hH]
    exact this
end Go.Proofs.Ytidcajmbkbamcaa
