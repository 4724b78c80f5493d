/-
  Transforms of points and rectangles. Conditions: as each lemma states them.
-/
import Derived.Test.YtohedpgoioemnaaDoorR1
namespace Go.Proofs.YtohedpgoioemnaaDoor
open Go Go.Ab Go.RowKit
set_option linter.unusedSimpArgs false
set_option linter.unusedVariables false
set_option linter.unnecessarySimpa false

attribute [local simp] condK_true condK_false condK_not wpc_skip wpc_ret wpc_exit wpc_seq wpc_reg wpc_regD testA_bool wpc_cond wpc_block thenA_normal thenA_ret thenA_exit blockA_normal blockA_ret blockA_exit blockA_other endA_normal endA_ret ev_tmp' ev_const ev_func ev_global cv_int cv_bool cv_string cv_pointer cv_slice cv_agg put_some put_none wH_s setE_apply setE_env less_eq env_cons env_nil upd_upd upd_apply del_apply startA_eq cells_ag cells_sl one_sl cells_vs one_vs cells_ep one_ep cells_fn one_fn cells_int one_int cells_bool one_bool cells_string one_string cells_pointer one_pointer cells_slice one_slice cells_map one_map cells_agg resK_one resK_nil resK_two rvK_t rvK_c rvsK_nil rvsK_cons iseq_nil iseq_cons gdA_true gdA_false gdA_undef istep_free istep_guard istepV_free istepV_guard dseq_nil dseq_pu dseq_rd dseq_ef chkAll_nil chkAll_cons andK_true pickK_true pickK_false pickK_tb pickK_fb bin2K_pl eqbK_eq eqbK_ne eqpK_eq eqpK_ne un1K_pl convK_int fillK_some fillA_cons fillA_nil cellsK_some needK_true needK_ok seeK_ep seeK_ptr oneK_agg oneK_one nilcK_ptr nilcK_ep fadrK_ptr fadrK_ep fldK_ag iadAK_ptr iadAK_ep iadSK_sl iadSK_vs extK_0 extK_1 extK_2 extK_3 lenK_pl lenK_sl lenK_vs lensK_pl boxK_some minmax1K_int storeK_ptr callvK_fn callvK_pl newsK_nil newsK_vs newsK_sl appK_nil appK_nil0 appK_sl appK_vs bnd1K_int bndK_none bndK_some slsK_vs slsK_nil slsK_sl0 slsK_sl slstrK_pl boolK_some eqsK_ag iop_eqs iop_sls iop_slstr seesK_some seesK_ro mapsK_some MAP_some findK_some findK_none plK_pl nmapK_none nmapK_some iop_mlook iop_mlen iop_mmk iop_mupd iop_mdel iop_mrng itK_none itK_some ptr0K_ptr iop_mnxt iop_ment it1K_some entK_some iop_mov iop_pick iop_bin iop_eqb iop_eqp iop_un iop_conv iop_build iop_load iop_nilc iop_fadr iop_fld iop_iadA iop_iadS iop_ext iop_mkf iop_len iop_lens iop_minmax iop_al iop_box iop_bsl iop_store iop_call iop_callv iop_app BIN_add BIN_sub BIN_mul BIN_and BIN_or BIN_xor BIN_andNot BIN_eql BIN_neq BIN_lss BIN_leq BIN_gtr BIN_geq BIN_quo BIN_rem BIN_shl BIN_shr BIN_sadd BIN_seql BIN_sneq BIN_slss BIN_sleq BIN_sgtr BIN_sgeq UN_neg UN_xor UN_not MM_nil MM_cons partsA argsA ptrA lessL eqL min2I slotN_int slotP_int slotI_int
attribute [local simp] rc_len rc_t4 rc_t1 rc_t2 rc_t3 rc_d1 rc_d2 rc_d3 rc_d4 rc_ag rc_one rc_eq min2_t min2_f

structure Pt where
  x : Int
  y : Int
def pc (p : Pt) : List AV := [vi p.x, vi p.y]
theorem pc_len (r : Pt) : (pc r).length = 2 := rfl
theorem pc_t2 (r : Pt) : (pc r).take 2 = pc r := rfl
theorem pc_t1 (r : Pt) : (pc r).take 1 = [vi r.x] := rfl
theorem pc_d1 (r : Pt) : (pc r).tail = [vi r.y] := rfl
theorem pc_d2 (r : Pt) : (pc r).drop 2 = [] := rfl
theorem pc_ag (a b : Int) : AV.ag [vi a, vi b] = .ag (pc ⟨a, b⟩) := rfl
theorem pc_one (r : Pt) : (pc r).all AV.one = true := rfl
theorem pc_inj (a b : Pt) : pc a = pc b ↔ a = b := by cases a; cases b; simp [pc]
attribute [local simp] pc_len pc_t1 pc_t2 pc_d1 pc_d2 pc_ag pc_one

def inb (w h : Int) : Bool := decide (1 ≤ w) && decide (w ≤ 16384) && decide (1 ≤ h) && decide (h ≤ 16384)
theorem c29 (w h : Int) : PC Tryd.prog 29 [vi w, vi h] (vb (inb w h)) := by
  refine .tell fun H => ?_
  refine call_c follows cf29_ok (by simp) ?_
  repeat' (first | simp [*] | (with_reducible (refine newK_of fun _ h_ => ?_); have hn_ := free_ne h_; (try simp only [upd_none', ne_eq] at h_)) | (with_reducible (refine condK_of (fun h_ => ?_) (fun h_ => ?_))))
  all_goals ((try with_reducible refine And.intro ?_ ?_) <;> (try (repeat' (first | with_reducible exact Sub.refl _ | with_reducible refine Sub.of_upd (by simp [*]) ?_))))
  all_goals (simp_all [inb] <;> omega)

def tapF (t w : Int) (p : Pt) : Pt := if 4 ≤ t then ⟨w - 1 - p.x, p.y⟩ else p
def tap (t w h : Int) (p : Pt) : Pt :=
  if t % 4 = 1 then ⟨(tapF t w p).y, w - 1 - (tapF t w p).x⟩ else if t % 4 = 2 then ⟨w - 1 - (tapF t w p).x, h - 1 - (tapF t w p).y⟩
  else if t % 4 = 3 then ⟨h - 1 - (tapF t w p).y, (tapF t w p).x⟩ else tapF t w p
def small (n : Int) : Prop := -40000 ≤ n ∧ n ≤ 40000
theorem c30 (t w h : Int) (p : Pt) (ht : 0 ≤ t ∧ t ≤ 7) (hw : small w) (hh : small h) (hx : small p.x) (hy : small p.y) :
    PC Tryd.prog 30 [vi t, vi w, vi h, .ag (pc p)] (.ag (pc (tap t w h p))) := by
  unfold small at *
  have hm : t.tmod 4 = t % 4 := Int.tmod_eq_emod_of_nonneg (by omega)
  refine .tell fun H => ?_
  refine call_c follows cf30_ok (by simp) ?_
  by_cases h4 : 4 ≤ t
  · have hf : tapF t w p = ⟨w - 1 - p.x, p.y⟩ := if_pos h4
    repeat' (first | simp [hm, h4, *] | simp (disch := omega) [hm, h4, IntWalk.i64_in, *] | (with_reducible (refine newK_of fun _ h_ => ?_); have hn_ := free_ne h_; (try simp only [upd_none', ne_eq] at h_)) | (with_reducible (refine condK_of (fun h_ => ?_) (fun h_ => ?_))))
    all_goals ((try with_reducible refine And.intro ?_ ?_) <;> (try (repeat' (first | with_reducible exact Sub.refl _ | with_reducible refine Sub.of_upd (by simp [*]) ?_))))
    all_goals (simp only [hm] at *; simp_all [tap, pc] <;> omega)
  · have hf : tapF t w p = p := if_neg h4
    repeat' (first | simp [hm, h4, *] | simp (disch := omega) [hm, h4, IntWalk.i64_in, *] | (with_reducible (refine newK_of fun _ h_ => ?_); have hn_ := free_ne h_; (try simp only [upd_none', ne_eq] at h_)) | (with_reducible (refine condK_of (fun h_ => ?_) (fun h_ => ?_))))
    all_goals ((try with_reducible refine And.intro ?_ ?_) <;> (try (repeat' (first | with_reducible exact Sub.refl _ | with_reducible refine Sub.of_upd (by simp [*]) ?_))))
    all_goals (simp only [hm] at *; simp_all [tap, pc] <;> omega)

def ptx (r : R) : Pt := ⟨r.x0, r.y0⟩
def pty (r : R) : Pt := ⟨r.x1 - 1, r.y1 - 1⟩
def tbox (a b : Pt) : R := ⟨min a.x b.x, min a.y b.y, max a.x b.x + 1, max a.y b.y + 1⟩
def trect (t w h : Int) (r : R) : R :=
  if inb w h then (if rempty (rcap r ⟨0, 0, w, h⟩) then ⟨0, 0, 0, 0⟩ else tbox (tap (nrm t) w h (ptx (rcap r ⟨0, 0, w, h⟩))) (tap (nrm t) w h (pty (rcap r ⟨0, 0, w, h⟩)))) else ⟨0, 0, 0, 0⟩
theorem nrm_rng (t : Int) : 0 ≤ nrm t ∧ nrm t ≤ 7 := by
  unfold nrm
  cases h : okt t with
  | true => simp [okt] at h; simp; omega
  | false => simp
theorem tap_rng (t w h : Int) (p : Pt) (hw : 0 ≤ w ∧ w ≤ 16384) (hh : 0 ≤ h ∧ h ≤ 16384) (hx : -16384 ≤ p.x ∧ p.x ≤ 16384) (hy : -16384 ≤ p.y ∧ p.y ≤ 16384) : small (tap t w h p).x ∧ small (tap t w h p).y := by
  unfold tap tapF small
  repeat' split
  all_goals (first | (simp; omega) | omega)
theorem c26 (t w h : Int) (r : R) : PC Tryd.prog 26 [vi t, vi w, vi h, .ag (rc r)] (.ag (rc (trect t w h r))) := by
  refine .tell fun H => ?_
  refine call_c follows cf26_ok (by simp) ?_
  cases hb : inb w h with
  | false =>
    repeat' (first | simp [*] | (with_reducible (refine newK_of fun _ h_ => ?_); have hn_ := free_ne h_; (try simp only [upd_none', ne_eq] at h_)) | (with_reducible (refine condK_of (fun h_ => ?_) (fun h_ => ?_))) | with_reducible (refine (c29 ..).ac ?_))
    all_goals ((try with_reducible refine And.intro ?_ ?_) <;> (try (repeat' (first | with_reducible exact Sub.refl _ | with_reducible refine Sub.of_upd (by simp [*]) ?_))))
    all_goals simp_all [trect]
  | true =>
    cases he : rempty (rcap r ⟨0, 0, w, h⟩) with
    | true =>
      repeat' (first | simp [*] | (with_reducible (refine newK_of fun _ h_ => ?_); have hn_ := free_ne h_; (try simp only [upd_none', ne_eq] at h_)) | (with_reducible (refine condK_of (fun h_ => ?_) (fun h_ => ?_))) | with_reducible (refine (c29 ..).ac ?_) | with_reducible (refine (c7 ..).ac ?_) | with_reducible (refine (c9 ..).ac ?_))
      all_goals ((try with_reducible refine And.intro ?_ ?_) <;> (try (repeat' (first | with_reducible exact Sub.refl _ | with_reducible refine Sub.of_upd (by simp [*]) ?_))))
      all_goals simp_all [trect]
    | false =>
      have hr := rempty_ok _ he
      have hn := nrm_rng t
      have hb' : (1 ≤ w ∧ w ≤ 16384) ∧ 1 ≤ h ∧ h ≤ 16384 := by simp [inb] at hb; omega
      generalize hq : rcap r ⟨0, 0, w, h⟩ = q at he hr
      have ra := tap_rng (nrm t) w h ⟨q.x0, q.y0⟩ (by omega) (by omega) (by simp; omega) (by simp; omega)
      have rb := tap_rng (nrm t) w h ⟨q.x1 - 1, q.y1 - 1⟩ (by omega) (by omega) (by simp; omega) (by simp; omega)
      unfold small at ra rb
      repeat' (first | simp [*] | simp (disch := omega) [*, IntWalk.i64_in] | (with_reducible (refine newK_of fun _ h_ => ?_); have hn_ := free_ne h_; (try simp only [upd_none', ne_eq] at h_)) | (with_reducible (refine condK_of (fun h_ => ?_) (fun h_ => ?_))) | with_reducible (refine (c29 ..).ac ?_) | with_reducible (refine (c7 ..).ac ?_) | with_reducible (refine (c9 ..).ac ?_) | with_reducible (refine (c28 ..).ac ?_) | with_reducible (refine (c30 (nrm t) w h _ (by omega) (by unfold small; omega) (by unfold small; omega) (by unfold small; simp; omega) (by unfold small; simp; omega)).ac ?_))
      all_goals ((try with_reducible refine And.intro ?_ ?_) <;> (try (repeat' (first | with_reducible exact Sub.refl _ | with_reducible refine Sub.of_upd (by simp [*]) ?_))))
      all_goals simp_all [trect, tbox, ptx, pty]
end Go.Proofs.YtohedpgoioemnaaDoor
