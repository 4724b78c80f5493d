/-
  The roles of surfaces: what the program's methods do to a map of entries. Conditions: as each lemma states them.
-/
import Derived.Test.YtnlckmkjhpaloaaAbM
import Derived.Test.YtnlckmkjhpaloaaAbS
import Derived.Test.YtnlckmkjhpaloaaCf
namespace Go.Proofs.Ytnlckmkjhpaloaa
open Go Go.Ab Go.RowKit
set_option linter.unusedSimpArgs false
set_option linter.unusedVariables false
set_option linter.unnecessarySimpa false

attribute [local simp] condK_true condK_false condK_not wpc_skip wpc_ret wpc_exit wpc_seq wpc_reg wpc_regD testA_bool wpc_cond wpc_block thenA_normal thenA_ret thenA_exit blockA_normal blockA_ret blockA_exit blockA_other endA_normal endA_ret ev_tmp' ev_const ev_func ev_global cv_int cv_bool cv_string cv_pointer cv_slice cv_agg put_some put_none wH_s setE_apply setE_env less_eq env_cons env_nil upd_upd upd_apply del_apply startA_eq cells_ag cells_sl one_sl cells_vs one_vs cells_ep one_ep cells_fn one_fn cells_int one_int cells_bool one_bool cells_string one_string cells_pointer one_pointer cells_slice one_slice cells_map one_map cells_agg resK_one resK_nil resK_two rvK_t rvK_c rvsK_nil rvsK_cons iseq_nil iseq_cons gdA_true gdA_false gdA_undef istep_free istep_guard istepV_free istepV_guard dseq_nil dseq_pu dseq_rd dseq_ef chkAll_nil chkAll_cons andK_true pickK_true pickK_false pickK_tb pickK_fb bin2K_pl eqbK_eq eqbK_ne eqpK_eq eqpK_ne un1K_pl convK_int fillK_some fillA_cons fillA_nil cellsK_some needK_true needK_ok seeK_ep seeK_ptr oneK_agg oneK_one nilcK_ptr nilcK_ep fadrK_ptr fadrK_ep fldK_ag iadAK_ptr iadAK_ep iadSK_sl iadSK_vs extK_0 extK_1 extK_2 extK_3 lenK_pl lenK_sl lenK_vs lensK_pl boxK_some minmax1K_int storeK_ptr callvK_fn callvK_pl newsK_nil newsK_vs newsK_sl appK_nil appK_nil0 appK_sl appK_vs bnd1K_int bndK_none bndK_some slsK_vs slsK_nil slsK_sl0 slsK_sl slstrK_pl boolK_some eqsK_ag iop_eqs iop_sls iop_slstr seesK_some seesK_ro mapsK_some MAP_some findK_some findK_none plK_pl nmapK_none nmapK_some iop_mlook iop_mlen iop_mmk iop_mupd iop_mdel iop_mrng itK_none itK_some ptr0K_ptr iop_mnxt iop_ment it1K_some entK_some iop_mov iop_pick iop_bin iop_eqb iop_eqp iop_un iop_conv iop_build iop_load iop_nilc iop_fadr iop_fld iop_iadA iop_iadS iop_ext iop_mkf iop_len iop_lens iop_minmax iop_al iop_box iop_bsl iop_store iop_call iop_callv iop_app BIN_add BIN_sub BIN_mul BIN_and BIN_or BIN_xor BIN_andNot BIN_eql BIN_neq BIN_lss BIN_leq BIN_gtr BIN_geq BIN_quo BIN_rem BIN_shl BIN_shr BIN_sadd BIN_seql BIN_sneq BIN_slss BIN_sleq BIN_sgtr BIN_sgeq UN_neg UN_xor UN_not MM_nil MM_cons partsA argsA ptrA lessL eqL min2I slotN_int slotP_int slotI_int

theorem follows : Try.prog.follows .mixedOrders = true := by kernel_rfl
structure Ent where
  r : Int
  a : Bool
  deriving DecidableEq
def ent (r : Ent) : List AV := [vi r.r, vb r.a]
theorem ent_len (r : Ent) : (ent r).length = 2 := rfl
theorem ent_tt (r : Ent) : (ent r).take 2 = ent r := rfl
theorem ent_dd (r : Ent) : (ent r).drop 2 = [] := rfl
theorem ent_one (r : Ent) : (ent r).all AV.one = true := rfl
theorem ent_t1 (r : Ent) : (ent r).take 1 = [vi r.r] := rfl
theorem ent_d1 (r : Ent) : (ent r).tail = [vb r.a] := rfl
theorem ent_ag (c0 : Int) (c1 : Bool) : AV.ag [vi c0, vb c1] = .ag (ent ⟨c0, c1⟩) := rfl
attribute [local simp] ent_len ent_tt ent_dd ent_one ent_ag ent_t1 ent_d1
def eeq (a b : Ent) : Bool := a.r == b.r && a.a == b.a
theorem ent_eq (a b : Ent) : eqL [1, 0] (ent a) (ent b) = some (eeq a b) := by simp [ent, eqL, eeq]
theorem eeq_iff (a b : Ent) : eeq a b = true ↔ a = b := by cases a; cases b; simp [eeq]
attribute [local simp] ent_eq
abbrev Es := List (Int × Ent)
abbrev ek (x : Int × Ent) : Int := x.1
abbrev ev (x : Int × Ent) : AV := .ag (ent x.2)
def get (m : Es) (s : Int) : Ent := match m.find? (fun x => x.1 == s) with
  | some x => x.2
  | none => ⟨0, false⟩
theorem get_none {m : Es} {s : Int} (h : ∀ x ∈ m, ek x ≠ s) : get m s = ⟨0, false⟩ := by
  have : m.find? (fun x => x.1 == s) = none := by
    rw [List.find?_eq_none]; intro x hx; simpa using h x hx
  simp [get, this]
theorem get_some {m1 m2 : Es} {x : Int × Ent} {s : Int} (h : ∀ x ∈ m1, ek x ≠ s) (hx : ek x = s) : get (m1 ++ x :: m2) s = x.2 := by
  have h1 : m1.find? (fun x => x.1 == s) = none := by
    rw [List.find?_eq_none]; intro y hy; simpa using h y hy
  have h2 : (x.1 == s) = true := by simpa using hx
  simp [get, List.find?_append, h1, List.find?_cons, h2]
/-- The object, its map, the map's entries. -/
structure RS (H : AH) (p b : Nat) (m : Es) (st : List Nat) (cl : Nat) : Prop where
  ob : H p = some (.cells [vb true, .pl (.map (some b))])
  mp : H b = some (.map (mI ek ev m) st cl)
  ne : p ≠ b
  nd : (m.map ek).Nodup
  stp : Stp st cl m.length
theorem RS.new {H : AH} {p b : Nat} {m m' : Es} {st st' : List Nat} {cl cl' : Nat} (h : RS H p b m st cl) (nd : (m'.map ek).Nodup) (stp : Stp st' cl' m'.length) : RS (upd H b (.map (mI ek ev m') st' cl')) p b m' st' cl' :=
  ⟨by simp only [upd_apply, if_neg h.ne]; exact h.ob, by simp only [upd_apply, if_true], h.ne, nd, stp⟩
theorem upd_self {H : AH} {b : Nat} {o : AO} (h : H b = some o) : upd H b o = H := by
  funext j; simp only [upd_apply]; split
  · rename_i e; rw [e, h]
  · rfl
theorem RS.sub {H H' : AH} {p b : Nat} {m : Es} {st : List Nat} {cl : Nat} (h : RS H p b m st cl) (hs : Sub H H') : RS H' p b m st cl := ⟨hs _ _ h.ob, hs _ _ h.mp, h.ne, h.nd, h.stp⟩

theorem c29 {H : AH} {K : AV → AH → Prop} {p b : Nat} {m : Es} {st : List Nat} {cl : Nat} (h : RS H p b m st cl) (hk : K (vb true) H) : @AC Try.prog 29 [pA p] H ⟨K⟩ := by
  have h1 := h.ob
  refine call_c follows cf29_ok (by simp) ?_
  simp [*]
def isR (n : Int) : Bool := decide (1 ≤ n) && decide (n ≤ 5)
theorem c30 (n : Int) : PC Try.prog 30 [vi n] (vb (isR n)) := by
  refine .tell fun H => ?_
  refine call_c follows cf30_ok (by simp) ?_
  repeat' (first | simp [*] | (with_reducible (refine newK_of fun _ h_ => ?_); have hn_ := free_ne h_; (try simp only [upd_none', ne_eq] at h_)) | (with_reducible (refine condK_of (fun h_ => ?_) (fun h_ => ?_))))
  all_goals ((try with_reducible refine And.intro ?_ ?_) <;> (try (repeat' (first | with_reducible exact Sub.refl _ | with_reducible refine Sub.of_upd (by simp [*]) ?_))))
  all_goals (simp_all [isR] <;> omega)
theorem c27 {H : AH} {K : AV → AH → Prop} {p b : Nat} {m : Es} {st : List Nat} {cl : Nat} (s : Int) (h : RS H p b m st cl) (hk : K (.ag (ent (get m s))) H) : @AC Try.prog 27 [pA p, vi s] H ⟨K⟩ := by
  have h1 := h.ob
  have h2 := h.mp
  refine AC_of (.forget ?_)
  refine call_c follows cf27_ok (by simp) ?_
  rcases split_key ek s m with h3 | ⟨m1, x, m2, rfl, h3, h4⟩
  · have e := mfind_none (val := ev) m 0 h3
    have g := get_none h3
    rw [g] at hk
    repeat' (first | simp [*] | (with_reducible (refine newK_of fun _ h_ => ?_); have hn_ := free_ne h_; (try simp only [upd_none', ne_eq] at h_)) | (with_reducible (refine condK_of (fun h_ => ?_) (fun h_ => ?_))))
    exact ⟨H, by (first | exact Sub.refl _ | (repeat' (first | exact Sub.refl _ | (refine Sub.of_upd (by simp [*]) ?_)))), hk⟩
  · have e := mfind_some (val := ev) (m2 := m2) m1 0 h3 h4
    have g := get_some (m2 := m2) h3 h4
    rw [g] at hk
    repeat' (first | simp [*] | (with_reducible (refine newK_of fun _ h_ => ?_); have hn_ := free_ne h_; (try simp only [upd_none', ne_eq] at h_)) | (with_reducible (refine condK_of (fun h_ => ?_) (fun h_ => ?_))))
    exact ⟨H, by (first | exact Sub.refl _ | (repeat' (first | exact Sub.refl _ | (refine Sub.of_upd (by simp [*]) ?_)))), hk⟩
end Go.Proofs.Ytnlckmkjhpaloaa
