/-
  The grab stack: its state, and what the functions that neither cut nor grow the chain do to it. Conditions: each is stated by its lemma (the stack lies at a block of its own; the chain is shorter than 100).
-/
import Derived.Test.YtmchflhambfhkaaAbK
import Derived.Test.YtmchflhambfhkaaCf
namespace Go.Proofs.Ytmchflhambfhkaa
open Go Go.Ab Go.RowKit
set_option linter.unusedSimpArgs false
set_option linter.unusedVariables false
set_option linter.unnecessarySimpa false

theorem follows : Try.prog.follows .mixedOrders = true := by kernel_rfl

attribute [local simp] condK_true condK_false condK_not wpc_skip wpc_ret wpc_exit wpc_seq wpc_reg wpc_regD testA_bool wpc_cond wpc_block thenA_normal thenA_ret thenA_exit blockA_normal blockA_ret blockA_exit blockA_other endA_normal endA_ret ev_tmp' ev_const ev_func ev_global cv_int cv_bool cv_string cv_pointer cv_slice cv_agg put_some put_none wH_s setE_apply less_eq env_cons env_nil upd_apply del_apply startA_eq cells_ag cells_sl one_sl cells_vs one_vs cells_ep one_ep cells_fn one_fn cells_int one_int cells_bool one_bool cells_string one_string cells_pointer one_pointer cells_slice one_slice cells_map one_map cells_agg resK_one resK_nil resK_two rvK_t rvK_c rvsK_nil rvsK_cons iseq_nil iseq_cons gdA_true gdA_false gdA_undef istep_free istep_guard istepV_free istepV_guard dseq_nil dseq_pu dseq_rd dseq_ef chkAll_nil chkAll_cons andK_true pickK_true pickK_false pickK_tb pickK_fb bin2K_pl eqbK_eq eqbK_ne eqpK_eq eqpK_ne un1K_pl convK_int fillK_some fillA_cons fillA_nil cellsK_some needK_true needK_ok seeK_ep seeK_ptr oneK_agg oneK_one nilcK_ptr nilcK_ep fadrK_ptr fadrK_ep fldK_ag iadAK_ptr iadAK_ep iadSK_sl iadSK_vs extK_0 extK_1 extK_2 extK_3 lenK_pl lenK_sl lenK_vs lensK_pl boxK_some minmax1K_int storeK_ptr callvK_fn callvK_pl newsK_nil newsK_vs newsK_sl appK_nil appK_nil0 appK_sl appK_vs bnd1K_int bndK_none bndK_some slsK_vs slsK_nil slsK_sl0 slsK_sl slstrK_pl boolK_some eqsK_ag iop_eqs iop_sls iop_slstr iop_mov iop_pick iop_bin iop_eqb iop_eqp iop_un iop_conv iop_build iop_load iop_nilc iop_fadr iop_fld iop_iadA iop_iadS iop_ext iop_mkf iop_len iop_lens iop_minmax iop_al iop_box iop_bsl iop_store iop_call iop_callv iop_app BIN_add BIN_sub BIN_mul BIN_and BIN_or BIN_xor BIN_andNot BIN_eql BIN_neq BIN_lss BIN_leq BIN_gtr BIN_geq BIN_quo BIN_rem BIN_shl BIN_shr BIN_sadd BIN_seql BIN_sneq BIN_slss BIN_sleq BIN_sgtr BIN_sgeq UN_neg UN_xor UN_not MM_nil MM_cons partsA argsA ptrA lessL eqL min2I

abbrev vi (n : Int) : AV := .pl (.int .i64 n)
abbrev vb (b : Bool) : AV := .pl (.bool b)

def slotN (a : AV) : Nat := match a with
  | .pl (.int _ n) => n.toNat
  | _ => 0
@[local simp] theorem slotN_int {k : IntKind} {n : Int} : slotN (.pl (.int k n)) = n.toNat := rfl

/-- The stack's fields. -/
structure M where
  b0 : Int
  b1 : Int
  d0 : Int
  d1 : Int
  owner : Int
  ch : List Int

/-- The index of a popup. -/
def fnd (x : Int) : List Int → Nat → Int
  | [], _ => -1
  | y :: l, i => if y = x then i else fnd x l (i + 1)

/-- A live row of numbers. -/
def Row (H : AH) (l : List Int) (a : AV) (F : Nat → Prop) : Prop :=
  (l = [] ∧ a = .pl (.slice none 0 0)) ∨ ∃ k x rest, a = .sl k 0 l.length 1 x ∧ H k = some (.cells (l.map vi ++ rest)) ∧ F k

def cellsOf (m : M) (a : AV) : List AV := [vb true, vi m.b0, vi m.b1, vi m.d0, vi m.d1, vi m.owner, a]

/-- The stack at block i, its chain apart. -/
def St (H : AH) (F : Nat → Prop) (i : Nat) (m : M) : Prop :=
  ∃ a, H i = some (.cells (cellsOf m a)) ∧ F i ∧ Row H m.ch a (fun k => F k ∧ k ≠ i) ∧ ∀ j, F j → H j ≠ none

theorem c35 {H : AH} {F : Nat → Prop} {i : Nat} {m : M} (h : St H F i m) {K : AV → AH → Prop} (hk : K (vb true) H) : ACall Try.prog 35 [ptrA i] H K := by
  obtain ⟨a, h1, -, -, -⟩ := h
  refine call_c follows cf35_ok (by simp) ?_
  simp [h1, cellsOf]
  exact hk

theorem c35n {H : AH} {K : AV → AH → Prop} (hk : K (vb false) H) : ACall Try.prog 35 [.pl (.pointer none)] H K := by
  refine call_c follows cf35_ok (by simp) ?_
  simp
  exact hk

theorem Row.len {H : AH} {l : List Int} {a : AV} {F : Nat → Prop} (h : Row H l a F) {k : AV → Prop} (hk : k (vi l.length)) : @lenK a ⟨k⟩ := by
  rcases h with ⟨rfl, rfl⟩ | ⟨_, _, _, rfl, _, _⟩ <;> exact hk

theorem Row.at {H : AH} {l : List Int} {a : AV} {F : Nat → Prop} (h : Row H l a F) {i : Nat} (hi : i < l.length) :
    ∃ b x rest, a = .sl b 0 l.length 1 x ∧ H b = some (.cells (l.map vi ++ rest)) := by
  rcases h with ⟨rfl, rfl⟩ | ⟨b, x, rest, h1, h2, _⟩
  · simp at hi
  · exact ⟨b, x, rest, h1, h2⟩

theorem cell_of {l : List Int} {rest : List AV} {i : Nat} (hi : i < l.length) : List.take 1 (List.drop i (l.map vi ++ rest)) = [vi l[i]] := by
  rw [List.drop_append_of_le_length (by simp; omega)]
  rw [List.drop_eq_getElem_cons (by simpa using hi)]
  simp

theorem fnd_step {x : Int} {l : List Int} {i : Nat} (hi : i < l.length) : fnd x (l.drop i) i = if l[i] = x then (i : Int) else fnd x (l.drop (i + 1)) (i + 1) := by
  rw [List.drop_eq_getElem_cons hi]
  simp [fnd]

theorem c36 {H : AH} {F : Nat → Prop} {i : Nat} {m : M} (h : St H F i m) (x : Int) (hl : m.ch.length < 100) {K : AV → AH → Prop} (hk : K (vi (fnd x m.ch 0)) H) : ACall Try.prog 36 [ptrA i, vi x] H K := by
  obtain ⟨a, h1, -, h2, -⟩ := h
  refine call_c follows cf36_ok (by simp) ?_
  simp [h1, cellsOf]
  refine h2.len ?_
  refine wpc_loop (fun s => ∃ j : Nat, s.n = 24 ∧ s.H = H ∧ s.t 1 = vi x ∧ s.t 5 = vi (-1) ∧ s.t 11 = a ∧ s.t 12 = vi m.ch.length ∧ s.t 13 = vi j ∧ j ≤ m.ch.length ∧ fnd x (m.ch.drop j) j = fnd x m.ch 0)
    (fun s => m.ch.length - slotN (s.t 13)) ?_ ?_
  · refine ⟨0, ?_⟩
    simp
  rintro s ⟨j, hn, hH, e1, e5, e11, e12, e13, hj, hf⟩
  simp [*]
  refine condK_of (fun hc => ?_) (fun hc => ?_)
  · simp at hc
    obtain ⟨b, xx, rest, rfl, hb⟩ := h2.at hc
    rw [fnd_step hc] at hf
    simp (disch := omega) [*, cell_of]
    refine condK_of (fun hd => ?_) (fun hd => ?_)
    · simp at hd
      rw [if_pos hd] at hf
      rw [← hf] at hk
      simpa using hk
    · simp at hd
      rw [if_neg hd] at hf
      simp (disch := omega) [*, IntWalk.i64_in]
      refine ⟨Hid.of ⟨j + 1, ?_⟩, by omega⟩
      simp [*]
      omega
  · simp at hc
    have : j = m.ch.length := by omega
    subst this
    simp [fnd] at hf
    simpa [*] using hk

/-- What a step may change: what it owns; what it owns behind: that, or new. -/
def Stp (F : Nat → Prop) (H : AH) (F' : Nat → Prop) (H' : AH) : Prop := (∀ j, F' j → F j ∨ H j = none) ∧ ∀ j, ¬ F j → H j ≠ none → H' j = H j

theorem Stp.refl (F : Nat → Prop) (H : AH) : Stp F H F H := ⟨fun _ h => .inl h, fun _ _ _ => rfl⟩
theorem Stp.trans {F F1 F2 : Nat → Prop} {H H1 H2 : AH} (h : Stp F H F1 H1) (k : Stp F1 H1 F2 H2) : Stp F H F2 H2 := by
  have ne : ∀ j, ¬ F j → H j ≠ none → ¬ F1 j := fun j hf hn h1 => (h.1 j h1).elim hf hn
  refine ⟨fun j hj => ?_, fun j hf hn => ?_⟩
  · rcases k.1 j hj with h1 | h1
    · exact h.1 j h1
    · by_cases hf : F j
      · exact .inl hf
      · by_cases hn : H j = none
        · exact .inr hn
        · have := h.2 j hf hn
          rw [h1] at this
          exact absurd this.symm hn
  · rw [k.2 j (ne j hf hn) (by rw [h.2 j hf hn]; exact hn), h.2 j hf hn]
/-- What is not touched stays. -/
theorem St.keep {G : Nat → Prop} {H H' : AH} {i : Nat} {m : M} (h : St H G i m) (hs : ∀ j, G j → H' j = H j) : St H' G i m := by
  obtain ⟨a, h1, h2, h3, h4⟩ := h
  refine ⟨a, by rw [hs i h2, h1], h2, ?_, fun j hj => by rw [hs j hj]; exact h4 j hj⟩
  rcases h3 with h3 | ⟨k, x, rest, e, h5, h6⟩
  · exact .inl h3
  · exact .inr ⟨k, x, rest, e, by rw [hs k h6.1, h5], h6⟩
theorem St.own {G : Nat → Prop} {H : AH} {i : Nat} {m : M} (h : St H G i m) : ∀ j, G j → H j ≠ none := h.choose_spec.2.2.2
/-- What another owns stays. -/
theorem St.apart {F G F' : Nat → Prop} {H H' : AH} {i : Nat} {m : M} (h : St H G i m) (hs : Stp F H F' H') (ha : ∀ j, G j → ¬ F j) : St H' G i m :=
  h.keep fun j hj => hs.2 j (ha j hj) (h.own j hj)
theorem Stp.upd {F : Nat → Prop} {H : AH} {i : Nat} {o : AO} (h : F i) : Stp F H F (upd H i o) :=
  ⟨fun _ h => .inl h, fun j hj _ => by simp only [upd_apply]; rw [if_neg (by rintro rfl; exact hj h)]⟩
theorem Row.upd {H : AH} {l : List Int} {a : AV} {F : Nat → Prop} {i : Nat} {o : AO} (h : Row H l a fun k => F k ∧ k ≠ i) : Row (upd H i o) l a fun k => F k ∧ k ≠ i := by
  rcases h with h | ⟨b, x, rest, h1, h2, h3⟩
  · exact .inl h
  · exact .inr ⟨b, x, rest, h1, by simp only [upd_apply]; rw [if_neg h3.2, h2], h3⟩

theorem St.set {H : AH} {F : Nat → Prop} {i : Nat} {m m' : M} {a : AV} (h2 : F i) (h3 : Row H m.ch a fun k => F k ∧ k ≠ i) (h4 : ∀ j, F j → H j ≠ none) {cs : List AV} (hc : m'.ch = m.ch) (hcs : cs = cellsOf m' a) :
    St (upd H i (.cells cs)) F i m' := by
  subst hcs
  refine ⟨a, by simp, h2, ?_, fun j hj => ?_⟩
  · rw [hc]; exact h3.upd
  · simp only [upd_apply]
    split
    · simp
    · exact h4 j hj
def Post (H : AH) (F : Nat → Prop) (i : Nat) (m : M) (r : AH → Prop) : Prop := ∀ H' F', St H' F' i m → Stp F H F' H' → r H'

theorem c11 {H : AH} {K : AV → AH → Prop} (hk : ∀ i, H i = none → ∀ H', St H' (fun j => j = i) i ⟨0, 0, 0, 0, 0, []⟩ → Stp (fun _ => False) H (fun j => j = i) H' → K (ptrA i) H') : ACall Try.prog 11 [] H K := by
  refine call_c follows cf11_ok (by simp) ?_
  simp
  intro i hi
  simp
  refine hk i hi _ ⟨.pl (.slice none 0 0), by simp [cellsOf], rfl, .inl ⟨rfl, rfl⟩, fun j hj => by rw [hj]; simp⟩ ⟨fun j hj => .inr (by rw [hj]; exact hi), fun j _ hn => ?_⟩
  simp only [upd_apply]
  rw [if_neg]
  rintro rfl
  exact hn hi

def implM (m : M) (c s : Int) : M × Int := if c < 1 ∨ s < 1 then (m, 6) else if m.b0 ≠ 0 then (m, 14) else ({ m with b0 := c, b1 := s }, 0)
theorem c26 {H : AH} {F : Nat → Prop} {i : Nat} {m : M} (h : St H F i m) (c s : Int) {K : AV → AH → Prop} (hk : Post H F i (implM m c s).1 (K (vi (implM m c s).2))) :
    ACall Try.prog 26 [ptrA i, vi c, vi s] H K := by
  refine call_c follows cf26_ok (by simp) ?_
  simp
  refine c35 h ?_
  have h0 := h
  obtain ⟨a, h1, h2, h3, h4⟩ := h
  unfold implM at hk
  by_cases e1 : c < 1
  · simp [*] at hk ⊢
    exact hk _ _ h0 (.refl _ _)
  by_cases e2 : s < 1
  · simp [*] at hk ⊢
    exact hk _ _ h0 (.refl _ _)
  by_cases e3 : m.b0 = 0
  · simp [*, cellsOf] at hk ⊢
    exact hk _ F (St.set h2 h3 h4 (by rfl) (by rfl)) (Stp.upd h2)
  · simp [*, cellsOf] at hk ⊢
    exact hk _ _ h0 (.refl _ _)

def releaseM (m : M) : M × Int × Bool := if m.b0 = 0 then (m, 0, false) else ({ m with b0 := 0, b1 := 0 }, m.b1, true)
theorem c25 {H : AH} {F : Nat → Prop} {i : Nat} {m : M} (h : St H F i m) {K : AV → AH → Prop} (hk : Post H F i (releaseM m).1 (K (.tp [vi (releaseM m).2.1, vb (releaseM m).2.2]))) :
    ACall Try.prog 25 [ptrA i] H K := by
  refine call_c follows cf25_ok (by simp) ?_
  simp
  refine c35 h ?_
  have h0 := h
  obtain ⟨a, h1, h2, h3, h4⟩ := h
  unfold releaseM at hk
  by_cases e3 : m.b0 = 0
  · simp [*, cellsOf] at hk ⊢
    exact hk _ _ h0 (.refl _ _)
  · simp [*, cellsOf] at hk ⊢
    exact hk _ F (St.set h2 h3 h4 (by rfl) (by rfl)) (Stp.upd h2)

def dragM (m : M) (c s : Int) : M × Int := if c < 1 ∨ s < 0 then (m, 6) else if m.d0 ≠ 0 then (m, 14) else ({ m with d0 := c, d1 := s }, 0)
theorem c27 {H : AH} {F : Nat → Prop} {i : Nat} {m : M} (h : St H F i m) (c s : Int) {K : AV → AH → Prop} (hk : Post H F i (dragM m c s).1 (K (vi (dragM m c s).2))) :
    ACall Try.prog 27 [ptrA i, vi c, vi s] H K := by
  refine call_c follows cf27_ok (by simp) ?_
  simp
  refine c35 h ?_
  have h0 := h
  obtain ⟨a, h1, h2, h3, h4⟩ := h
  unfold dragM at hk
  by_cases e1 : c < 1
  · simp [*] at hk ⊢
    exact hk _ _ h0 (.refl _ _)
  by_cases e2 : s < 0
  · simp [*] at hk ⊢
    exact hk _ _ h0 (.refl _ _)
  by_cases e3 : m.d0 = 0
  · simp [*, cellsOf] at hk ⊢
    exact hk _ F (St.set h2 h3 h4 (by rfl) (by rfl)) (Stp.upd h2)
  · simp [*, cellsOf] at hk ⊢
    exact hk _ _ h0 (.refl _ _)

def endM (m : M) : M × Bool := if m.d0 = 0 then (m, false) else ({ m with d0 := 0, d1 := 0 }, true)
theorem c24 {H : AH} {F : Nat → Prop} {i : Nat} {m : M} (h : St H F i m) {K : AV → AH → Prop} (hk : Post H F i (endM m).1 (K (vb (endM m).2))) :
    ACall Try.prog 24 [ptrA i] H K := by
  refine call_c follows cf24_ok (by simp) ?_
  simp
  refine c35 h ?_
  have h0 := h
  obtain ⟨a, h1, h2, h3, h4⟩ := h
  unfold endM at hk
  by_cases e3 : m.d0 = 0
  · simp [*, cellsOf] at hk ⊢
    exact hk _ _ h0 (.refl _ _)
  · simp [*, cellsOf] at hk ⊢
    exact hk _ F (St.set h2 h3 h4 (by rfl) (by rfl)) (Stp.upd h2)

def topM (m : M) : Int × Int × Int := if m.d0 ≠ 0 then (3, m.d0, m.d1) else if m.b0 ≠ 0 then (1, m.b0, m.b1) else if m.ch.length = 0 then (0, 0, 0) else (2, m.owner, m.ch.getD (m.ch.length - 1) 0)
theorem c16 {H : AH} {F : Nat → Prop} {i : Nat} {m : M} (h : St H F i m) (hl : m.ch.length < 100) {K : AV → AH → Prop} (hk : K (.tp [vi (topM m).1, vi (topM m).2.1, vi (topM m).2.2]) H) :
    ACall Try.prog 16 [ptrA i] H K := by
  refine call_c follows cf16_ok (by simp) ?_
  simp
  refine c35 h ?_
  obtain ⟨a, h1, h2, h3, h4⟩ := h
  unfold topM at hk
  by_cases e3 : m.d0 = 0
  · by_cases e4 : m.b0 = 0
    · simp [*, cellsOf] at hk ⊢
      refine h3.len ?_
      by_cases e5 : m.ch = []
      · simp [*] at hk ⊢
        exact hk
      · have e6 : 0 < m.ch.length := List.length_pos_iff.2 e5
        obtain ⟨b, x, rest, rfl, hb⟩ := h3.at e6
        have e7 : ((m.ch.length : Int) - 1).toNat = m.ch.length - 1 := by omega
        have e8 : m.ch[m.ch.length - 1]?.getD 0 = m.ch[m.ch.length - 1] := by rw [List.getElem?_eq_getElem (show m.ch.length - 1 < m.ch.length by omega)]; rfl
        simp (disch := omega) [*, cellsOf, IntWalk.i64_in, cell_of] at hk ⊢
        exact hk
    · simp [*, cellsOf] at hk ⊢
      exact hk
  · simp [*, cellsOf] at hk ⊢
    exact hk

/-! ### A nil stack -/
theorem c26n {H : AH} (c s : Int) {K : AV → AH → Prop} (hk : K (vi 1) H) : ACall Try.prog 26 [.pl (.pointer none), vi c, vi s] H K := by
  refine call_c follows cf26_ok (by simp) ?_
  simp
  refine c35n ?_
  simp
  exact hk
theorem c27n {H : AH} (c s : Int) {K : AV → AH → Prop} (hk : K (vi 1) H) : ACall Try.prog 27 [.pl (.pointer none), vi c, vi s] H K := by
  refine call_c follows cf27_ok (by simp) ?_
  simp
  refine c35n ?_
  simp
  exact hk
theorem c21n {H : AH} (c s p : Int) {K : AV → AH → Prop} (hk : K (vi 1) H) : ACall Try.prog 21 [.pl (.pointer none), vi c, vi s, vi p] H K := by
  refine call_c follows cf21_ok (by simp) ?_
  simp
  refine c35n ?_
  simp
  exact hk
theorem c25n {H : AH} {K : AV → AH → Prop} (hk : K (.tp [vi 0, vb false]) H) : ACall Try.prog 25 [.pl (.pointer none)] H K := by
  refine call_c follows cf25_ok (by simp) ?_
  simp
  refine c35n ?_
  simp
  exact hk
theorem c24n {H : AH} {K : AV → AH → Prop} (hk : K (vb false) H) : ACall Try.prog 24 [.pl (.pointer none)] H K := by
  refine call_c follows cf24_ok (by simp) ?_
  simp
  refine c35n ?_
  simp
  exact hk
theorem c16n {H : AH} {K : AV → AH → Prop} (hk : K (.tp [vi 0, vi 0, vi 0]) H) : ACall Try.prog 16 [.pl (.pointer none)] H K := by
  refine call_c follows cf16_ok (by simp) ?_
  simp
  refine c35n ?_
  simp
  exact hk
theorem c18n {H : AH} (c : Int) {K : AV → AH → Prop} (hk : K (vb false) H) : ACall Try.prog 18 [.pl (.pointer none), vi c] H K := by
  refine call_c follows cf18_ok (by simp) ?_
  simp
  refine c35n ?_
  simp
  exact hk
theorem c22n {H : AH} (c s : Int) {K : AV → AH → Prop} (hk : K (.pl (.slice none 0 0)) H) : ACall Try.prog 22 [.pl (.pointer none), vi c, vi s] H K := by
  refine call_c follows cf22_ok (by simp) ?_
  simp
  refine c35n ?_
  simp
  exact hk
theorem c23n {H : AH} (s : Int) {K : AV → AH → Prop} (hk : K (.pl (.slice none 0 0)) H) : ACall Try.prog 23 [.pl (.pointer none), vi s] H K := by
  refine call_c follows cf23_ok (by simp) ?_
  simp
  refine c35n ?_
  simp
  exact hk

def allowsM (m : M) (c : Int) : Bool := if c < 1 then false else (topM m).1 ≠ 3 && ((topM m).1 = 0 || (topM m).2.1 = c)
theorem c18 {H : AH} {F : Nat → Prop} {i : Nat} {m : M} (h : St H F i m) (hl : m.ch.length < 100) (c : Int) {K : AV → AH → Prop} (hk : K (vb (allowsM m c)) H) :
    ACall Try.prog 18 [ptrA i, vi c] H K := by
  refine call_c follows cf18_ok (by simp) ?_
  simp
  refine c35 h ?_
  unfold allowsM at hk
  by_cases e1 : c < 1
  · simp [*] at hk ⊢
    exact hk
  · simp [*] at hk ⊢
    refine c16 h hl ?_
    by_cases e2 : (topM m).1 = 3
    · simp [*] at hk ⊢
      exact hk
    · by_cases e3 : (topM m).1 = 0
      · simp [*] at hk ⊢
        exact hk
      · simp [*] at hk ⊢
        exact hk
end Go.Proofs.Ytmchflhambfhkaa
