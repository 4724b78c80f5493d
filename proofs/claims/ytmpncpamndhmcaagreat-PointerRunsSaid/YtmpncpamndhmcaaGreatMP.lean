/-
  Several texts in one: P1; P2; P3; P20; P21; P4; P5; P6; P7; P8; P9; P10; P11; P12; P13; P14; P15; P16; P17; P18; P22; P23. Conditions: as each lemma states them.
-/
import Derived.Test.YtmpncpamndhmcaaGreatAbM
import Derived.Test.YtmpncpamndhmcaaGreatMO
import Derived.Test.YtmpncpamndhmcaaGreatAbN
import Derived.Test.YtmpncpamndhmcaaGreatAbO
open Go Go.Ab Go.RowKit
set_option linter.unusedSimpArgs false
set_option linter.unusedVariables false
set_option linter.unnecessarySimpa false
attribute [local simp] condK_true condK_false condK_not wpc_skip wpc_ret wpc_exit wpc_seq wpc_reg wpc_regD testA_bool wpc_cond wpc_block thenA_normal thenA_ret thenA_exit blockA_normal blockA_ret blockA_exit blockA_other endA_normal endA_ret ev_tmp' ev_const ev_func ev_global cv_int cv_bool cv_string cv_pointer cv_slice cv_agg cv_map put_some put_none wH_s setE_apply setE_env less_eq env_cons env_nil upd_upd upd_apply del_apply startA_eq cells_ag cells_sl one_sl cells_vs one_vs cells_ep one_ep cells_fn one_fn cells_int one_int cells_bool one_bool cells_string one_string cells_pointer one_pointer cells_slice one_slice cells_map one_map cells_agg resK_one resK_nil resK_two rvK_t rvK_c rvsK_nil rvsK_cons iseq_nil iseq_cons gdA_true gdA_false gdA_undef istep_free istep_guard istepV_free istepV_guard dseq_nil dseq_pu dseq_rd dseq_ef wpc_regT dtree_nil dtree_pu dtree_rd dtree_ef dtree_br chkAll_nil chkAll_cons andK_true pickK_true pickK_false pickK_tb pickK_fb bin2K_pl eqbK_eq eqbK_ne eqpK_eq eqpK_ne eqmK_eq eqmK_ne eqzK_eq eqzK_ne eqzK_sl eqzK_vs un1K_pl convK_int fillK_some fillA_cons fillA_nil cellsK_some needK_true needK_ok seeK_ep seeK_ptr oneK_agg oneK_one nilcK_ptr nilcK_ep fadrK_ptr fadrK_ep fldK_ag iadAK_ptr iadAK_ep iadSK_sl iadSK_vs extK_0 extK_1 extK_2 extK_3 lenK_pl lenK_sl lenK_vs lensK_pl boxK_some minmax1K_int storeK_ptr callvK_fn callvK_pl newsK_nil newsK_vs newsK_sl appK_nil appK_nil0 appK_sl appK_vs bnd1K_int bndK_none bndK_some slsK_vs slsK_nil slsK_sl0 slsK_sl slstrK_pl boolK_some eqsK_ag iop_eqs iop_sls iop_slstr seesK_some seesK_ro mapsK_some MAP_some findK_some findK_none plK_pl nmapK_none nmapK_some iop_mlook iop_mlen iop_mmk iop_mupd iop_mdel iop_mrng itK_none itK_some ptr0K_ptr iop_mnxt iop_ment it1K_some entK_some iop_mov iop_pick iop_bin iop_eqb iop_eqp iop_eqm iop_eqz iop_un capK_pl capK_sl capK_vs iop_cap apzK_nil iop_apz mksK_int iop_mks clrK_sl clrK_vs clrK_nil iop_clr iop_conv iop_build iop_load iop_nilc iop_fadr iop_fld iop_iadA iop_iadS iop_ext iop_mkf iop_len iop_lens iop_minmax iop_al iop_box iop_bsl iop_store iop_call iop_callv iop_app BIN_add BIN_sub BIN_mul BIN_and BIN_or BIN_xor BIN_andNot BIN_eql BIN_neq BIN_lss BIN_leq BIN_gtr BIN_geq BIN_quo BIN_rem BIN_shl BIN_shr BIN_sadd BIN_seql BIN_sneq BIN_slss BIN_sleq BIN_sgtr BIN_sgeq UN_neg UN_xor UN_not MM_nil MM_cons partsA argsA ptrA lessL eqL min2I slotN_int slotP_int slotI_int
/-! The grab stack of the program: its state, and what its methods do to it. Conditions: each is stated by its lemma (the stack lies at blocks of its own; the chain is shorter than 100). -/
section
namespace Go.Proofs.YtmpncpamndhmcaaGreat
open Go Go.Ab Go.RowKit

/-- The stack's fields. -/
structure M where
  b0 : Int
  b1 : Int
  d0 : Int
  d1 : Int
  owner : Int
  ch : List Int

/-- The index of a popup. -/
def fnd (x : Int) : List Int → Nat → Int
  | [], _ => -1
  | y :: l, i => if y = x then i else fnd x l (i + 1)

/-- A live row of numbers. -/
def GRow (H : AH) (l : List Int) (a : AV) (F : Nat → Prop) : Prop :=
  (l = [] ∧ a = .pl (.slice none 0 0)) ∨ ∃ k x rest, a = .sl k 0 l.length 1 x ∧ H k = some (.cells (l.map vi ++ rest)) ∧ F k

def cellsOf (m : M) (a : AV) : List AV := [vb true, vi m.b0, vi m.b1, vi m.d0, vi m.d1, vi m.owner, a]

/-- The stack at block i, its chain apart. -/
def St (H : AH) (F : Nat → Prop) (i : Nat) (m : M) : Prop :=
  ∃ a, H i = some (.cells (cellsOf m a)) ∧ F i ∧ GRow H m.ch a (fun k => F k ∧ k ≠ i) ∧ ∀ j, F j → H j ≠ none

theorem c42 {H : AH} {F : Nat → Prop} {i : Nat} {m : M} (h : St H F i m) {K : AV → AH → Prop} (hk : K (vb true) H) : ACall Tryz.prog 42 [ptrA i] H K := by
  obtain ⟨a, h1, -, -, -⟩ := h
  refine call_c follows cf42_ok (by simp) ?_
  simp [h1, cellsOf]
  exact hk

theorem GRow.len {H : AH} {l : List Int} {a : AV} {F : Nat → Prop} (h : GRow H l a F) {k : AV → Prop} (hk : k (vi l.length)) : @lenK a ⟨k⟩ := by
  rcases h with ⟨rfl, rfl⟩ | ⟨_, _, _, rfl, _, _⟩ <;> exact hk

theorem GRow.at {H : AH} {l : List Int} {a : AV} {F : Nat → Prop} (h : GRow H l a F) {i : Nat} (hi : i < l.length) :
    ∃ b x rest, a = .sl b 0 l.length 1 x ∧ H b = some (.cells (l.map vi ++ rest)) := by
  rcases h with ⟨rfl, rfl⟩ | ⟨b, x, rest, h1, h2, _⟩
  · simp at hi
  · exact ⟨b, x, rest, h1, h2⟩

theorem cell_of {l : List Int} {rest : List AV} {i : Nat} (hi : i < l.length) : List.take 1 (List.drop i (l.map vi ++ rest)) = [vi l[i]] := by
  rw [List.drop_append_of_le_length (by simp; omega)]
  rw [List.drop_eq_getElem_cons (by simpa using hi)]
  simp

theorem fnd_step {x : Int} {l : List Int} {i : Nat} (hi : i < l.length) : fnd x (l.drop i) i = if l[i] = x then (i : Int) else fnd x (l.drop (i + 1)) (i + 1) := by
  rw [List.drop_eq_getElem_cons hi]
  simp [fnd]

theorem c67 {H : AH} {F : Nat → Prop} {i : Nat} {m : M} (h : St H F i m) (x : Int) (hl : m.ch.length < 100) {K : AV → AH → Prop} (hk : K (vi (fnd x m.ch 0)) H) : ACall Tryz.prog 67 [ptrA i, vi x] H K := by
  obtain ⟨a, h1, -, h2, -⟩ := h
  refine call_c follows cf67_ok (by simp) ?_
  simp [h1, cellsOf]
  refine h2.len ?_
  refine wpc_loop (fun s => ∃ j : Nat, s.n = 24 ∧ s.H = H ∧ s.t 1 = vi x ∧ s.t 5 = vi (-1) ∧ s.t 11 = a ∧ s.t 12 = vi m.ch.length ∧ s.t 13 = vi j ∧ j ≤ m.ch.length ∧ fnd x (m.ch.drop j) j = fnd x m.ch 0)
    (fun s => m.ch.length - slotN (s.t 13)) ?_ ?_
  · refine FgK.same ⟨0, ?_⟩
    simp
  rintro s ⟨j, hn, hH, e1, e5, e11, e12, e13, hj, hf⟩
  simp [*]
  refine condK_of (fun hc => ?_) (fun hc => ?_)
  · simp at hc
    obtain ⟨b, xx, rest, rfl, hb⟩ := h2.at hc
    rw [fnd_step hc] at hf
    simp (disch := omega) [*, cell_of]
    refine condK_of (fun hd => ?_) (fun hd => ?_)
    · simp at hd
      rw [if_pos hd] at hf
      rw [← hf] at hk
      simpa using hk
    · simp at hd
      rw [if_neg hd] at hf
      simp (disch := omega) [*, IntWalk.i64_in]
      refine FgK.same ⟨⟨j + 1, ?_⟩, by simp [e13]; omega⟩
      simp [*]
      omega
  · simp at hc
    have : j = m.ch.length := by omega
    subst this
    simp [fnd] at hf
    simpa [*] using hk

/-- What a step may change: what it owns; what it owns behind: that, or new. -/
def OSt (F : Nat → Prop) (H : AH) (F' : Nat → Prop) (H' : AH) : Prop := (∀ j, F' j → F j ∨ H j = none) ∧ ∀ j, ¬ F j → H j ≠ none → H' j = H j

theorem OSt.refl (F : Nat → Prop) (H : AH) : OSt F H F H := ⟨fun _ h => .inl h, fun _ _ _ => rfl⟩
theorem OSt.upd {F : Nat → Prop} {H : AH} {i : Nat} {o : AO} (h : F i) : OSt F H F (upd H i o) :=
  ⟨fun _ h => .inl h, fun j hj _ => by simp only [upd_apply]; rw [if_neg (by rintro rfl; exact hj h)]⟩
theorem GRow.upd {H : AH} {l : List Int} {a : AV} {F : Nat → Prop} {i : Nat} {o : AO} (h : GRow H l a fun k => F k ∧ k ≠ i) : GRow (upd H i o) l a fun k => F k ∧ k ≠ i := by
  rcases h with h | ⟨b, x, rest, h1, h2, h3⟩
  · exact .inl h
  · exact .inr ⟨b, x, rest, h1, by simp only [upd_apply]; rw [if_neg h3.2, h2], h3⟩

theorem St.set {H : AH} {F : Nat → Prop} {i : Nat} {m m' : M} {a : AV} (h2 : F i) (h3 : GRow H m.ch a fun k => F k ∧ k ≠ i) (h4 : ∀ j, F j → H j ≠ none) {cs : List AV} (hc : m'.ch = m.ch) (hcs : cs = cellsOf m' a) :
    St (upd H i (.cells cs)) F i m' := by
  subst hcs
  refine ⟨a, by simp, h2, ?_, fun j hj => ?_⟩
  · rw [hc]; exact h3.upd
  · simp only [upd_apply]
    split
    · simp
    · exact h4 j hj
def Post (H : AH) (F : Nat → Prop) (i : Nat) (m : M) (r : AH → Prop) : Prop := ∀ H' F', St H' F' i m → OSt F H F' H' → r H'

def implM (m : M) (c s : Int) : M × Int := if c < 1 ∨ s < 1 then (m, 6) else if m.b0 ≠ 0 then (m, 14) else ({ m with b0 := c, b1 := s }, 0)
theorem c94 {H : AH} {F : Nat → Prop} {i : Nat} {m : M} (h : St H F i m) (c s : Int) {K : AV → AH → Prop} (hk : Post H F i (implM m c s).1 (K (vi (implM m c s).2))) :
    ACall Tryz.prog 94 [ptrA i, vi c, vi s] H K := by
  refine call_c follows cf94_ok (by simp) ?_
  simp
  refine c42 h ?_
  have h0 := h
  obtain ⟨a, h1, h2, h3, h4⟩ := h
  unfold implM at hk
  by_cases e1 : c < 1
  · simp [*] at hk ⊢
    exact hk _ _ h0 (.refl _ _)
  by_cases e2 : s < 1
  · simp [*] at hk ⊢
    exact hk _ _ h0 (.refl _ _)
  by_cases e3 : m.b0 = 0
  · simp [*, cellsOf] at hk ⊢
    exact hk _ F (St.set h2 h3 h4 (by rfl) (by rfl)) (OSt.upd h2)
  · simp [*, cellsOf] at hk ⊢
    exact hk _ _ h0 (.refl _ _)

def releaseM (m : M) : M × Int × Bool := if m.b0 = 0 then (m, 0, false) else ({ m with b0 := 0, b1 := 0 }, m.b1, true)
theorem c107 {H : AH} {F : Nat → Prop} {i : Nat} {m : M} (h : St H F i m) {K : AV → AH → Prop} (hk : Post H F i (releaseM m).1 (K (.tp [vi (releaseM m).2.1, vb (releaseM m).2.2]))) :
    ACall Tryz.prog 107 [ptrA i] H K := by
  refine call_c follows cf107_ok (by simp) ?_
  simp
  refine c42 h ?_
  have h0 := h
  obtain ⟨a, h1, h2, h3, h4⟩ := h
  unfold releaseM at hk
  by_cases e3 : m.b0 = 0
  · simp [*, cellsOf] at hk ⊢
    exact hk _ _ h0 (.refl _ _)
  · simp [*, cellsOf] at hk ⊢
    exact hk _ F (St.set h2 h3 h4 (by rfl) (by rfl)) (OSt.upd h2)

def dragM (m : M) (c s : Int) : M × Int := if c < 1 ∨ s < 0 then (m, 6) else if m.d0 ≠ 0 then (m, 14) else ({ m with d0 := c, d1 := s }, 0)
theorem c39 {H : AH} {F : Nat → Prop} {i : Nat} {m : M} (h : St H F i m) (c s : Int) {K : AV → AH → Prop} (hk : Post H F i (dragM m c s).1 (K (vi (dragM m c s).2))) :
    ACall Tryz.prog 39 [ptrA i, vi c, vi s] H K := by
  refine call_c follows cf39_ok (by simp) ?_
  simp
  refine c42 h ?_
  have h0 := h
  obtain ⟨a, h1, h2, h3, h4⟩ := h
  unfold dragM at hk
  by_cases e1 : c < 1
  · simp [*] at hk ⊢
    exact hk _ _ h0 (.refl _ _)
  by_cases e2 : s < 0
  · simp [*] at hk ⊢
    exact hk _ _ h0 (.refl _ _)
  by_cases e3 : m.d0 = 0
  · simp [*, cellsOf] at hk ⊢
    exact hk _ F (St.set h2 h3 h4 (by rfl) (by rfl)) (OSt.upd h2)
  · simp [*, cellsOf] at hk ⊢
    exact hk _ _ h0 (.refl _ _)

def endM (m : M) : M × Bool := if m.d0 = 0 then (m, false) else ({ m with d0 := 0, d1 := 0 }, true)
theorem c40 {H : AH} {F : Nat → Prop} {i : Nat} {m : M} (h : St H F i m) {K : AV → AH → Prop} (hk : Post H F i (endM m).1 (K (vb (endM m).2))) :
    ACall Tryz.prog 40 [ptrA i] H K := by
  refine call_c follows cf40_ok (by simp) ?_
  simp
  refine c42 h ?_
  have h0 := h
  obtain ⟨a, h1, h2, h3, h4⟩ := h
  unfold endM at hk
  by_cases e3 : m.d0 = 0
  · simp [*, cellsOf] at hk ⊢
    exact hk _ _ h0 (.refl _ _)
  · simp [*, cellsOf] at hk ⊢
    exact hk _ F (St.set h2 h3 h4 (by rfl) (by rfl)) (OSt.upd h2)

def topM (m : M) : Int × Int × Int := if m.d0 ≠ 0 then (3, m.d0, m.d1) else if m.b0 ≠ 0 then (1, m.b0, m.b1) else if m.ch.length = 0 then (0, 0, 0) else (2, m.owner, m.ch.getD (m.ch.length - 1) 0)
theorem c18 {H : AH} {F : Nat → Prop} {i : Nat} {m : M} (h : St H F i m) (hl : m.ch.length < 100) {K : AV → AH → Prop} (hk : K (.tp [vi (topM m).1, vi (topM m).2.1, vi (topM m).2.2]) H) :
    ACall Tryz.prog 18 [ptrA i] H K := by
  refine call_c follows cf18_ok (by simp) ?_
  simp
  refine c42 h ?_
  obtain ⟨a, h1, h2, h3, h4⟩ := h
  unfold topM at hk
  by_cases e3 : m.d0 = 0
  · by_cases e4 : m.b0 = 0
    · simp [*, cellsOf] at hk ⊢
      refine h3.len ?_
      by_cases e5 : m.ch = []
      · simp [*] at hk ⊢
        exact hk
      · have e6 : 0 < m.ch.length := List.length_pos_iff.2 e5
        obtain ⟨b, x, rest, rfl, hb⟩ := h3.at e6
        have e7 : ((m.ch.length : Int) - 1).toNat = m.ch.length - 1 := by omega
        have e8 : m.ch[m.ch.length - 1]?.getD 0 = m.ch[m.ch.length - 1] := by rw [List.getElem?_eq_getElem (show m.ch.length - 1 < m.ch.length by omega)]; rfl
        simp (disch := omega) [*, cellsOf, IntWalk.i64_in, cell_of] at hk ⊢
        exact hk
    · simp [*, cellsOf] at hk ⊢
      exact hk
  · simp [*, cellsOf] at hk ⊢
    exact hk

/-! ### A nil stack -/
def allowsM (m : M) (c : Int) : Bool := if c < 1 then false else (topM m).1 ≠ 3 && ((topM m).1 = 0 || (topM m).2.1 = c)
theorem c17 {H : AH} {F : Nat → Prop} {i : Nat} {m : M} (h : St H F i m) (hl : m.ch.length < 100) (c : Int) {K : AV → AH → Prop} (hk : K (vb (allowsM m c)) H) :
    ACall Tryz.prog 17 [ptrA i, vi c] H K := by
  refine call_c follows cf17_ok (by simp) ?_
  simp
  refine c42 h ?_
  unfold allowsM at hk
  by_cases e1 : c < 1
  · simp [*] at hk ⊢
    exact hk
  · simp [*] at hk ⊢
    refine c18 h hl ?_
    by_cases e2 : (topM m).1 = 3
    · simp [*] at hk ⊢
      exact hk
    · by_cases e3 : (topM m).1 = 0
      · simp [*] at hk ⊢
        exact hk
      · simp [*] at hk ⊢
        exact hk

/-! ### Rows of deliveries -/
def dcell (p : Int × Int) : List AV := [vi p.1, vi p.2, vi 21, vi 0, vi 0, vi 0, vi 0, vi 0, .pl (.int .u32 0)]
def DRow (H : AH) (l : List (Int × Int)) (a : AV) (G : Nat → Prop) : Prop :=
  (l = [] ∧ a = .pl (.slice none 0 0)) ∨ ∃ r x, a = .sl r 0 l.length 9 x ∧ H r = some (.cells (l.flatMap dcell)) ∧ G r
theorem dcell_len (l : List (Int × Int)) : (l.flatMap dcell).length = l.length * 9 := by
  induction l with
  | nil => rfl
  | cons p l ih => simp [List.flatMap_cons, ih, dcell]; omega

def cutM (m : M) (k : Nat) : M × List (Int × Int) := ({ m with ch := m.ch.take k }, (m.ch.drop k).reverse.map fun x => (m.owner, x))

theorem c68 {H : AH} {F : Nat → Prop} {i : Nat} {m : M} (h : St H F i m) (hl : m.ch.length < 100) (k : Nat) (hk0 : k ≤ m.ch.length) {K : AV → AH → Prop}
    (hk : ∀ H' F' a, St H' F' i (cutM m k).1 → OSt F H F' H' → DRow H' (cutM m k).2 a (fun r => ¬ F' r ∧ H r = none) → K a H') :
    ACall Tryz.prog 68 [ptrA i, vi k] H K := by
  refine call_c follows cf68_ok (by simp) ?_
  have h0 := h
  obtain ⟨a, h1, h2, h3, h4⟩ := h
  simp [h1, cellsOf]
  refine h3.len ?_
  simp (disch := omega) [IntWalk.i64_in]
  refine wpc_loop (fun s => ∃ (p : Nat) (out : AV) (Hs : AH), s.n = 44 ∧ s.H = Hs ∧ s.t 0 = ptrA i ∧ s.t 1 = vi k ∧ s.t 5 = out ∧ s.t 6 = vi ((p : Int) - 1) ∧ k ≤ p ∧ p ≤ m.ch.length ∧
      (∀ j, H j ≠ none → Hs j = H j) ∧ DRow Hs ((m.ch.drop p).reverse.map fun x => (m.owner, x)) out (fun r => H r = none))
    (fun s => slotP (s.t 6)) ?_ ?_
  · refine FgK.same ⟨m.ch.length, .pl (.slice none 0 0), H, ?_⟩
    simp
    exact ⟨hk0, .inl ⟨rfl, rfl⟩⟩
  rintro s ⟨p, out, Hs, hn, hH, e0, e1, e5, e6, hp1, hp2, hH2, hout⟩
  have hsi : Hs i = some (AO.cells (cellsOf m a)) := by rw [hH2 i (by rw [h1]; simp), h1]
  simp [*]
  refine condK_of (fun hc => ?_) (fun hc => ?_)
  · simp at hc
    have hpl : p - 1 < m.ch.length := by omega
    obtain ⟨b, x, rest, rfl, hb⟩ := h3.at hpl
    have hsb : Hs b = some (AO.cells (m.ch.map vi ++ rest)) := by rw [hH2 b (by rw [hb]; simp), hb]
    have e7 : ((p : Int) - 1).toNat = p - 1 := by omega
    have e8 : (m.ch.drop (p - 1)).reverse.map (fun x => (m.owner, x)) = (m.ch.drop p).reverse.map (fun x => (m.owner, x)) ++ [(m.owner, m.ch[p - 1])] := by
      rw [List.drop_eq_getElem_cons hpl, show p - 1 + 1 = p by omega]
      simp
    have e9 : ((m.ch.drop p).reverse.map (fun x => (m.owner, x))).length < 100 := by simp; omega
    generalize hL : (m.ch.drop p).reverse.map (fun x => (m.owner, x)) = L at *
    have e10 := dcell_len L
    have inv : ∀ (s' : ASt) (o : AV) (H' : AH), s'.n = 44 → s'.H = H' → s'.t 0 = ptrA i → s'.t 1 = vi k → s'.t 5 = o → s'.t 6 = vi ((p : Int) - 1 - 1) → (∀ j, H j ≠ none → H' j = H j) →
        DRow H' (L ++ [(m.owner, m.ch[p - 1])]) o (fun r => H r = none) →
        (∃ (p : Nat) (out : AV) (Hs : AH), s'.n = 44 ∧ s'.H = Hs ∧ s'.t 0 = ptrA i ∧ s'.t 1 = vi k ∧ s'.t 5 = out ∧ s'.t 6 = vi ((p : Int) - 1) ∧ k ≤ p ∧ p ≤ m.ch.length ∧
      (∀ j, H j ≠ none → Hs j = H j) ∧ DRow Hs ((m.ch.drop p).reverse.map fun x => (m.owner, x)) out (fun r => H r = none)) ∧ slotP (s'.t 6) < slotP (s.t 6) := by
      intro s' o H' g1 g2 g3 g4 g5 g6 g7 g8
      refine ⟨⟨p - 1, o, H', g1, g2, g3, g4, g5, ?_, by omega, by omega, g7, ?_⟩, ?_⟩
      · rw [g6, show ((p - 1 : Nat) : Int) = (p : Int) - 1 by omega]
      · rw [e8]; exact g8
      · rw [g6, e6]; simp; omega
    simp (disch := omega) [*, cellsOf, cell_of]
    refine newK_of fun b1 hb1 => ?_
    have n1 : i ≠ b1 := by rintro rfl; rw [hsi] at hb1; cases hb1
    have n2 : b ≠ b1 := by rintro rfl; rw [hsb] at hb1; cases hb1
    have n3 : H b1 = none := by
      cases e : H b1 with
      | none => rfl
      | some o => rw [hH2 b1 (by rw [e]; simp), e] at hb1; cases hb1
    rcases hout with ⟨ho1, rfl⟩ | ⟨r, xx, rfl, ho2, ho3⟩
    · simp (disch := omega) [*]
      refine newK_of fun b2 hb2 => ?_
      obtain ⟨n4, hb2⟩ := upd_none.1 hb2
      have n5 : i ≠ b2 := by rintro rfl; rw [hsi] at hb2; cases hb2
      have n6 : b ≠ b2 := by rintro rfl; rw [hsb] at hb2; cases hb2
      have n7 : H b2 = none := by
        cases e : H b2 with
        | none => rfl
        | some o => rw [hH2 b2 (by rw [e]; simp), e] at hb2; cases hb2
      simp (disch := omega) [*, IntWalk.i64_in]
      refine FgK.same ?_
      refine inv _ (.sl b2 0 1 9 false) _ ?_ rfl ?_ ?_ ?_ ?_ ?_ ?_
      · rfl
      · simp
      · simp
      · simp
      · simp
      · intro j hj
        have n8 : j ≠ b1 := by rintro rfl; exact hj n3
        have n9 : j ≠ b2 := by rintro rfl; exact hj n7
        simp [n8, n9]
        exact hH2 j hj
      · refine .inr ⟨b2, false, ?_, ?_, n7⟩
        · simp [ho1]
        · simp [ho1, dcell]
    · have n4 : r ≠ b1 := by rintro rfl; rw [ho2] at hb1; cases hb1
      have n5 : i ≠ r := by rintro rfl; rw [ho3] at h1; cases h1
      have n6 : b ≠ r := by rintro rfl; rw [ho3] at hb; cases hb
      simp (disch := omega) [*]
      refine ownK_of fun b2 hb2 => ?_
      have n7 : H b2 = none := by
        rcases hb2 with rfl | hb2
        · exact ho3
        · obtain ⟨_, hb2⟩ := upd_none.1 hb2
          cases e : H b2 with
          | none => rfl
          | some o => rw [hH2 b2 (by rw [e]; simp), e] at hb2; cases hb2
      have n8 : i ≠ b2 := by rintro rfl; rw [n7] at h1; cases h1
      have n9 : b ≠ b2 := by rintro rfl; rw [n7] at hb; cases hb
      simp (disch := omega) [*, IntWalk.i64_in]
      refine FgK.same ?_
      refine inv _ (.sl b2 0 (L.length + 1) 9 false) _ ?_ rfl ?_ ?_ ?_ ?_ ?_ ?_
      · rfl
      · simp
      · simp
      · simp
      · simp
      · intro j hj
        have n10 : j ≠ b1 := by rintro rfl; exact hj n3
        have n11 : j ≠ b2 := by rintro rfl; exact hj n7
        have n12 : j ≠ r := by rintro rfl; exact hj ho3
        simp [n10, n11, n12]
        exact hH2 j hj
      · refine .inr ⟨b2, false, ?_, ?_, n7⟩
        · simp
        · simp [dcell]
          rw [List.take_of_length_le (by omega)]
  · simp at hc
    have : p = k := by omega
    subst this
    unfold cutM at hk
    have hout2 : DRow Hs ((m.ch.drop p).reverse.map fun x => (m.owner, x)) out (fun r => ¬ F r ∧ H r = none) := by
      rcases hout with h | ⟨r, x, g1, g2, g3⟩
      · exact .inl h
      · exact .inr ⟨r, x, g1, g2, fun hf => h4 r hf g3, g3⟩
    have hsF : ∀ j, F j → Hs j ≠ none := fun j hj => by rw [hH2 j (h4 j hj)]; exact h4 j hj
    have hlr : ∀ (o : AO), DRow (upd Hs i o) ((m.ch.drop p).reverse.map fun x => (m.owner, x)) out (fun r => ¬ F r ∧ H r = none) := by
      intro o
      rcases hout2 with h | ⟨r, x, g1, g2, g3⟩
      · exact .inl h
      · refine .inr ⟨r, x, g1, ?_, g3⟩
        simp only [upd_apply]
        rw [if_neg (by rintro rfl; exact g3.1 h2), g2]
    have hst : ∀ (o : AO), OSt F H F (upd Hs i o) := fun o => ⟨fun j hj => .inl hj, fun j hj hn => by
      simp only [upd_apply]
      rw [if_neg (by rintro rfl; exact hj h2), hH2 j hn]⟩
    rcases h3 with ⟨g1, rfl⟩ | ⟨b, x, rest, rfl, g2, g3⟩
    · have : p = 0 := by rw [g1] at hk0; simpa using hk0
      subst this
      simp [*, cellsOf]
      refine hk _ F _ ⟨.pl (.slice none 0 0), by simp [cellsOf], h2, .inl ⟨by simp, rfl⟩, fun j hj => ?_⟩ (hst _) ?_
      · simp only [upd_apply]; split
        · simp
        · exact hsF j hj
      · have := hlr
        simpa [*] using this _
    · have hsb : Hs b = some (AO.cells (m.ch.map vi ++ rest)) := by rw [hH2 b (by rw [g2]; simp), g2]
      simp (disch := omega) [*, cellsOf]
      refine hk _ F _ ⟨.sl b 0 p 1 true, by simp [cellsOf], h2, .inr ⟨b, true, (m.ch.drop p).map vi ++ rest, ?_, ?_, g3⟩, fun j hj => ?_⟩ (hst _) (hlr _)
      · simp; omega
      · simp [g3.2, hsb]
        rw [← List.append_assoc, List.take_append_drop]
      · simp only [upd_apply]; split
        · simp
        · exact hsF j hj

theorem fnd_range (x : Int) : ∀ (l : List Int) (i : Nat), fnd x l i = -1 ∨ ((i : Int) ≤ fnd x l i ∧ fnd x l i < i + l.length)
  | [], i => .inl rfl
  | y :: l, i => by
    unfold fnd
    split
    · right; simp; omega
    · rcases fnd_range x l (i + 1) with h | h
      · exact .inl h
      · right; simp at h ⊢; omega

def PostL (H : AH) (F : Nat → Prop) (i : Nat) (r : M × List (Int × Int)) (K : AV → AH → Prop) : Prop :=
  ∀ H' F' a, St H' F' i r.1 → OSt F H F' H' → DRow H' r.2 a (fun k => ¬ F' k ∧ H k = none) → K a H'

def dismissM (m : M) (s : Int) : M × List (Int × Int) := if fnd s m.ch 0 < 0 then (m, []) else cutM m (fnd s m.ch 0).toNat
theorem c37 {H : AH} {F : Nat → Prop} {i : Nat} {m : M} (h : St H F i m) (hl : m.ch.length < 100) (s : Int) {K : AV → AH → Prop} (hk : PostL H F i (dismissM m s) K) : ACall Tryz.prog 37 [ptrA i, vi s] H K := by
  refine call_c follows cf37_ok (by simp) ?_
  simp
  refine c42 h ?_
  simp
  refine c67 h s hl ?_
  unfold dismissM at hk
  by_cases e : fnd s m.ch 0 < 0
  · simp [*] at hk ⊢
    exact hk _ F _ h (.refl _ _) (.inl ⟨rfl, rfl⟩)
  · rw [if_neg e] at hk
    simp [*]
    have e2 := fnd_range s m.ch 0
    have e3 : vi (fnd s m.ch 0) = vi ((fnd s m.ch 0).toNat : Nat) := by congr 2; omega
    rw [e3]
    refine c68 h hl _ (by omega) ?_
    simp
    exact hk

def clickM (m : M) (c s : Int) : M × List (Int × Int) := if m.ch = [] then (m, []) else if c ≠ m.owner then cutM m 0 else if fnd s m.ch 0 < 0 then (m, []) else cutM m (fnd s m.ch 0 + 1).toNat
theorem c38 {H : AH} {F : Nat → Prop} {i : Nat} {m : M} (h : St H F i m) (hl : m.ch.length < 100) (c s : Int) {K : AV → AH → Prop} (hk : PostL H F i (clickM m c s) K) : ACall Tryz.prog 38 [ptrA i, vi c, vi s] H K := by
  refine call_c follows cf38_ok (by simp) ?_
  simp
  refine c42 h ?_
  have h0 := h
  obtain ⟨a, h1, h2, h3, h4⟩ := h
  unfold clickM at hk
  simp [h1, cellsOf]
  refine h3.len ?_
  by_cases e : m.ch = []
  · rw [if_pos e] at hk
    simp [*]
    exact hk _ F _ h0 (.refl _ _) (.inl ⟨rfl, rfl⟩)
  have e0 : ¬ ((m.ch.length : Int) = 0) := by simpa using e
  rw [if_neg e] at hk
  by_cases e1 : c = m.owner
  · rw [if_neg (by simp [e1])] at hk
    simp [*, cellsOf]
    refine c67 h0 s hl ?_
    by_cases e : fnd s m.ch 0 < 0
    · rw [if_pos e] at hk
      simp [*]
      exact hk _ F _ h0 (.refl _ _) (.inl ⟨rfl, rfl⟩)
    · rw [if_neg e] at hk
      have e2 := fnd_range s m.ch 0
      simp (disch := omega) [*, IntWalk.i64_in]
      have e3 : AV.pl (.int .i64 (fnd s m.ch 0 + 1)) = vi ((fnd s m.ch 0 + 1).toNat : Nat) := by congr 2; omega
      rw [e3]
      refine c68 h0 hl _ (by omega) ?_
      simp
      exact hk
  · rw [if_pos e1] at hk
    simp [*, cellsOf]
    refine c68 h0 hl 0 (by omega) ?_
    simp
    exact hk

theorem popup_post {H H' : AH} {F : Nat → Prop} {i b : Nat} {m' : M} (h2 : F i) (g1 : H' i = some (.cells (cellsOf m' (.sl b 0 m'.ch.length 1 false)))) (g2 : H' b = some (.cells (m'.ch.map vi))) (g3 : b ≠ i)
    (g4 : ∀ j, ¬ F j → H j ≠ none → H' j = H j) (g5 : F b ∨ H b = none) : St H' (fun j => j = i ∨ j = b) i m' ∧ OSt F H (fun j => j = i ∨ j = b) H' := by
  refine ⟨⟨_, g1, .inl rfl, .inr ⟨b, false, [], rfl, by simpa using g2, .inr rfl, g3⟩, fun j hj => ?_⟩, fun j hj => ?_, g4⟩
  · rcases hj with rfl | rfl
    · rw [g1]; simp
    · rw [g2]; simp
  · rcases hj with rfl | rfl
    · exact .inl h2
    · exact g5

def popupM (m : M) (c s p : Int) : M × Int :=
  if c < 1 ∨ s < 1 ∨ p < 1 then (m, 6) else if 0 ≤ fnd s m.ch 0 then (m, 7) else if 8 ≤ m.ch.length then (m, 5) else
  if m.ch ≠ [] ∧ m.owner ≠ c then (m, 17) else if (m.ch ≠ [] ∧ m.ch.getD (m.ch.length - 1) 0 ≠ p) ∨ (m.ch = [] ∧ p = s) then (m, 16) else ({ m with owner := c, ch := m.ch ++ [s] }, 0)
theorem c36 {H : AH} {F : Nat → Prop} {i : Nat} {m : M} (h : St H F i m) (hl : m.ch.length < 100) (c s p : Int) {K : AV → AH → Prop} (hk : Post H F i (popupM m c s p).1 (K (vi (popupM m c s p).2))) :
    ACall Tryz.prog 36 [ptrA i, vi c, vi s, vi p] H K := by
  refine call_c follows cf36_ok (by simp) ?_
  simp
  refine c42 h ?_
  have h0 := h
  obtain ⟨a, h1, h2, h3, h4⟩ := h
  unfold popupM at hk
  simp [h1, cellsOf]
  refine h3.len ?_
  by_cases e1 : c < 1
  · simp [e1] at hk ⊢
    exact hk _ _ h0 (.refl _ _)
  by_cases e2 : s < 1
  · simp [e1, e2] at hk ⊢
    exact hk _ _ h0 (.refl _ _)
  by_cases e3 : p < 1
  · simp [e1, e2, e3] at hk ⊢
    exact hk _ _ h0 (.refl _ _)
  rw [if_neg (by omega)] at hk
  simp [e1, e2, e3]
  refine c67 h0 s hl ?_
  by_cases e4 : 0 ≤ fnd s m.ch 0
  · simp [e4] at hk ⊢
    exact hk _ _ h0 (.refl _ _)
  rw [if_neg e4] at hk
  by_cases e5 : 8 ≤ m.ch.length
  · have e5' : (8 : Int) ≤ m.ch.length := by omega
    simp [e4, e5, e5'] at hk ⊢
    exact hk _ _ h0 (.refl _ _)
  rw [if_neg e5] at hk
  have e5' : ¬ (8 : Int) ≤ m.ch.length := by omega
  have hi0 : H i ≠ none := by rw [h1]; simp
  by_cases e6 : m.ch = []
  · have e7 : ¬ (0 : Int) < m.ch.length := by simp [e6]
    have e7' : ((m.ch.length : Int) = 0) := by simp [e6]
    have e4' : ¬ 0 ≤ fnd s [] 0 := by simp [fnd]
    rw [if_neg (by simp [e6])] at hk
    by_cases e8 : p = s
    · rw [if_pos (.inr ⟨e6, e8⟩)] at hk
      simp [*]
      exact hk _ _ h0 (.refl _ _)
    · rw [if_neg (by simp [e6, e8])] at hk
      rcases h3 with ⟨_, rfl⟩ | ⟨b, x, rest, rfl, hb, hFb, hbi⟩
      rotate_left
      · simp (disch := omega) [*, cellsOf]
        refine newK_of fun b1 hb1 => ?_
        obtain ⟨n1, hb1⟩ := upd_none.1 hb1
        have n2 : b ≠ b1 := by rintro rfl; rw [hb1] at hb; cases hb
        simp (disch := omega) [*]
        refine ownK_of fun b2 hb2 => ?_
        have n3 : b2 ≠ i := by
          rcases hb2 with rfl | hb2
          · exact hbi
          · obtain ⟨_, hb2⟩ := upd_none.1 hb2
            exact (upd_none.1 hb2).1
        have n4 : F b2 ∨ H b2 = none := by
          rcases hb2 with rfl | hb2
          · exact .inl hFb
          · obtain ⟨_, hb2⟩ := upd_none.1 hb2
            exact .inr (upd_none.1 hb2).2
        simp [*, Ne.symm n1, Ne.symm n3, Ne.symm hbi]
        refine (fun h => hk _ _ h.1 h.2) (popup_post (b := b2) h2 ?_ ?_ n3 ?_ n4)
        · simp [cellsOf, e6]
        · simp [n3, e6]
        · intro j hj hn
          have n5 : j ≠ i := by rintro rfl; exact hj h2
          have n6 : j ≠ b1 := by rintro rfl; exact hn hb1
          have n7 : j ≠ b2 := by rintro rfl; exact n4.elim hj hn
          have n8 : j ≠ b := by rintro rfl; exact hj hFb
          simp [*]
      simp [*, cellsOf]
      refine newK_of fun b1 hb1 => ?_
      obtain ⟨n1, hb1⟩ := upd_none.1 hb1
      simp [*]
      refine newK_of fun b2 hb2 => ?_
      obtain ⟨n2, hb2⟩ := upd_none.1 hb2
      obtain ⟨n3, hb2⟩ := upd_none.1 hb2
      simp [*, Ne.symm n1, Ne.symm n3]
      refine (fun h => hk _ _ h.1 h.2) (popup_post (b := b2) h2 ?_ ?_ n3 ?_ (.inr hb2))
      · simp [cellsOf, e6]
      · simp [n3, e6]
      · intro j hj hn
        have n4 : j ≠ i := by rintro rfl; exact hj h2
        have n5 : j ≠ b1 := by rintro rfl; exact hn hb1
        have n6 : j ≠ b2 := by rintro rfl; exact hn hb2
        simp [*]
  · have e6' := List.length_pos_iff.2 e6
    have e7 : (0 : Int) < m.ch.length := by omega
    have e7' : ¬ ((m.ch.length : Int) = 0) := by omega
    by_cases e8 : m.owner = c
    · rw [if_neg (by simp [e8])] at hk
      have hFb : ∀ b n x, a = .sl b 0 n 1 x → F b ∧ b ≠ i := by
        rintro b n x rfl
        rcases h3 with ⟨_, e⟩ | ⟨b', _, _, e, _, e'⟩
        · cases e
        · cases e; exact e'
      obtain ⟨b, x, rest, rfl, hb⟩ := h3.at e6'
      obtain ⟨hFb, hbi⟩ := hFb _ _ _ rfl
      have e9 : ((m.ch.length : Int) - 1).toNat = m.ch.length - 1 := by omega
      have e10 : m.ch.getD (m.ch.length - 1) 0 = m.ch[m.ch.length - 1] := by rw [List.getD_eq_getElem?_getD, List.getElem?_eq_getElem (show m.ch.length - 1 < m.ch.length by omega)]; rfl
      rw [e10] at hk
      by_cases e11 : m.ch[m.ch.length - 1] = p
      · rw [if_neg (by simp [e6, e11])] at hk
        simp (disch := omega) [*, cellsOf, cell_of, IntWalk.i64_in]
        refine newK_of fun b1 hb1 => ?_
        obtain ⟨n1, hb1⟩ := upd_none.1 hb1
        have n2 : b ≠ b1 := by rintro rfl; rw [hb1] at hb; cases hb
        simp (disch := omega) [*]
        refine ownK_of fun b2 hb2 => ?_
        have n3 : b2 ≠ i := by
          rcases hb2 with rfl | hb2
          · exact hbi
          · obtain ⟨_, hb2⟩ := upd_none.1 hb2
            exact (upd_none.1 hb2).1
        have n4 : F b2 ∨ H b2 = none := by
          rcases hb2 with rfl | hb2
          · exact .inl hFb
          · obtain ⟨_, hb2⟩ := upd_none.1 hb2
            exact .inr (upd_none.1 hb2).2
        simp [*, Ne.symm n1, Ne.symm n3, Ne.symm hbi]
        refine (fun h => hk _ _ h.1 h.2) (popup_post (b := b2) h2 ?_ ?_ n3 ?_ n4)
        · simp [cellsOf]
        · simp [n3]
        · intro j hj hn
          have n5 : j ≠ i := by rintro rfl; exact hj h2
          have n6 : j ≠ b1 := by rintro rfl; exact hn hb1
          have n7 : j ≠ b2 := by rintro rfl; exact n4.elim hj hn
          have n8 : j ≠ b := by rintro rfl; exact hj hFb
          simp [*]
      · rw [if_pos (.inl ⟨e6, e11⟩)] at hk
        simp (disch := omega) [*, cellsOf, cell_of, IntWalk.i64_in]
        exact hk _ _ h0 (.refl _ _)
    · rw [if_pos ⟨e6, e8⟩] at hk
      simp [*, cellsOf]
      exact hk _ _ h0 (.refl _ _)
end Go.Proofs.YtmpncpamndhmcaaGreat
end

/-! The pointer in plain words: items, deliveries, the log of serials, the focus, the events; and the view in which a pointer lies at blocks of its own. Conditions: as each lemma states them. -/
section
namespace Go.Proofs.YtmpncpamndhmcaaGreat
open Go Go.Ab Go.RowKit

abbrev vu (n : Int) : AV := .pl (.int .u32 n)
def sub64 (a b : Int) : Int := IntKind.i64.wrap (a - b)
/-- A delivery. -/
structure Dl where
  cl : Int
  sf : Int
  kd : Int
  tm : Int
  x : Int
  y : Int
  co : Int
  va : Int
  sr : Int
  deriving DecidableEq
def dlc (d : Dl) : List AV := [vi d.cl, vi d.sf, vi d.kd, vi d.tm, vi d.x, vi d.y, vi d.co, vi d.va, vu d.sr]
theorem dlc_l (d : Dl) : (dlc d).length = 9 := rfl
/-- An event of a device. -/
structure Ev where
  kd : Int
  tm : Int
  x : Int
  y : Int
  co : Int
  va : Int
def evc (e : Ev) : List AV := [vi e.kd, vi e.tm, vi e.x, vi e.y, vi e.co, vi e.va]
/-! ### The log -/
structure Lg where
  la : Int
  at_ : Nat
  es : List AV
def nextS (n : Int) : Int := if IntKind.u32.wrap (n + 1) = 0 then 1 else IntKind.u32.wrap (n + 1)
def badI (c s k : Int) : Bool := decide (c < 1) || (decide (s < 0) || (decide (k < 0) || decide (62 < k)))
def setL (es : List AV) (j : Nat) (cs : List AV) : List AV := es.take (j * 4) ++ cs ++ es.drop (j * 4 + 4)
def issL (l : Lg) (c s k : Int) : Lg := if badI c s k = true then l else ⟨nextS l.la, (l.at_ + 1) % 256, setL l.es l.at_ [vu (nextS l.la), vi c, vi s, vi k]⟩
def issN (l : Lg) (c s k : Int) : Int := if badI c s k = true then 0 else nextS l.la

/-! ### The pointer -/
structure PS where
  lg : Lg
  fs : Int
  fc : Int
  fl : Bool
  g : M
  pr : List Int
  st : List Nat
  ck : Nat
  x : Int
  y : Int
  hd : Int
  td : Bool
  lt : Int
/-! ### Items -/
structure Px where
  r : Int
  g : Int
  b : Int
  a : Int
abbrev v8 (n : Int) : AV := .pl (.int .u8 n)
def pxc (p : Px) : List AV := [v8 p.r, v8 p.g, v8 p.b, v8 p.a]
theorem pxc_l (p : Px) : (pxc p).length = 4 := rfl
def pxOk (p : Px) : Bool := decide (p.r ≤ p.a) && (decide (p.g ≤ p.a) && decide (p.b ≤ p.a))
def szOk (n : Int) : Bool := decide (1 ≤ n) && decide (n ≤ 256)
def bufOk (w h : Int) (px : List Px) : Bool := szOk w && (szOk h && (decide ((px.length : Int) = w * h) && px.all pxOk))
/-- An item: its fields; and its pixels, its opaque and its input region. -/
structure It where
  sf : Int
  cl : Int
  x : Int
  y : Int
  w : Int
  h : Int
  ap : AV
  ao : AV
  ai : AV
  px : List Px
  lo : List R
  li : List R
def itc (i : It) : List AV := [vi i.sf, vi i.cl, vi i.x, vi i.y, vi i.w, vi i.h, i.ap, i.ao, i.ai]
theorem itc_l (i : It) : (itc i).length = 9 := rfl
def posOk (x y : Int) : Bool := decide (-16384 ≤ min x y) && decide (max x y ≤ 16128)
def areaI (i : It) : R := if (bufOk i.w i.h i.px && posOk i.x i.y) = true then ⟨0, 0, i.w, i.h⟩ else ⟨0, 0, 0, 0⟩
def bndI (i : It) : R := if req (areaI i) ⟨0, 0, 0, 0⟩ = true then ⟨0, 0, 0, 0⟩ else ⟨i.x, i.y, i.x + i.w, i.y + i.h⟩
def rctF (r : R) (x y : Int) : Bool := decide ((rcan r).x0 ≤ x) && (decide (x < (rcan r).x1) && (decide ((rcan r).y0 ≤ y) && decide (y < (rcan r).y1)))
def accF (i : It) (x y : Int) : Bool := decide ((bndI i).x0 ≤ x) && (decide ((bndI i).y0 ≤ y) && (decide (x < (bndI i).x1) && (decide (y < (bndI i).y1) && i.li.any fun r => rctF r (x - i.x) (y - i.y))))
/-- The topmost of the first n that accepts. -/
def atG (L : List It) (x y : Int) : Nat → Int
  | 0 => -1
  | n + 1 => match L[n]? with
    | some i => if accF i x y = true then n else atG L x y n
    | none => atG L x y n
def atF (L : List It) (x y : Int) : Int := atG L x y L.length
def tgtF (L : List It) (x y : Int) : Int × Int := match L[(atF L x y).toNat]? with
  | some i => if atF L x y < 0 then (0, 0) else (i.sf, i.cl)
  | none => (0, 0)
def orgF (L : List It) (x y : Int) : Int × Int := match L[(atF L x y).toNat]? with
  | some i => (i.x, i.y)
  | none => (0, 0)
theorem atG_rng (L : List It) (x y : Int) : ∀ n, n ≤ L.length → -1 ≤ atG L x y n ∧ atG L x y n < n
  | 0, _ => by simp [atG]
  | n + 1, h => by
    have ih := atG_rng L x y n (by omega)
    unfold atG
    rw [List.getElem?_eq_getElem (by omega)]
    simp only
    split <;> omega
theorem atF_rng (L : List It) (x y : Int) : -1 ≤ atF L x y ∧ atF L x y < L.length := atG_rng L x y L.length (Nat.le_refl _)

/-! ### Events -/
def updM (m : PS) (L : List It) (x y : Int) : PS × List Dl :=
  if m.fl = true then (m, []) else
  let t := tgtF L x y
  if t.1 = m.fs ∧ t.2 = m.fc then (m, []) else
  let lv := m.fs ≠ 0 ∨ m.fc ≠ 0
  let l1 := if lv then issL m.lg m.fc m.fs 2 else m.lg
  let o1 : List Dl := if lv then [⟨m.fc, m.fs, 2, 0, 0, 0, 0, 0, issN m.lg m.fc m.fs 2⟩] else []
  let en := t.1 ≠ 0 ∨ t.2 ≠ 0
  let l2 := if en then issL l1 t.2 t.1 1 else l1
  let o2 : List Dl := if en then [⟨t.2, t.1, 1, 0, sub64 x (orgF L x y).1, sub64 y (orgF L x y).2, 0, 0, issN l1 t.2 t.1 1⟩] else []
  ({ m with lg := l2, fs := t.1, fc := t.2 }, o1 ++ o2)
def refM (m : PS) (L : List It) : PS × List Dl :=
  let t := tgtF L m.x m.y
  updM m (if t.1 ≠ 0 ∧ allowsM m.g t.2 = false then [] else L) m.x m.y
def okM (m : PS) : Bool := decide (m.fs ≠ 0) && allowsM m.g m.fc
def sendM (m : PS) (out : List Dl) (d : Dl) : PS × List Dl :=
  if okM m = true then
    if d.kd = 4 then ({ m with lg := issL m.lg m.fc m.fs 4 }, out ++ [{ d with cl := m.fc, sf := m.fs, tm := m.lt, sr := issN m.lg m.fc m.fs 4 }])
    else (m, out ++ [{ d with cl := m.fc, sf := m.fs, tm := m.lt }])
  else (m, out)
def findS (L : List It) (s : Int) : Option It := L.find? fun i => i.sf == s
def motM (m : PS) (L : List It) (e : Ev) : PS × List Dl :=
  let r := refM { m with x := e.x, y := e.y } L
  match findS L r.1.fs with
  | some i => sendM r.1 r.2 ⟨0, 0, 3, 0, sub64 r.1.x i.x, sub64 r.1.y i.y, 0, 0, 0⟩
  | none => r
def grbM (m : PS) : PS := if okM m = true ∧ (implM m.g m.fc m.fs).2 = 0 then { m with g := (implM m.g m.fc m.fs).1, hd := m.fs } else m
def preM (m : PS) (e : Ev) : PS × List Dl :=
  let m1 := if m.pr = [] then grbM { m with fl := true } else m
  sendM { m1 with pr := m1.pr ++ [e.co], st := m1.st ++ [m1.ck], ck := m1.ck + 1 } [] ⟨0, 0, 4, 0, 0, 0, e.co, e.va, 0⟩
def endH (m : PS) : PS := if m.hd ≠ 0 then { m with g := (releaseM m.g).1, hd := 0 } else m
def delP (m : PS) (c : Int) : PS := { m with pr := m.pr.erase c, st := m.st.eraseIdx (m.pr.idxOf c) }
def relM (m : PS) (L : List It) (e : Ev) : PS × List Dl :=
  let s := sendM (delP m e.co) [] ⟨0, 0, 4, 0, 0, 0, e.co, e.va, 0⟩
  if s.1.pr ≠ [] then s else
  let r := refM { endH s.1 with fl := false } L
  (r.1, s.2 ++ r.2)
def chkM (m : PS) (e : Ev) : Int :=
  if (e.kd ≠ 2 ∧ e.kd ≠ 1 ∧ e.kd ≠ 3) ∨ (e.kd = 2 ∧ e.va ≠ 0 ∧ e.va ≠ 1) then 2
  else if e.kd = 1 ∧ (min e.x e.y < -16384 ∨ 16384 < max e.x e.y) then 6
  else if e.kd = 2 ∧ (m.pr.contains e.co = decide (e.va = 1)) then 14
  else if e.kd = 2 ∧ e.va = 1 ∧ 16 ≤ m.pr.length then 5 else 0
def grpL : List Dl → List Dl
  | [] => []
  | [d] => [d, ⟨d.cl, d.sf, 6, 0, 0, 0, 0, 0, 0⟩]
  | d :: e :: l => if d.cl = e.cl ∧ d.sf = e.sf then d :: grpL (e :: l) else d :: ⟨d.cl, d.sf, 6, 0, 0, 0, 0, 0, 0⟩ :: grpL (e :: l)
def tickM (m : PS) (e : Ev) : PS := if m.td = false ∨ m.lt < e.tm then { m with td := true, lt := e.tm } else m
def feedM (m : PS) (L : List It) (e : Ev) : PS × List Dl × Int :=
  if chkM m e ≠ 0 then (m, [], chkM m e) else
  let m := tickM m e
  let r := if e.kd = 1 then motM m L e else if e.kd = 2 then (if e.va = 1 then preM m e else relM m L e) else sendM m [] ⟨0, 0, 5, 0, 0, 0, e.co, e.va, 0⟩
  (r.1, grpL r.2, 0)
def goneM (m : PS) (s : Int) : PS :=
  let m1 := if m.hd = s then endH m else m
  if m1.fs = s then { m1 with fs := 0, fc := 0 } else m1
end Go.Proofs.YtmpncpamndhmcaaGreat
end

/-! The view in which a pointer lies at blocks of its own: what it shows, and how it turns. Conditions: as each lemma states them. -/
section
namespace Go.Proofs.YtmpncpamndhmcaaGreat
open Go Go.Ab Go.RowKit

/-- A pointer's blocks: its own, the log, the focus, the grabs, the map of the pressed buttons; and the row of the popups. -/
structure PB where
  p : Nat
  lg : Nat
  fo : Nat
  gr : Nat
  mp : Nat
  ch : Option (Nat × Bool × List AV)
def chI (c : Option (Nat × Bool × List AV)) : List Nat := match c with | none => [] | some x => [x.1]
def PB.ids (B : PB) : List Nat := [B.p, B.lg, B.fo, B.mp, B.gr] ++ chI B.ch
def chA (l : List Int) (c : Option (Nat × Bool × List AV)) : AV := match c with | none => vnil | some (k, x, _) => .sl k 0 l.length 1 x
def chH (G : AH) (l : List Int) (c : Option (Nat × Bool × List AV)) : AH := match c with | none => G | some (k, _, rest) => upd G k (.cells (l.map vi ++ rest))
def lgc (l : Lg) : List AV := [vb true, vu l.la, vi l.at_] ++ l.es
def foc (B : PB) (m : PS) : List AV := [pA B.lg, vi m.fs, vi m.fc, vb m.fl]
def mpv (B : PB) : AV := .pl (.map (some B.mp))
def ptc (B : PB) (m : PS) : List AV := [pA B.lg, pA B.fo, pA B.gr, mpv B, vi m.x, vi m.y, vi m.hd, vb m.td, vi m.lt]
def prI (l : List Int) : List (Value × AV) := mI id (fun _ => vb true) l
def PV (G : AH) (B : PB) (m : PS) : AH :=
  upd (upd (upd (upd (upd (chH G m.g.ch B.ch) B.gr (.cells (cellsOf m.g (chA m.g.ch B.ch)))) B.mp (.map (prI m.pr) m.st m.ck)) B.fo (.cells (foc B m))) B.lg (.cells (lgc m.lg))) B.p (.cells (ptc B m))
structure BOk (G : AH) (B : PB) (m : PS) : Prop where
  free : ∀ j ∈ B.ids, G j = none
  nd : B.ids.Nodup
  ch : B.ch = none → m.g.ch = []
  es : m.lg.es.length = 1024
  at_ : m.lg.at_ < 256
  st : Stp m.st m.ck m.pr.length
  len : m.g.ch.length ≤ 8
section
variable {G : AH} {B : PB} {m : PS}
theorem BOk.ne (h : BOk G B m) : B.p ≠ B.lg ∧ B.p ≠ B.fo ∧ B.p ≠ B.mp ∧ B.p ≠ B.gr ∧ B.lg ≠ B.fo ∧ B.lg ≠ B.mp ∧ B.lg ≠ B.gr ∧ B.fo ≠ B.mp ∧ B.fo ≠ B.gr ∧ B.mp ≠ B.gr := by
  have := h.nd
  simp only [PB.ids, List.cons_append, List.nil_append, List.nodup_cons, List.mem_cons, not_or] at this
  obtain ⟨⟨a1, a2, a3, a4, _⟩, ⟨b1, b2, b3, _⟩, ⟨c1, c2, _⟩, ⟨d1, _⟩, _⟩ := this
  exact ⟨a1, a2, a3, a4, b1, b2, b3, c1, c2, d1⟩
theorem BOk.nk (h : BOk G B m) {k : Nat} {x : Bool} {r : List AV} (e : B.ch = some (k, x, r)) : B.p ≠ k ∧ B.lg ≠ k ∧ B.fo ≠ k ∧ B.mp ≠ k ∧ B.gr ≠ k := by
  have := h.nd
  simp only [PB.ids, e, chI, List.cons_append, List.nil_append, List.nodup_cons, List.mem_cons, not_or] at this
  obtain ⟨⟨_, _, _, _, a, _⟩, ⟨_, _, _, b, _⟩, ⟨_, _, c, _⟩, ⟨_, d, _⟩, ⟨e, _⟩, _⟩ := this
  exact ⟨a, b, c, d, e⟩
theorem PV_p : PV G B m B.p = some (.cells (ptc B m)) := by simp [PV, upd_apply]
theorem PV_lg (h : BOk G B m) : PV G B m B.lg = some (.cells (lgc m.lg)) := by
  have := h.ne
  simp [PV, upd_apply, Ne.symm this.1]
theorem PV_fo (h : BOk G B m) : PV G B m B.fo = some (.cells (foc B m)) := by
  obtain ⟨n1, n2, n3, n4, n5, n6, n7, n8, n9, n10⟩ := h.ne
  simp [PV, upd_apply, Ne.symm n2, Ne.symm n5]
theorem PV_mp (h : BOk G B m) : PV G B m B.mp = some (.map (prI m.pr) m.st m.ck) := by
  obtain ⟨n1, n2, n3, n4, n5, n6, n7, n8, n9, n10⟩ := h.ne
  simp [PV, upd_apply, Ne.symm n3, Ne.symm n6, Ne.symm n8]
theorem PV_gr (h : BOk G B m) : PV G B m B.gr = some (.cells (cellsOf m.g (chA m.g.ch B.ch))) := by
  obtain ⟨n1, n2, n3, n4, n5, n6, n7, n8, n9, n10⟩ := h.ne
  simp [PV, upd_apply, Ne.symm n4, Ne.symm n7, Ne.symm n9, Ne.symm n10]
theorem PV_out {j : Nat} (hj : j ∉ B.ids) : PV G B m j = G j := by
  simp only [PB.ids, List.cons_append, List.nil_append, List.mem_cons, not_or] at hj
  obtain ⟨a, b, c, d, e, f⟩ := hj
  simp only [PV, upd_apply, a, b, c, d, e, if_false]
  unfold chH
  cases hc : B.ch with
  | none => rfl
  | some x =>
    obtain ⟨k, y, r⟩ := x
    simp only [chI, hc, List.mem_singleton] at f
    simp [upd_apply, f]
theorem PV_id {j : Nat} (hj : j ∈ B.ids) : PV G B m j ≠ none := by
  simp only [PB.ids, List.cons_append, List.nil_append, List.mem_cons] at hj
  simp only [PV, upd_apply]
  rcases hj with h | h | h | h | h | h
  · subst h; repeat' split
    all_goals simp_all
  · subst h; repeat' split
    all_goals simp_all
  · subst h; repeat' split
    all_goals simp_all
  · subst h; repeat' split
    all_goals simp_all
  · subst h; repeat' split
    all_goals simp_all
  unfold chI at h
  unfold chH
  cases hc : B.ch with
  | none => simp [hc] at h
  | some x =>
    obtain ⟨k, y, r⟩ := x
    simp only [hc, List.mem_singleton] at h
    repeat' split
    all_goals simp [upd_apply, h]
theorem PV_free {b : Nat} (hb : PV G B m b = none) : b ∉ B.ids ∧ G b = none := by
  have h1 : b ∉ B.ids := fun h => PV_id h hb
  exact ⟨h1, (PV_out (G := G) (m := m) h1).symm.trans hb⟩
theorem PV_sub (h : BOk G B m) : Sub G (PV G B m) := fun j o hj => by
  rw [PV_out (fun hm => by rw [h.free j hm] at hj; cases hj)]
  exact hj
theorem PV_cong {G' : AH} (h : Sub G G') : Sub (PV G B m) (PV G' B m) := by
  unfold PV
  refine Sub.cong (Sub.cong (Sub.cong (Sub.cong (Sub.cong ?_))))
  unfold chH
  cases B.ch with
  | none => exact h
  | some x => exact Sub.cong h
theorem upd_upd_ne {H : AH} {a b : Nat} {x y : AO} (h : a ≠ b) : upd (upd H a x) b y = upd (upd H b y) a x := by
  funext j
  simp only [upd_apply]
  by_cases h1 : j = a
  · subst h1; simp [h]
  · simp [h1]
theorem upd_twice {H : AH} {a : Nat} {x y : AO} : upd (upd H a x) a y = upd H a y := by
  funext j
  simp only [upd_apply]
  split <;> rfl
theorem PV_upd {b : Nat} {o : AO} (hb : b ∉ B.ids) : upd (PV G B m) b o = PV (upd G b o) B m := by
  simp only [PB.ids, List.cons_append, List.nil_append, List.mem_cons, not_or] at hb
  obtain ⟨n1, n2, n3, n4, n5, n6⟩ := hb
  unfold PV
  rw [upd_upd_ne (Ne.symm n1), upd_upd_ne (Ne.symm n2), upd_upd_ne (Ne.symm n3), upd_upd_ne (Ne.symm n4), upd_upd_ne (Ne.symm n5)]
  congr 5
  unfold chH
  cases hc : B.ch with
  | none => rfl
  | some x =>
    obtain ⟨k, y, r⟩ := x
    simp only [chI, hc, List.mem_singleton] at n6
    exact upd_upd_ne (Ne.symm n6)
theorem BOk.upd {b : Nat} {o : AO} (h : BOk G B m) (hb : b ∉ B.ids) : BOk (upd G b o) B m :=
  ⟨fun j hj => by simp only [upd_apply]; rw [if_neg (by rintro rfl; exact hb hj)]; exact h.free j hj, h.nd, h.ch, h.es, h.at_, h.st, h.len⟩
/-- A new block beside the pointer. -/
theorem PV_new (h : BOk G B m) {b : Nat} (hb : PV G B m b = none) (o : AO) : upd (PV G B m) b o = PV (upd G b o) B m ∧ BOk (upd G b o) B m ∧ G b = none ∧ Sub G (upd G b o) :=
  ⟨PV_upd (PV_free hb).1, h.upd (PV_free hb).1, (PV_free hb).2, (Sub.refl G).upd (PV_free hb).2⟩
/-- A block beside the pointer turns. -/
theorem PV_set (h : BOk G B m) {b : Nat} {c : AO} (hb : G b = some c) (o : AO) : upd (PV G B m) b o = PV (upd G b o) B m ∧ BOk (upd G b o) B m := by
  have hn : b ∉ B.ids := fun hm => by rw [h.free b hm] at hb; cases hb
  exact ⟨PV_upd hn, h.upd hn⟩
theorem PV_beside (h : BOk G B m) {b : Nat} {c : AO} (hb : G b = some c) : PV G B m b = some c := PV_sub h b c hb
theorem PV_wp {x y hd lt : Int} {td : Bool} : upd (PV G B m) B.p (.cells (ptc B { m with x := x, y := y, hd := hd, td := td, lt := lt })) = PV G B { m with x := x, y := y, hd := hd, td := td, lt := lt } := upd_twice
theorem PV_wlg (h : BOk G B m) (l : Lg) : upd (PV G B m) B.lg (.cells (lgc l)) = PV G B { m with lg := l } := by
  unfold PV
  rw [upd_upd_ne h.ne.1, upd_twice]
  rfl
theorem PV_wfo (h : BOk G B m) (a c : Int) (l : Bool) : upd (PV G B m) B.fo (.cells (foc B { m with fs := a, fc := c, fl := l })) = PV G B { m with fs := a, fc := c, fl := l } := by
  obtain ⟨n1, n2, n3, n4, n5, n6, n7, n8, n9, n10⟩ := h.ne
  unfold PV
  rw [upd_upd_ne n2, upd_upd_ne n5, upd_twice]
  rfl
theorem PV_wmp (h : BOk G B m) (l : List Int) (s : List Nat) (c : Nat) : upd (PV G B m) B.mp (.map (prI l) s c) = PV G B { m with pr := l, st := s, ck := c } := by
  obtain ⟨n1, n2, n3, n4, n5, n6, n7, n8, n9, n10⟩ := h.ne
  unfold PV
  rw [upd_upd_ne n3, upd_upd_ne n6, upd_upd_ne n8, upd_twice]
  rfl
/-- The grabs of a pointer, as the stack's own lemmas speak of them. -/
def grF (B : PB) (j : Nat) : Prop := j = B.gr ∨ j ∈ chI B.ch
theorem BOk.stack (h : BOk G B m) : St (PV G B m) (grF B) B.gr m.g := by
  refine ⟨chA m.g.ch B.ch, PV_gr h, .inl rfl, ?_, fun j hj => ?_⟩
  · cases hc : B.ch with
    | none => exact .inl ⟨h.ch hc, by simp [chA]⟩
    | some x =>
      obtain ⟨k, y, r⟩ := x
      obtain ⟨k1, k2, k3, k4, k5⟩ := h.nk hc
      refine .inr ⟨k, y, r, by simp [chA], ?_, .inr (by simp [chI, hc]), Ne.symm k5⟩
      simp [PV, upd_apply, Ne.symm k1, Ne.symm k2, Ne.symm k3, Ne.symm k4, Ne.symm k5, chH, hc]
  · rcases hj with rfl | hj
    · rw [PV_gr h]; simp
    · exact PV_id (by simp [PB.ids, hj])
/-- The stack has turned: the view of the pointer anew. -/
theorem BOk.grabs2 (h : BOk G B m) {H' : AH} {F' : Nat → Prop} {g' : M} (hs : St H' F' B.gr g') (hst : OSt (grF B) (PV G B m) F' H') (hl : g'.ch.length ≤ 8) :
    ∃ c, BOk G { B with ch := c } { m with g := g' } ∧ Sub (PV G { B with ch := c } { m with g := g' }) H' ∧ ∀ j ∈ chI c, F' j := by
  obtain ⟨a, h1, h2, h3, h4⟩ := hs
  obtain ⟨n1, n2, n3, n4, n5, n6, n7, n8, n9, n10⟩ := h.ne
  have keep : ∀ j, ¬ grF B j → PV G B m j ≠ none → H' j = PV G B m j := hst.2
  have nch : ∀ j ∈ [B.p, B.lg, B.fo, B.mp], ¬ grF B j := by
    intro j hj hg
    have hnd := h.nd
    simp only [PB.ids] at hnd
    rw [List.nodup_append] at hnd
    rcases hg with rfl | hg
    · simp only [List.mem_cons, List.not_mem_nil, or_false] at hj
      rcases hj with e | e | e | e
      · exact n4 e.symm
      · exact n7 e.symm
      · exact n9 e.symm
      · exact n10 e.symm
    · exact hnd.2.2 j (by simp only [List.mem_cons, List.not_mem_nil, or_false] at hj ⊢; rcases hj with e | e | e | e <;> simp [e]) j hg rfl
  have kp : H' B.p = some (.cells (ptc B m)) := by rw [keep _ (nch _ (by simp)) (by rw [PV_p]; simp), PV_p]
  have kl : H' B.lg = some (.cells (lgc m.lg)) := by rw [keep _ (nch _ (by simp)) (by rw [PV_lg h]; simp), PV_lg h]
  have kf : H' B.fo = some (.cells (foc B m)) := by rw [keep _ (nch _ (by simp)) (by rw [PV_fo h]; simp), PV_fo h]
  have km : H' B.mp = some (.map (prI m.pr) m.st m.ck) := by rw [keep _ (nch _ (by simp)) (by rw [PV_mp h]; simp), PV_mp h]
  have kG : Sub G H' := fun j o hj => by
    have hn : j ∉ B.ids := fun hm => by rw [h.free j hm] at hj; cases hj
    have hg : ¬ grF B j := fun hg => hn (by rcases hg with rfl | hg <;> simp [PB.ids, *])
    rw [keep j hg (by rw [PV_out hn, hj]; simp), PV_out hn]
    exact hj
  have nd5 : [B.p, B.lg, B.fo, B.mp, B.gr].Nodup := by simp [n1, n2, n3, n4, n5, n6, n7, n8, n9, n10]
  have fr5 : ∀ j ∈ [B.p, B.lg, B.fo, B.mp, B.gr], G j = none := fun j hj => h.free j (by simp only [PB.ids]; exact List.mem_append_left _ hj)
  rcases h3 with ⟨e1, rfl⟩ | ⟨k, x, rest, rfl, hk, hFk, hki⟩
  · refine ⟨none, ⟨fun j hj => fr5 j (by simpa [PB.ids, chI] using hj), by simpa [PB.ids, chI] using nd5, fun _ => e1, h.es, h.at_, h.st, hl⟩, fun j o hj => ?_, fun j hj => by cases hj⟩
    simp only [PV, upd_apply, chH] at hj
    repeat' split at hj
    all_goals first
      | (rename_i e; rw [e, ← hj]; first | exact kp | exact kl | exact kf | exact km | exact h1)
      | exact kG j o hj
  · have hkG : G k = none ∧ k ∉ [B.p, B.lg, B.fo, B.mp, B.gr] := by
      rcases hst.1 k hFk with hg | hn
      · rcases hg with rfl | hg
        · exact absurd rfl hki
        · refine ⟨h.free k (by simp [PB.ids, hg]), fun hm => ?_⟩
          have hnd := h.nd
          simp only [PB.ids] at hnd
          rw [List.nodup_append] at hnd
          exact hnd.2.2 k hm k hg rfl
      · obtain ⟨q1, q2⟩ := PV_free hn
        exact ⟨q2, fun hm => q1 (by simp only [PB.ids]; exact List.mem_append_left _ hm)⟩
    refine ⟨some (k, x, rest), ⟨fun j hj => ?_, ?_, (fun e => by cases e), h.es, h.at_, h.st, hl⟩, fun j o hj => ?_, fun j hj => by rw [show j = k by simpa [chI] using hj]; exact hFk⟩
    · simp only [PB.ids, chI, List.mem_append, List.mem_singleton] at hj
      rcases hj with hj | rfl
      · exact fr5 j hj
      · exact hkG.1
    · simp only [PB.ids, chI]
      rw [List.nodup_append]
      exact ⟨nd5, by simp, fun a ha b hb e => by rw [List.mem_singleton] at hb; subst hb; subst e; exact hkG.2 ha⟩
    · simp only [PV, upd_apply, chH] at hj
      repeat' split at hj
      all_goals first
        | (rename_i e; rw [e, ← hj]; first | exact kp | exact kl | exact kf | exact km | exact h1 | exact hk)
        | exact kG j o hj
theorem BOk.grabs (h : BOk G B m) {H' : AH} {F' : Nat → Prop} {g' : M} (hs : St H' F' B.gr g') (hst : OSt (grF B) (PV G B m) F' H') (hl : g'.ch.length ≤ 8) :
    ∃ c, BOk G { B with ch := c } { m with g := g' } ∧ Sub (PV G { B with ch := c } { m with g := g' }) H' := by
  obtain ⟨c, h1, h2, _⟩ := h.grabs2 hs hst hl
  exact ⟨c, h1, h2⟩
end
end Go.Proofs.YtmpncpamndhmcaaGreat
end

/-! What the events of a pointer deliver, in plain words: groups with a frame at their end; entering and leaving in turn. No program in sight; conditions: as each lemma states them. -/
section
namespace Go.Proofs.YtmpncpamndhmcaaGreat
open Go Go.Ab Go.RowKit

def frD (d : Dl) : Dl := ⟨d.cl, d.sf, 6, 0, 0, 0, 0, 0, 0⟩
theorem grp_len : ∀ l : List Dl, (grpL l).length ≤ 2 * l.length
  | [] => by simp [grpL]
  | [d] => by simp [grpL]
  | d :: e :: l => by
    have ih := grp_len (e :: l)
    unfold grpL
    simp only [List.length_cons] at ih ⊢
    split <;> simp only [List.length_cons] <;> omega

/-! ### Entering and leaving -/
def altF : Int → List Dl → Option Int
  | e, [] => some e
  | e, d :: l => if d.kd = 1 then (if e ≠ 0 then none else altF d.sf l) else if d.kd = 2 then (if e ≠ d.sf then none else altF 0 l) else if d.kd = 3 ∨ d.kd = 4 ∨ d.kd = 5 then (if e ≠ d.sf then none else altF e l) else altF e l
theorem altF_app : ∀ (a b : List Dl) (e : Int), altF e (a ++ b) = (altF e a).bind fun e' => altF e' b
  | [], b, e => rfl
  | d :: a, b, e => by
    simp only [List.cons_append, altF]
    repeat' split
    all_goals first | rfl | exact altF_app a b _
theorem altF_grp : ∀ (l : List Dl) (e : Int), altF e (grpL l) = altF e l
  | [], e => rfl
  | [d], e => by
    simp only [grpL, altF]
    repeat' split
    all_goals first | rfl | simp_all
  | d :: x :: l, e => by
    have ih := altF_grp (x :: l)
    by_cases hs : d.cl = x.cl ∧ d.sf = x.sf
    · have eq : grpL (d :: x :: l) = d :: grpL (x :: l) := by rw [grpL, if_pos hs]
      rw [eq]
      conv => lhs; unfold altF
      conv => rhs; unfold altF
      simp only [ih]
    · have eq : grpL (d :: x :: l) = d :: frD d :: grpL (x :: l) := by rw [grpL, if_neg hs]; rfl
      have h6 : ∀ e, altF e (frD d :: grpL (x :: l)) = altF e (x :: l) := fun e => by
        rw [← ih e]
        conv => lhs; unfold altF
        simp [frD]
      rw [eq]
      conv => lhs; unfold altF
      conv => rhs; unfold altF
      simp only [h6]
/-- Items whose surfaces and clients are numbers from 1 on. -/
def PosL (L : List It) : Prop := ∀ i ∈ L, 1 ≤ i.sf ∧ 1 ≤ i.cl
/-- The focus is a surface of a client, or none. -/
def InvF (m : PS) : Prop := (m.fs = 0 ∧ m.fc = 0) ∨ (1 ≤ m.fs ∧ 1 ≤ m.fc)
theorem tgt_pos {L : List It} (hL : PosL L) (x y : Int) : ((tgtF L x y).1 = 0 ∧ (tgtF L x y).2 = 0) ∨ (1 ≤ (tgtF L x y).1 ∧ 1 ≤ (tgtF L x y).2) := by
  unfold tgtF
  split
  · rename_i i hi
    split
    · exact .inl ⟨rfl, rfl⟩
    · exact .inr (hL i (List.mem_of_getElem? hi))
  · exact .inl ⟨rfl, rfl⟩
theorem posL_nil : PosL [] := fun i hi => by cases hi
theorem posL_if {L : List It} {c : Prop} [Decidable c] (hL : PosL L) : PosL (if c then [] else L) := by
  split
  · exact posL_nil
  · exact hL
theorem upd_alt {m : PS} {L : List It} (hi : InvF m) (hL : PosL L) (x y : Int) : InvF (updM m L x y).1 ∧ altF m.fs (updM m L x y).2 = some (updM m L x y).1.fs ∧ (∀ d ∈ (updM m L x y).2, d.kd ≠ 6) ∧ (updM m L x y).1.fl = m.fl ∧ (updM m L x y).1.g = m.g ∧ (updM m L x y).1.pr = m.pr ∧ (updM m L x y).1.hd = m.hd := by
  have ht := tgt_pos hL x y
  unfold updM
  split
  · exact ⟨hi, rfl, by simp, rfl, rfl, rfl, rfl⟩
  · simp only
    generalize hT : tgtF L x y = T at ht
    split
    · exact ⟨hi, rfl, by simp, rfl, rfl, rfl, rfl⟩
    · rename_i hne
      refine ⟨ht, ?_, ?_, rfl, rfl, rfl, rfl⟩
      · rcases hi with ⟨h1, h2⟩ | ⟨h1, h2⟩ <;> rcases ht with ⟨h3, h4⟩ | ⟨h3, h4⟩
        · exact absurd ⟨by omega, by omega⟩ hne
        · have t1 : ¬ T.1 = 0 := by omega
          simp [h1, h2, t1, altF]
        · have f1 : ¬ m.fs = 0 := by omega
          simp [f1, h3, h4, altF]
        · have t1 : ¬ T.1 = 0 := by omega
          have f1 : ¬ m.fs = 0 := by omega
          simp [f1, t1, altF]
      · intro d hd
        rw [List.mem_append] at hd
        rcases hd with hd | hd
        · split at hd
          · rw [List.mem_singleton] at hd; subst hd; simp
          · cases hd
        · split at hd
          · rw [List.mem_singleton] at hd; subst hd; simp
          · cases hd
theorem ref_alt {m : PS} {L : List It} (hi : InvF m) (hL : PosL L) : InvF (refM m L).1 ∧ altF m.fs (refM m L).2 = some (refM m L).1.fs ∧ (∀ d ∈ (refM m L).2, d.kd ≠ 6) ∧ (refM m L).1.fl = m.fl ∧ (refM m L).1.g = m.g ∧ (refM m L).1.pr = m.pr ∧ (refM m L).1.hd = m.hd :=
  upd_alt hi (posL_if hL) _ _
theorem send_alt {m : PS} {out : List Dl} {d : Dl} {e : Int} (hd : d.kd = 3 ∨ d.kd = 4 ∨ d.kd = 5) (ho : altF e out = some m.fs) (hk : ∀ d ∈ out, d.kd ≠ 6) :
    altF e (sendM m out d).2 = some (sendM m out d).1.fs ∧ (∀ y ∈ (sendM m out d).2, y.kd ≠ 6) ∧ (sendM m out d).1.fs = m.fs ∧ (sendM m out d).1.fc = m.fc ∧ (sendM m out d).1.fl = m.fl ∧ (sendM m out d).1.g = m.g ∧ (sendM m out d).1.pr = m.pr ∧ (sendM m out d).1.hd = m.hd := by
  have key : ∀ x : Dl, x.kd = d.kd → x.sf = m.fs → altF e (out ++ [x]) = some m.fs ∧ ∀ y ∈ out ++ [x], y.kd ≠ 6 := by
    intro x h1 h2
    constructor
    · rw [altF_app, ho]
      have n1 : ¬ x.kd = 1 := by omega
      have n2 : ¬ x.kd = 2 := by omega
      have n3 : x.kd = 3 ∨ x.kd = 4 ∨ x.kd = 5 := by omega
      simp [altF, n1, n2, n3, h2]
    · intro y hy
      rcases List.mem_append.1 hy with hy | hy
      · exact hk y hy
      · rw [List.mem_singleton] at hy; subst hy; omega
  cases hok : okM m with
  | false =>
    have es : sendM m out d = (m, out) := by simp [sendM, hok]
    rw [es]
    exact ⟨ho, hk, rfl, rfl, rfl, rfl, rfl, rfl⟩
  | true =>
    by_cases h4 : d.kd = 4
    · have es : sendM m out d = ({ m with lg := issL m.lg m.fc m.fs 4 }, out ++ [{ d with cl := m.fc, sf := m.fs, tm := m.lt, sr := issN m.lg m.fc m.fs 4 }]) := by unfold sendM; rw [if_pos hok, if_pos h4]
      obtain ⟨k1, k2⟩ := key { d with cl := m.fc, sf := m.fs, tm := m.lt, sr := issN m.lg m.fc m.fs 4 } rfl rfl
      rw [es]
      exact ⟨k1, k2, rfl, rfl, rfl, rfl, rfl, rfl⟩
    · have es : sendM m out d = (m, out ++ [{ d with cl := m.fc, sf := m.fs, tm := m.lt }]) := by unfold sendM; rw [if_pos hok, if_neg h4]
      obtain ⟨k1, k2⟩ := key { d with cl := m.fc, sf := m.fs, tm := m.lt } rfl rfl
      rw [es]
      exact ⟨k1, k2, rfl, rfl, rfl, rfl, rfl, rfl⟩
end Go.Proofs.YtmpncpamndhmcaaGreat
end

/-! Entering and leaving alternate, event by event; and what an event leaves as it was. No program in sight; conditions: as each lemma states them. -/
section
namespace Go.Proofs.YtmpncpamndhmcaaGreat
open Go Go.Ab Go.RowKit

def Alt (e : Int) (r : PS × List Dl) : Prop := InvF r.1 ∧ altF e r.2 = some r.1.fs ∧ ∀ d ∈ r.2, d.kd ≠ 6
theorem send_Alt {m : PS} {out : List Dl} {d : Dl} {e : Int} (hi : InvF m) (hd : d.kd = 3 ∨ d.kd = 4 ∨ d.kd = 5) (ho : altF e out = some m.fs) (hk : ∀ d ∈ out, d.kd ≠ 6) : Alt e (sendM m out d) := by
  obtain ⟨h1, h2, h3, h4, _⟩ := send_alt hd ho hk
  exact ⟨by unfold InvF; rw [h3, h4]; exact hi, h1, h2⟩
theorem mot_Alt {m : PS} {L : List It} (hi : InvF m) (hL : PosL L) (e : Ev) : Alt m.fs (motM m L e) := by
  obtain ⟨h1, h2, h3, _⟩ := ref_alt (m := { m with x := e.x, y := e.y }) hi hL
  unfold motM
  simp only
  split
  · exact send_Alt h1 (.inl rfl) h2 h3
  · exact ⟨h1, h2, h3⟩
theorem grb_fs (m : PS) : (grbM m).fs = m.fs ∧ (grbM m).fc = m.fc ∧ (grbM m).fl = m.fl ∧ (grbM m).pr = m.pr := by
  unfold grbM
  split <;> exact ⟨rfl, rfl, rfl, rfl⟩
theorem pre_Alt {m : PS} (hi : InvF m) (e : Ev) : Alt m.fs (preM m e) := by
  unfold preM
  simp only
  have h : (if m.pr = [] then grbM { m with fl := true } else m).fs = m.fs ∧ (if m.pr = [] then grbM { m with fl := true } else m).fc = m.fc := by
    split
    · exact ⟨(grb_fs _).1, (grb_fs _).2.1⟩
    · exact ⟨rfl, rfl⟩
  generalize (if m.pr = [] then grbM { m with fl := true } else m) = m1 at h
  refine send_Alt ?_ (.inr (.inl rfl)) ?_ (by simp)
  · unfold InvF at hi ⊢; simp only [h.1, h.2]; exact hi
  · simp only [altF, h.1]
theorem endH_fs (m : PS) : (endH m).fs = m.fs ∧ (endH m).fc = m.fc ∧ (endH m).fl = m.fl ∧ (endH m).pr = m.pr := by
  unfold endH
  split <;> exact ⟨rfl, rfl, rfl, rfl⟩
theorem rel_Alt {m : PS} {L : List It} (hi : InvF m) (hL : PosL L) (e : Ev) : Alt m.fs (relM m L e) := by
  obtain ⟨h1, h2, h3⟩ : Alt m.fs (sendM (delP m e.co) [] ⟨0, 0, 4, 0, 0, 0, e.co, e.va, 0⟩) := send_Alt (m := delP m e.co) hi (.inr (.inl rfl)) rfl (by simp)
  unfold relM
  simp only
  generalize sendM (delP m e.co) [] ⟨0, 0, 4, 0, 0, 0, e.co, e.va, 0⟩ = s at h1 h2 h3
  split
  · exact ⟨h1, h2, h3⟩
  · have h4 := endH_fs s.1
    have hi4 : InvF { endH s.1 with fl := false } := by unfold InvF at h1 ⊢; simp only [h4.1, h4.2.1]; exact h1
    obtain ⟨g1, g2, g3, _⟩ := ref_alt hi4 hL
    refine ⟨g1, ?_, fun d hd => ?_⟩
    · have e : ({ endH s.1 with fl := false } : PS).fs = s.1.fs := h4.1
      rw [e] at g2
      simp only
      rw [altF_app, h2]
      exact g2
    · rcases List.mem_append.1 hd with hd | hd
      · exact h3 d hd
      · exact g3 d hd
theorem tick_fs (m : PS) (e : Ev) : (tickM m e).fs = m.fs ∧ (tickM m e).fc = m.fc ∧ (tickM m e).fl = m.fl ∧ (tickM m e).pr = m.pr ∧ (tickM m e).g = m.g ∧ (tickM m e).hd = m.hd := by
  unfold tickM
  split <;> exact ⟨rfl, rfl, rfl, rfl, rfl, rfl⟩
/-- What an event delivers, before it is grouped. -/
def rawM (m : PS) (L : List It) (e : Ev) : PS × List Dl :=
  if e.kd = 1 then motM (tickM m e) L e else if e.kd = 2 then (if e.va = 1 then preM (tickM m e) e else relM (tickM m e) L e) else sendM (tickM m e) [] ⟨0, 0, 5, 0, 0, 0, e.co, e.va, 0⟩
theorem feed_raw {m : PS} {L : List It} {e : Ev} (h : chkM m e = 0) : feedM m L e = ((rawM m L e).1, grpL (rawM m L e).2, 0) := by
  unfold feedM rawM
  rw [if_neg (by simpa using h)]
theorem feed_bad {m : PS} {L : List It} {e : Ev} (h : chkM m e ≠ 0) : feedM m L e = (m, [], chkM m e) := by
  unfold feedM
  rw [if_pos h]
theorem raw_Alt {m : PS} {L : List It} (hi : InvF m) (hL : PosL L) (e : Ev) : Alt m.fs (rawM m L e) := by
  obtain ⟨t1, t2, _⟩ := tick_fs m e
  have hi' : InvF (tickM m e) := by unfold InvF at hi ⊢; rw [t1, t2]; exact hi
  unfold rawM
  rw [← t1]
  split
  · exact mot_Alt hi' hL e
  · split
    · split
      · exact pre_Alt hi' e
      · exact rel_Alt hi' hL e
    · exact send_Alt hi' (.inr (.inr rfl)) rfl (by simp)
theorem feed_Alt {m : PS} {L : List It} (hi : InvF m) (hL : PosL L) (e : Ev) : InvF (feedM m L e).1 ∧ altF m.fs (feedM m L e).2.1 = some (feedM m L e).1.fs := by
  by_cases h : chkM m e = 0
  · rw [feed_raw h]
    obtain ⟨h1, h2, h3⟩ := raw_Alt hi hL e
    exact ⟨h1, by rw [altF_grp]; exact h2⟩
  · rw [feed_bad h]
    exact ⟨hi, rfl⟩
theorem gone_fs (m : PS) (s : Int) : InvF m → InvF (goneM m s) ∧ (goneM m s).fs = if m.fs = s then 0 else m.fs := by
  intro hi
  have h : (if m.hd = s then endH m else m).fs = m.fs ∧ (if m.hd = s then endH m else m).fc = m.fc := by
    split
    · exact ⟨(endH_fs m).1, (endH_fs m).2.1⟩
    · exact ⟨rfl, rfl⟩
  unfold goneM
  simp only
  generalize (if m.hd = s then endH m else m) = m1 at h
  rw [h.1]
  split
  · exact ⟨.inl ⟨rfl, rfl⟩, rfl⟩
  · exact ⟨by unfold InvF at hi ⊢; rw [h.1, h.2]; exact hi, h.1⟩
end Go.Proofs.YtmpncpamndhmcaaGreat
end

/-! Items of a scene, walked: a valid buffer, an item's area and bounds, whether it accepts a point. Conditions: as each lemma states them. -/
section
namespace Go.Proofs.YtmpncpamndhmcaaGreat
open Go Go.Ab Go.RowKit

attribute [local simp] rc_len rc_t4 rc_t1 rc_t2 rc_t3 rc_d1 rc_d2 rc_d3 rc_d4 rc_ag rc_one rc_eq min2_t min2_f

theorem c159 (n : Int) : PC Tryz.prog 159 [vi n] (vb (szOk n)) := by
  refine .tell fun H => ?_
  refine call_c follows cf159_ok (by simp) ?_
  repeat' (first | simp [*] | (with_reducible (refine newK_of fun _ h_ => ?_); have hn_ := free_ne h_; (try simp only [upd_none', ne_eq] at h_)) | (with_reducible (refine condK_of (fun h_ => ?_) (fun h_ => ?_))))
  all_goals ((try with_reducible refine And.intro ?_ ?_) <;> (try (repeat' (first | with_reducible exact Sub.refl _ | with_reducible refine Sub.of_upd (by simp [*]) ?_))))
  all_goals (simp_all [szOk] <;> omega)
theorem c156 (x y : Int) : PC Tryz.prog 156 [vi x, vi y] (vb (posOk x y)) := by
  refine .tell fun H => ?_
  refine call_c follows cf156_ok (by simp) ?_
  repeat' (first | simp [*] | (with_reducible (refine newK_of fun _ h_ => ?_); have hn_ := free_ne h_; (try simp only [upd_none', ne_eq] at h_)) | (with_reducible (refine condK_of (fun h_ => ?_) (fun h_ => ?_))))
  all_goals ((try with_reducible refine And.intro ?_ ?_) <;> (try (repeat' (first | with_reducible exact Sub.refl _ | with_reducible refine Sub.of_upd (by simp [*]) ?_))))
  all_goals (simp_all [posOk] <;> omega)
theorem c165 (p : Px) : PC Tryz.prog 165 [.ag (pxc p)] (.ag (pxc ⟨min p.r p.a, min p.g p.a, min p.b p.a, p.a⟩)) := by
  refine .tell fun H => ?_
  refine call_c follows cf165_ok (by simp) ?_
  repeat' (first | simp [*, pxc, v8] | (with_reducible (refine newK_of fun _ h_ => ?_); have hn_ := free_ne h_; (try simp only [upd_none', ne_eq] at h_)) | (with_reducible (refine condK_of (fun h_ => ?_) (fun h_ => ?_))))
  all_goals ((try with_reducible refine And.intro ?_ ?_) <;> (try (repeat' (first | with_reducible exact Sub.refl _ | with_reducible refine Sub.of_upd (by simp [*]) ?_))))
theorem pxOk_iff (p : Px) : (min p.r p.a = p.r ∧ min p.g p.a = p.g ∧ min p.b p.a = p.b) ↔ pxOk p = true := by
  simp [pxOk]; omega
theorem c162 (p : Px) : PC Tryz.prog 162 [.ag (pxc p)] (vb (pxOk p)) := by
  refine .tell fun H => ?_
  refine call_c follows cf162_ok (by simp) ?_
  have he : eqL [1, 1, 1, 1] (pxc ⟨min p.r p.a, min p.g p.a, min p.b p.a, p.a⟩) (pxc p) = some (pxOk p) := by
    have := pxOk_iff p
    simp only [pxc, v8, eqL, if_true, Option.map_some, Option.some.injEq, beq_self_eq_true, Bool.and_true]
    show (min p.r p.a == p.r && (min p.g p.a == p.g && min p.b p.a == p.b)) = pxOk p
    cases h : pxOk p with
    | true => rw [h] at this; simp [this.2 rfl]
    | false =>
      rw [h] at this
      cases hh : (min p.r p.a == p.r && (min p.g p.a == p.g && min p.b p.a == p.b)) with
      | false => rfl
      | true => simp only [Bool.and_eq_true, beq_iff_eq] at hh; exact absurd (this.1 hh) (by simp)
  have hl : (pxc p).length = 4 := rfl
  have ht : (pxc p).take 4 = pxc p := rfl
  have ho : (pxc p).all AV.one = true := rfl
  generalize hq : (⟨min p.r p.a, min p.g p.a, min p.b p.a, p.a⟩ : Px) = q at he
  have hcl := c165 p
  rw [hq] at hcl
  repeat' (first | simp [hl, ht, he] | simp [*] | (with_reducible (refine newK_of fun _ h_ => ?_); have hn_ := free_ne h_; (try simp only [upd_none', ne_eq] at h_)) | (with_reducible (refine condK_of (fun h_ => ?_) (fun h_ => ?_))) | with_reducible (refine hcl.ac ?_))
  all_goals ((try with_reducible refine And.intro ?_ ?_) <;> (try (repeat' (first | with_reducible exact Sub.refl _ | with_reducible refine Sub.of_upd (by simp [*]) ?_))))
theorem c161 (p : Px) : PC Tryz.prog 161 [.ag (pxc p)] (vb (!pxOk p)) := by
  refine .tell fun H => ?_
  refine call_c follows cf161_ok (by simp) ?_
  have hl : (pxc p).length = 4 := rfl
  have ht : (pxc p).take 4 = pxc p := rfl
  repeat' (first | simp [hl, ht] | simp [*] | (with_reducible (refine newK_of fun _ h_ => ?_); have hn_ := free_ne h_; (try simp only [upd_none', ne_eq] at h_)) | (with_reducible (refine condK_of (fun h_ => ?_) (fun h_ => ?_))) | with_reducible (refine (c162 p).ac ?_))
  all_goals ((try with_reducible refine And.intro ?_ ?_) <;> (try (repeat' (first | with_reducible exact Sub.refl _ | with_reducible refine Sub.of_upd (by simp [*]) ?_))))
theorem good_v1 : goodCallee Tryz.prog 161 = true := by kernel_rfl
theorem c164 {H : AH} {K : AV → AH → Prop} {a : AV} {l : List Px} (ha : Rw H a (flat pxc l) l.length 4) (hl : l.length ≤ 10000000) (hk : ∀ i : Int, (0 ≤ i ↔ l.all pxOk = false) → K (vi i) H) :
    @AC Tryz.prog 164 [a, .pl (.func (.func 161) #[] #[])] H ⟨K⟩ := by
  have la := fun k => Rw.lenK ha (k := k)
  have g1 := good_v1
  refine AC_of (.forget ?_)
  refine call_c follows cf164_ok (by simp) ?_
  simp [la]
  refine wpc_loop (fun s => ∃ (i : Nat), s.n = 19 ∧ s.H = H ∧ s.t 0 = a ∧ s.t 1 = .pl (.func (.func 161) #[] #[]) ∧ s.t 7 = vi l.length ∧ s.t 8 = vi i ∧ i ≤ l.length ∧ (l.take i).all pxOk = true) (fun s => l.length - slotN (s.t 8)) ?_ ?_
  · exact FgK.same ⟨0, by simp, by simp, by simp, by simp, by simp, by simp, by omega, by simp⟩
  rintro s ⟨i, hn, hH, e0, e1, e7, e8, hi, hc⟩
  by_cases hlt : i < l.length
  · have wr := IntWalk.i64_in ((i : Int) + 1) (by omega)
    obtain ⟨p, hp1, hp2⟩ := fsee pxc_l ha hlt
    have et := take_snoc' hlt
    have hcp : (l.take (i + 1)).all pxOk = pxOk l[i] := by rw [et, List.all_append, hc]; simp
    have hall : pxOk l[i] = false → l.all pxOk = false := fun h => by
      cases e : l.all pxOk with
      | false => rfl
      | true => rw [List.all_eq_true] at e; rw [e _ (List.getElem_mem hlt)] at h; cases h
    generalize l[i] = r at *
    simp (disch := omega) [hn, hH, e0, e1, e7, e8, hlt, hp1, hp2 _ (Sub.refl _), g1]
    refine (c161 r).ac ?_
    cases h : pxOk r with
    | false =>
      simp
      exact ⟨H, Sub.refl _, hk _ (by simp [hall h])⟩
    | true =>
      simp (disch := omega) [wr]
      exact FgK.same ⟨⟨i + 1, by simp, by simp, by simp, by simp, by simp, by simp, by omega, by rw [hcp, h]⟩, by simp [e8]; omega⟩
  · rw [List.take_of_length_le (by omega)] at hc
    simp (disch := omega) [hn, hH, e0, e1, e7, e8, hlt]
    exact ⟨H, Sub.refl _, hk _ (by simp [hc])⟩
theorem c160 {H : AH} {K : AV → AH → Prop} {a : AV} {l : List Px} (ha : Rw H a (flat pxc l) l.length 4) (hl : l.length ≤ 10000000) (hk : K (vb (!l.all pxOk)) H) :
    @AC Tryz.prog 160 [a, .pl (.func (.func 161) #[] #[])] H ⟨K⟩ := by
  refine call_c follows cf160_ok (by simp) ?_
  simp
  refine c164 ha hl fun i hi => ?_
  cases h : l.all pxOk with
  | false => rw [h] at hk hi; have : 0 ≤ i := hi.2 rfl; simp [this] at hk ⊢; exact hk
  | true => rw [h] at hk hi; have : ¬ 0 ≤ i := fun g => by simpa using hi.1 g
            simp [this] at hk ⊢; exact hk
def bfc (w h : Int) (a : AV) : List AV := [vi w, vi h, a]
theorem c155 {H : AH} {K : AV → AH → Prop} {a : AV} {w h : Int} {l : List Px} (ha : Rw H a (flat pxc l) l.length 4) (hl : l.length ≤ 10000000) (hk : K (vb (bufOk w h l)) H) : @AC Tryz.prog 155 [.ag (bfc w h a)] H ⟨K⟩ := by
  have oa := Rw.one ha
  refine AC_of (.forget ?_)
  refine call_c follows cf155_ok (by simp) ?_
  simp [bfc]
  refine newK_of fun b hb => ?_
  have hS : Sub H (upd H b (.cells [vi w, vi h, a])) := (Sub.refl H).upd hb
  have ha' := Rw.sub ha hS
  have la := fun k => Rw.lenK ha' (k := k)
  have hbb : upd H b (.cells [vi w, vi h, a]) b = some (.cells [vi w, vi h, a]) := by simp [upd_apply]
  simp
  generalize upd H b (.cells [vi w, vi h, a]) = G at *
  refine (c159 w).ac ?_
  cases h1 : szOk w with
  | false =>
    have e : bufOk w h l = false := by simp [bufOk, h1]
    rw [e] at hk
    simp
    exact ⟨H, hS, hk⟩
  | true =>
    simp [hbb]
    refine (c159 h).ac ?_
    cases h2 : szOk h with
    | false =>
      have e : bufOk w h l = false := by simp [bufOk, h2]
      rw [e] at hk
      simp
      exact ⟨H, hS, hk⟩
    | true =>
      have hw : IntKind.i64.wrap (w * h) = w * h := by
        simp [szOk] at h1 h2
        have g1 : 0 ≤ w * h := Int.mul_nonneg (by omega) (by omega)
        have g2 : w * h ≤ 256 * 256 := Int.mul_le_mul (by omega) (by omega) (by omega) (by omega)
        exact IntWalk.i64_in _ (by omega)
      by_cases h3 : (l.length : Int) = w * h
      · have e : bufOk w h l = l.all pxOk := by simp [bufOk, h1, h2, h3]
        rw [e] at hk
        simp [hbb, la, hw, h3]
        refine c160 ha' hl ?_
        simp
        exact ⟨H, hS, hk⟩
      · have e : bufOk w h l = false := by simp [bufOk, h3]
        rw [e] at hk
        simp [hbb, la, hw, h3]
        exact ⟨H, hS, hk⟩
end Go.Proofs.YtmpncpamndhmcaaGreat
end

/-! Which item of a scene accepts a point, walked: area, bounds, the input region. Conditions: as each lemma states them. -/
section
namespace Go.Proofs.YtmpncpamndhmcaaGreat
open Go Go.Ab Go.RowKit

attribute [local simp] rc_len rc_t4 rc_t1 rc_t2 rc_t3 rc_d1 rc_d2 rc_d3 rc_d4 rc_ag rc_one rc_eq min2_t min2_f

structure ItOk (H : AH) (i : It) : Prop where
  px : Rw H i.ap (flat pxc i.px) i.px.length 4
  ao : Rr H i.ao i.lo
  ai : Rr H i.ai i.li
  lp : i.px.length ≤ 10000000
  ll : i.li.length ≤ 10000000
theorem ItOk.sub {H H' : AH} {i : It} (h : ItOk H i) (hs : Sub H H') : ItOk H' i := ⟨h.px.sub hs, h.ao.sub hs, h.ai.sub hs, h.lp, h.ll⟩
theorem ItOk.one {H : AH} {i : It} (h : ItOk H i) : (itc i).all AV.one = true := by
  have h1 := Rw.one h.px
  have h2 := Rw.one h.ao
  have h3 := Rw.one h.ai
  simp [itc, h1, h2, h3]
theorem areaI_f {i : It} (h : (bufOk i.w i.h i.px && posOk i.x i.y) = false) : areaI i = ⟨0, 0, 0, 0⟩ := by unfold areaI; rw [h]; rfl
theorem areaI_t {i : It} (h1 : bufOk i.w i.h i.px = true) (h2 : posOk i.x i.y = true) : areaI i = ⟨0, 0, i.w, i.h⟩ := by unfold areaI; rw [h1, h2]; rfl
theorem bufOk_rng {w h : Int} {l : List Px} (hb : bufOk w h l = true) : (1 ≤ w ∧ w ≤ 256) ∧ 1 ≤ h ∧ h ≤ 256 := by
  simp [bufOk, szOk] at hb; omega
theorem posOk_rng {x y : Int} (hp : posOk x y = true) : (-16384 ≤ x ∧ x ≤ 16128) ∧ -16384 ≤ y ∧ y ≤ 16128 := by
  simp [posOk] at hp; omega
theorem c151 {H : AH} {K : AV → AH → Prop} {i : It} (hi : ItOk H i) (hk : K (.ag (rc (areaI i))) H) : @AC Tryz.prog 151 [.ag (itc i)] H ⟨K⟩ := by
  refine AC_of (.forget ?_)
  refine call_c follows cf151_ok (by simp) ?_
  have hl : (itc i).length = 9 := rfl
  simp [hl]
  refine newK_of fun b hb => ?_
  have hS : Sub H (upd H b (.cells (itc i))) := (Sub.refl H).upd hb
  simp
  refine newK_of fun z hz => ?_
  have nzb := free_ne hz b (by simp [upd_apply])
  have hzH : H z = none := by simp only [upd_apply] at hz; split at hz <;> simp_all
  have hS2 := hS.upd hzH (o := .cells [vi 0, vi 0, vi 0, vi 0])
  have hbb : upd (upd H b (.cells (itc i))) z (.cells [vi 0, vi 0, vi 0, vi 0]) b = some (.cells (itc i)) := by simp [upd_apply, nzb]
  have hzz : upd (upd H b (.cells (itc i))) z (.cells [vi 0, vi 0, vi 0, vi 0]) z = some (.cells [vi 0, vi 0, vi 0, vi 0]) := by simp [upd_apply]
  generalize upd (upd H b (.cells (itc i))) z (.cells [vi 0, vi 0, vi 0, vi 0]) = G at *
  have hi' := hi.sub hS2
  simp [hbb, itc]
  have eb : AV.ag [AV.pl (.int .i64 i.w), AV.pl (.int .i64 i.h), i.ap] = .ag (bfc i.w i.h i.ap) := rfl
  simp only [eb]
  refine c155 hi'.px hi'.lp ?_
  cases h1 : bufOk i.w i.h i.px with
  | false =>
    rw [areaI_f (by simp [h1])] at hk
    simp [hzz]
    exact ⟨H, hS2.upd hzH, hk⟩
  | true =>
    simp [hbb, itc]
    refine (c156 i.x i.y).ac ?_
    cases h2 : posOk i.x i.y with
    | false =>
      rw [areaI_f (by simp [h2])] at hk
      simp [hzz]
      exact ⟨H, hS2.upd hzH, hk⟩
    | true =>
      rw [areaI_t h1 h2] at hk
      simp [hzz, hbb, itc]
      exact ⟨H, hS2.upd hzH, hk⟩
theorem bndI_z {i : It} (h : areaI i = ⟨0, 0, 0, 0⟩) : bndI i = ⟨0, 0, 0, 0⟩ := by unfold bndI; rw [h]; rfl
theorem areaI_cases (i : It) : areaI i = ⟨0, 0, 0, 0⟩ ∨ (areaI i = ⟨0, 0, i.w, i.h⟩ ∧ bndI i = ⟨i.x, i.y, i.x + i.w, i.y + i.h⟩ ∧ req (areaI i) ⟨0, 0, 0, 0⟩ = false ∧ ((1 ≤ i.w ∧ i.w ≤ 256) ∧ 1 ≤ i.h ∧ i.h ≤ 256) ∧ (-16384 ≤ i.x ∧ i.x ≤ 16128) ∧ -16384 ≤ i.y ∧ i.y ≤ 16128) := by
  cases h1 : bufOk i.w i.h i.px with
  | false => exact .inl (areaI_f (by simp [h1]))
  | true =>
    cases h2 : posOk i.x i.y with
    | false => exact .inl (areaI_f (by simp [h2]))
    | true =>
      have e := areaI_t h1 h2
      have r1 := bufOk_rng h1
      have r2 := posOk_rng h2
      have e2 : req (areaI i) ⟨0, 0, 0, 0⟩ = false := by
        rw [e]
        cases h : req ⟨0, 0, i.w, i.h⟩ ⟨0, 0, 0, 0⟩ with
        | false => rfl
        | true => have := (req_iff _ _).1 h; injection this; omega
      exact .inr ⟨e, by unfold bndI; rw [e2]; rfl, e2, r1, r2⟩
theorem c149 {H : AH} {K : AV → AH → Prop} {i : It} (hi : ItOk H i) (hk : K (.ag (rc (bndI i))) H) : @AC Tryz.prog 149 [.ag (itc i)] H ⟨K⟩ := by
  refine AC_of (.forget ?_)
  refine call_c follows cf149_ok (by simp) ?_
  have hl : (itc i).length = 9 := rfl
  have ht : (itc i).take 9 = itc i := rfl
  simp [hl]
  refine newK_of fun b hb => ?_
  have hS : Sub H (upd H b (.cells (itc i))) := (Sub.refl H).upd hb
  simp
  refine newK_of fun z hz => ?_
  have nzb := free_ne hz b (by simp [upd_apply])
  have hzH : H z = none := by simp only [upd_apply] at hz; split at hz <;> simp_all
  have hS2 := hS.upd hzH (o := .cells [vi 0, vi 0, vi 0, vi 0])
  have hbb : upd (upd H b (.cells (itc i))) z (.cells [vi 0, vi 0, vi 0, vi 0]) b = some (.cells (itc i)) := by simp [upd_apply, nzb]
  have hzz : upd (upd H b (.cells (itc i))) z (.cells [vi 0, vi 0, vi 0, vi 0]) z = some (.cells [vi 0, vi 0, vi 0, vi 0]) := by simp [upd_apply]
  simp [nzb, hl, ht]
  generalize upd (upd H b (.cells (itc i))) z (.cells [vi 0, vi 0, vi 0, vi 0]) = G at *
  refine c151 (hi.sub hS2) ?_
  simp
  refine newK_of fun u hu => ?_
  have nub := free_ne hu b (by rw [hbb]; simp)
  have nuz := free_ne hu z (by rw [hzz]; simp)
  have huH : H u = none := hS2.none_of hu
  rcases areaI_cases i with h0 | ⟨h0, h1, h2, ⟨⟨a1, a2⟩, a3, a4⟩, ⟨b1, b2⟩, b3, b4⟩
  · rw [bndI_z h0] at hk
    have hq : req ⟨0, 0, 0, 0⟩ ⟨0, 0, 0, 0⟩ = true := (req_iff _ _).2 rfl
    simp [h0, hq, nuz, hzz]
    refine ⟨H, (hS2.upd huH).upd hzH, hk⟩
  · rw [h1] at hk
    have w1 := IntWalk.i64_in (i.x + i.w) (by omega)
    have w2 := IntWalk.i64_in (i.y + i.h) (by omega)
    have h3 : req ⟨0, 0, i.w, i.h⟩ ⟨0, 0, 0, 0⟩ = false := by rw [← h0]; exact h2
    simp [h3, nuz, nub, hbb, hzz, itc, h0, w1, w2]
    exact ⟨H, (hS2.upd huH).upd hzH, hk⟩

theorem c154 (r : R) (x y : Int) : PC Tryz.prog 154 [.ag (rc r), vi x, vi y] (vb (rctF r x y)) := by
  refine .tell fun H => ?_
  refine call_c follows cf154_ok (by simp) ?_
  unfold rctF
  repeat' (first | simp [*] | (with_reducible (refine newK_of fun _ h_ => ?_); have hn_ := free_ne h_; (try simp only [upd_none', ne_eq] at h_)) | (with_reducible (refine condK_of (fun h_ => ?_) (fun h_ => ?_))) | with_reducible (refine (c158 ..).ac ?_))
  all_goals ((try with_reducible refine And.intro ?_ ?_) <;> (try (repeat' (first | with_reducible exact Sub.refl _ | with_reducible refine Sub.of_upd (by simp [*]) ?_))))
  all_goals simp_all
theorem c153 {H : AH} {K : AV → AH → Prop} {b1 b2 : Nat} {x y : Int} {r : R} (h1 : H b1 = some (.cells [vi x])) (h2 : H b2 = some (.cells [vi y])) (hk : K (vb (rctF r x y)) H) :
    @AC Tryz.prog 153 [.ag (rc r), pA b1, pA b2] H ⟨K⟩ := by
  refine AC_of (.forget ?_)
  refine call_c follows cf153_ok (by simp) ?_
  simp
  refine newK_of fun b hb => ?_
  have n1 := free_ne hb b1 (by rw [h1]; simp)
  have n2 := free_ne hb b2 (by rw [h2]; simp)
  simp [n1, n2, h1, h2]
  refine (c154 r x y).ac ?_
  simp
  exact ⟨H, (Sub.refl H).upd hb, hk⟩
theorem good_c1 : goodCallee Tryz.prog 153 = true := by kernel_rfl
theorem c157 {H : AH} {K : AV → AH → Prop} {a : AV} {b1 b2 : Nat} {x y : Int} {l : List R} (h1 : H b1 = some (.cells [vi x])) (h2 : H b2 = some (.cells [vi y])) (ha : Rr H a l) (hl : l.length ≤ 10000000) (hk : ∀ i : Int, (0 ≤ i ↔ (l.any fun r => rctF r x y) = true) → K (vi i) H) :
    @AC Tryz.prog 157 [a, .fn 153 [] [pA b1, pA b2]] H ⟨K⟩ := by
  have la := fun k => Rw.lenK ha (k := k)
  have g1 := good_c1
  refine AC_of (.forget ?_)
  refine call_c follows cf157_ok (by simp) ?_
  simp [la]
  refine wpc_loop (fun s => ∃ (i : Nat), s.n = 19 ∧ s.H = H ∧ s.t 0 = a ∧ s.t 1 = .fn 153 [] [pA b1, pA b2] ∧ s.t 7 = vi l.length ∧ s.t 8 = vi i ∧ i ≤ l.length ∧ ((l.take i).any fun r => rctF r x y) = false) (fun s => l.length - slotN (s.t 8)) ?_ ?_
  · exact FgK.same ⟨0, by simp, by simp, by simp, by simp, by simp, by simp, by omega, by simp⟩
  rintro s ⟨i, hn, hH, e0, e1, e7, e8, hi, hc⟩
  by_cases hlt : i < l.length
  · have wr := IntWalk.i64_in ((i : Int) + 1) (by omega)
    obtain ⟨p, hp1, hp2⟩ := fsee rc_l ha hlt
    have et := take_snoc' hlt
    have hcp : ((l.take (i + 1)).any fun r => rctF r x y) = rctF l[i] x y := by rw [et, List.any_append, hc]; simp
    have hall : rctF l[i] x y = true → (l.any fun r => rctF r x y) = true := fun h => List.any_eq_true.2 ⟨l[i], List.getElem_mem hlt, h⟩
    generalize l[i] = r at *
    simp (disch := omega) [hn, hH, e0, e1, e7, e8, hlt, hp1, hp2 _ (Sub.refl _), g1]
    refine c153 h1 h2 ?_
    cases h : rctF r x y with
    | true =>
      simp
      exact ⟨H, Sub.refl _, hk _ (by simp [hall h])⟩
    | false =>
      simp (disch := omega) [wr]
      exact FgK.same ⟨⟨i + 1, by simp, by simp, by simp, by simp, by simp, by simp, by omega, by rw [hcp, h]⟩, by simp [e8]; omega⟩
  · rw [List.take_of_length_le (by omega)] at hc
    simp (disch := omega) [hn, hH, e0, e1, e7, e8, hlt]
    exact ⟨H, Sub.refl _, hk _ (by simp [hc])⟩
theorem c152 {H : AH} {K : AV → AH → Prop} {a : AV} {b1 b2 : Nat} {x y : Int} {l : List R} (h1 : H b1 = some (.cells [vi x])) (h2 : H b2 = some (.cells [vi y])) (ha : Rr H a l) (hl : l.length ≤ 10000000) (hk : K (vb (l.any fun r => rctF r x y)) H) :
    @AC Tryz.prog 152 [a, .fn 153 [] [pA b1, pA b2]] H ⟨K⟩ := by
  refine call_c follows cf152_ok (by simp) ?_
  simp
  refine c157 h1 h2 ha hl fun i hi => ?_
  cases h : (l.any fun r => rctF r x y) with
  | true => rw [h] at hk hi; have : 0 ≤ i := hi.2 rfl; simp [this]; exact hk
  | false => rw [h] at hk hi; have : ¬ 0 ≤ i := fun g => by simpa using hi.1 g
             simp [this]; exact hk
theorem c150 {H : AH} {K : AV → AH → Prop} {a : AV} {l : List R} {x y : Int} (ha : Rr H a l) (hl : l.length ≤ 10000000) (hk : K (vb (l.any fun r => rctF r x y)) H) : @AC Tryz.prog 150 [a, vi x, vi y] H ⟨K⟩ := by
  refine AC_of (.forget ?_)
  refine call_c follows cf150_ok (by simp) ?_
  simp
  refine newK_of fun b hb => ?_
  simp
  refine newK_of fun c hc => ?_
  have n1 := free_ne hc b (by simp [upd_apply])
  have hcH : H c = none := by simp only [upd_apply] at hc; split at hc <;> simp_all
  have hS : Sub H (upd (upd H b (.cells [vi x])) c (.cells [vi y])) := ((Sub.refl H).upd hb).upd hcH
  simp
  refine c152 (x := x) (y := y) (by simp [upd_apply, n1]) (by simp [upd_apply]) (Rw.sub ha hS) hl ?_
  simp
  exact ⟨H, hS, hk⟩
theorem accF_out {i : It} {x y : Int} (h : ¬ ((bndI i).x0 ≤ x ∧ (bndI i).y0 ≤ y ∧ x < (bndI i).x1 ∧ y < (bndI i).y1)) : accF i x y = false := by
  unfold accF
  cases e : (decide ((bndI i).x0 ≤ x) && (decide ((bndI i).y0 ≤ y) && (decide (x < (bndI i).x1) && (decide (y < (bndI i).y1) && i.li.any fun r => rctF r (x - i.x) (y - i.y))))) with
  | false => rfl
  | true =>
    simp only [Bool.and_eq_true, decide_eq_true_eq] at e
    exact absurd ⟨e.1, e.2.1, e.2.2.1, e.2.2.2.1⟩ h
theorem c147 {H : AH} {K : AV → AH → Prop} {i : It} {x y : Int} (hi : ItOk H i) (hk : K (vb (accF i x y)) H) : @AC Tryz.prog 147 [.ag (itc i), vi x, vi y] H ⟨K⟩ := by
  refine AC_of (.forget ?_)
  refine call_c follows cf147_ok (by simp) ?_
  have hl : (itc i).length = 9 := rfl
  have ht : (itc i).take 9 = itc i := rfl
  simp [hl]
  refine newK_of fun b hb => ?_
  have hS : Sub H (upd H b (.cells (itc i))) := (Sub.refl H).upd hb
  have hbb : upd H b (.cells (itc i)) b = some (.cells (itc i)) := by simp [upd_apply]
  simp [hl, ht]
  generalize upd H b (.cells (itc i)) = G at *
  refine c149 (hi.sub hS) ?_
  simp
  refine newK_of fun z hz => ?_
  have nzb := free_ne hz b (by rw [hbb]; simp)
  have hzH : H z = none := hS.none_of hz
  have hSz := hS.upd hzH (o := .cells (rc (bndI i)))
  have hzz : upd G z (.cells (rc (bndI i))) z = some (.cells (rc (bndI i))) := by simp [upd_apply]
  have hbz : upd G z (.cells (rc (bndI i))) b = some (.cells (itc i)) := by simp [upd_apply, nzb, hbb]
  simp
  generalize upd G z (.cells (rc (bndI i))) = G2 at *
  by_cases h1 : x < (bndI i).x0
  · rw [accF_out (by omega)] at hk
    simp [h1]
    exact ⟨H, hSz, hk⟩
  by_cases h2 : y < (bndI i).y0
  · rw [accF_out (by omega)] at hk
    simp [hzz, h1, h2]
    exact ⟨H, hSz, hk⟩
  by_cases h3 : (bndI i).x1 ≤ x
  · rw [accF_out (by omega)] at hk
    simp [hzz, h1, h2, h3]
    exact ⟨H, hSz, hk⟩
  by_cases h4 : (bndI i).y1 ≤ y
  · rw [accF_out (by omega)] at hk
    simp [hzz, h1, h2, h3, h4]
    exact ⟨H, hSz, hk⟩
  simp [hzz, h1, h2, h3, h4, hbz, itc]
  have hacc : accF i x y = i.li.any fun r => rctF r (x - i.x) (y - i.y) := by
    unfold accF
    rw [decide_eq_true (by omega : (bndI i).x0 ≤ x), decide_eq_true (by omega : (bndI i).y0 ≤ y), decide_eq_true (by omega : x < (bndI i).x1), decide_eq_true (by omega : y < (bndI i).y1)]
    rfl
  rw [hacc] at hk
  rcases areaI_cases i with h0 | ⟨h0, h5, h6, ⟨⟨a1, a2⟩, a3, a4⟩, ⟨b1, b2⟩, b3, b4⟩
  · rw [bndI_z h0] at h1 h3
    simp only at h1 h3
    omega
  · rw [h5] at h1 h2 h3 h4
    simp only at h1 h2 h3 h4
    have w1 := IntWalk.i64_in (x - i.x) (by omega)
    have w2 := IntWalk.i64_in (y - i.y) (by omega)
    simp only [w1, w2]
    refine c150 ((hi.sub hSz).ai) hi.ll ?_
    simp
    exact ⟨H, hSz, hk⟩
end Go.Proofs.YtmpncpamndhmcaaGreat
end

/-! The topmost item at a point, walked: a range over a function of the program's own. Conditions: as each lemma states them. -/
section
namespace Go.Proofs.YtmpncpamndhmcaaGreat
open Go Go.Ab Go.RowKit

attribute [local simp] rc_len rc_t4 rc_t1 rc_t2 rc_t3 rc_d1 rc_d2 rc_d3 rc_d4 rc_ag rc_one rc_eq callvK_yl setAs_cons setAs_nil RQ_normal RQ_ret RQ_exit

/-- The items of a scene, as a row. -/
def ItsR (H : AH) (a : AV) (L : List It) : Prop := Rw H a (flat itc L) L.length 9 ∧ ∀ i ∈ L, ItOk H i
theorem ItsR.sub {H H' : AH} {a : AV} {L : List It} (h : ItsR H a L) (hs : Sub H H') : ItsR H' a L := ⟨h.1.sub hs, fun i hi => (h.2 i hi).sub hs⟩
theorem ItsR.nil (H : AH) : ItsR H vnil [] := ⟨Rw.nil H 9, fun i hi => by cases hi⟩
/-- The function that is ranged over: from the top down, while the rounds go on. -/
theorem c148 {H : AH} {K : AV → AH → Prop} {l b : Nat} {a : AV} {L : List It} (hl : L.length ≤ 10000000) (J Jx : Nat → AH → Prop)
    (hJ : ∀ n H, J n H → H b = some (.cells [a]) ∧ Rw H a (flat itc L) L.length 9)
    (hY : ∀ (n : Nat) (hn : n < L.length) (H : AH) (K' : AV → AH → Prop), J (n + 1) H → (∀ H', J n H' → K' (vb true) H') → (∀ H', Jx n H' → K' (vb false) H') → @AY Tryz.prog l [vi n, .ag (itc L[n])] H ⟨K'⟩)
    (h0 : J L.length H) (hk1 : ∀ H', J 0 H' → K (.tp []) H') (hk2 : ∀ n H', Jx n H' → K (.tp []) H') : @AC Tryz.prog 148 [.pl (.func (.yield l) #[] #[]), pA b] H ⟨K⟩ := by
  refine call_c follows cf148_ok (by simp) ?_
  obtain ⟨g1, g2⟩ := hJ _ _ h0
  have la := fun k => Rw.lenK g2 (k := k)
  have w0 := IntWalk.i64_in ((L.length : Int) - 1) (by omega)
  simp [g1, la, w0]
  refine wpc_loop (fun s => ∃ n : Nat, s.n = 19 ∧ s.t 0 = .pl (.func (.yield l) #[] #[]) ∧ s.t 1 = pA b ∧ s.t 3 = vi ((n : Int) - 1) ∧ n ≤ L.length ∧ J n s.H) (fun s => slotP (s.t 3)) ?_ ?_
  · exact FgK.same ⟨L.length, by simp, by simp, by simp, by simp, by omega, h0⟩
  rintro s ⟨n, hn, e0, e1, e3, hle, hj⟩
  generalize hHeq : s.H = Hs at *
  obtain ⟨g1, g2⟩ := hJ _ _ hj
  cases n with
  | zero =>
    simp [hn, hHeq, e0, e1, e3]
    exact hk1 _ hj
  | succ n =>
    have hlt : n < L.length := by omega
    have hc : (0 : Int) ≤ ((n + 1 : Nat) : Int) - 1 := by omega
    have hc2 : ((n + 1 : Nat) : Int) - 1 = n := by omega
    obtain ⟨p, hp1, hp2⟩ := fsee itc_l g2 hlt
    have wn := IntWalk.i64_in ((n : Int) - 1) (by omega)
    rw [hc2] at e3
    have hy := hY n hlt Hs
    generalize L[n] = i at *
    simp [hn, hHeq, e0, e1, e3, g1, hp1, hp2 _ (Sub.refl _)]
    refine hy _ hj (fun H' hj' => ?_) fun H' hj' => ?_
    · simp [wn]
      exact FgK.same ⟨⟨n, by simp, by simp, by simp, by simp, by omega, hj'⟩, by simp [e3]⟩
    · simp
      exact hk2 _ _ hj'
theorem good_ft : goodCallee Tryz.prog 148 = true := by kernel_rfl
theorem c146 {H : AH} {K : AV → AH → Prop} {a : AV} {L : List It} (ha : ItsR H a L) (hk : ∀ q, H q = none → K (.fn 148 [] [pA q]) (upd H q (.cells [a]))) : @AC Tryz.prog 146 [a] H ⟨K⟩ := by
  have ca := Rw.cells ha.1
  refine call_c follows cf146_ok (by simp) ?_
  simp [ca]
  refine newK_of fun q hq => ?_
  simp
  exact hk q hq
theorem upd_del_same {X : AH} {l : Nat} {o : AO} : upd (del X l) l o = upd X l o := by
  funext j
  simp only [upd_apply, del_apply]
  split <;> simp_all
theorem del_same {X : AH} {l : Nat} : del X l l = none := by simp [del_apply]
theorem del_upd_ne {X : AH} {l b : Nat} {o : AO} (h : b ≠ l) : del (upd X b o) l = upd (del X l) b o := by
  funext j
  simp only [upd_apply, del_apply]
  by_cases e : j = l
  · subst e; simp [Ne.symm h]
  · simp [e]
theorem atG_hit {L : List It} {x y : Int} {n : Nat} (hn : n < L.length) (h : accF L[n] x y = true) : atG L x y (n + 1) = n := by
  unfold atG
  rw [List.getElem?_eq_getElem hn]
  simp only
  rw [if_pos h]
theorem atG_miss {L : List It} {x y : Int} {n : Nat} (hn : n < L.length) (h : accF L[n] x y = false) : atG L x y (n + 1) = atG L x y n := by
  conv => lhs; unfold atG
  rw [List.getElem?_eq_getElem hn]
  simp only
  rw [if_neg (by simp [h])]
theorem c138 {H : AH} {K : AV → AH → Prop} {a : AV} {L : List It} {x y : Int} (ha : ItsR H a L) (hl : L.length ≤ 10000000) (hk : K (vi (atF L x y)) H) : @AC Tryz.prog 138 [a, vi x, vi y] H ⟨K⟩ := by
  refine AC_of (.forget ?_)
  refine call_c follows cf138_ok (by simp) ?_
  simp
  refine newK_of fun b1 hb1 => ?_
  simp
  refine newK_of fun b2 hb2 => ?_
  have n12 := free_ne hb2 b1 (by simp [upd_apply])
  have hb2H : H b2 = none := by simp only [upd_apply] at hb2; split at hb2 <;> simp_all
  simp
  refine newK_of fun b3 hb3 => ?_
  have n13 := free_ne hb3 b1 (by simp [upd_apply, n12])
  have n23 := free_ne hb3 b2 (by simp [upd_apply])
  have hb3H : H b3 = none := by simp only [upd_apply] at hb3; repeat' split at hb3 <;> simp_all
  have hS : Sub H (upd (upd (upd H b1 (.cells [vi x])) b2 (.cells [vi y])) b3 (.cells [vi 0])) := (((Sub.refl H).upd hb1).upd hb2H).upd hb3H
  have r1 : upd (upd (upd H b1 (.cells [vi x])) b2 (.cells [vi y])) b3 (.cells [vi 0]) b1 = some (.cells [vi x]) := by simp [upd_apply, n12, n13]
  have r2 : upd (upd (upd H b1 (.cells [vi x])) b2 (.cells [vi y])) b3 (.cells [vi 0]) b2 = some (.cells [vi y]) := by simp [upd_apply, n23]
  have r3 : upd (upd (upd H b1 (.cells [vi x])) b2 (.cells [vi y])) b3 (.cells [vi 0]) b3 = some (.cells [vi 0]) := by simp [upd_apply]
  simp
  generalize upd (upd (upd H b1 (.cells [vi x])) b2 (.cells [vi y])) b3 (.cells [vi 0]) = G at *
  refine c146 (ha.sub hS) fun q hq => ?_
  have nq3 : ¬ q = b3 := by rintro rfl; rw [hq] at r3; cases r3
  have hSq : Sub G (upd G q (.cells [a])) := (Sub.refl G).upd hq
  have r1 := hSq.at r1
  have r2 := hSq.at r2
  have r3 := hSq.at r3
  have r4 : upd G q (.cells [a]) q = some (.cells [a]) := by simp [upd_apply]
  have hSG := hS.trans hSq
  have haG := ha.sub hSG
  simp
  generalize upd G q (.cells [a]) = G2 at *
  refine wpc_rng (g := 148) (caps := [pA q]) (by simp) good_ft fun l ob hl0 hkd hY => ?_
  have hl0 : G2 l = none := hl0
  -- what is held between two rounds: the view as it was, and nothing found so far
  refine c148 (a := a) hl (fun n H' => ∃ H1, H' = upd H1 l (ob none) ∧ H1 l = none ∧ Sub G2 H1 ∧ atG L x y L.length = atG L x y n)
    (fun n H' => ∃ H1, H' = upd H1 l (ob (some .ret)) ∧ H1 l = none ∧ ∃ H0, Sub H H0 ∧ H1 = upd H0 b3 (.cells [vi (atF L x y)]))
    ?_ ?_ ⟨G2, rfl, hl0, Sub.refl _, rfl⟩ ?_ ?_
  · rintro n H' ⟨H1, rfl, h1, hs, _⟩
    have hq1 := hs.at r4
    have hn : ¬ q = l := by rintro rfl; rw [h1] at hq1; cases hq1
    exact ⟨by simp [upd_apply, hn, hq1], Rw.sub (haG.1) (hs.upd hl0)⟩
  · rintro n hn H' K' ⟨H1, rfl, h1, hs, hat⟩ hkt hkf
    have hi := (haG.sub hs).2 _ (List.getElem_mem hn)
    have hhit := fun h => atG_hit (L := L) (x := x) (y := y) hn h
    have hmiss := fun h => atG_miss (L := L) (x := x) (y := y) hn h
    refine hY [vi n, .ag (itc L[n])] H1 K' rfl h1 ?_
    generalize L[n] = i at *
    have hit := hi.one
    have hitl : (itc i).length = 9 := rfl
    have k1 := hs.at r1
    have k2 := hs.at r2
    have k3 := hs.at r3
    simp
    refine newK_of fun z hz => ?_
    have z1 := free_ne hz b1 (by rw [k1]; simp)
    have z2 := free_ne hz b2 (by rw [k2]; simp)
    have z3 := free_ne hz b3 (by rw [k3]; simp)
    have hsz : Sub G2 (upd H1 z (.cells (itc i))) := hs.trans ((Sub.refl H1).upd hz)
    have hiz := hi.sub ((Sub.refl H1).upd hz (o := .cells (itc i)))
    have ht9 : (itc i).take 9 = itc i := rfl
    have nl3 : b3 ≠ l := by rintro rfl; rw [r3] at hl0; cases hl0
    simp [hit, hitl, z1, z2, k1, k2, ht9]
    refine c147 hiz ?_
    have hsH : Sub H (upd H1 z (.cells (itc i))) := hSG.trans hsz
    cases hacc : accF i x y with
    | true =>
      have he := hat.trans (hhit hacc)
      simp [z3, k3]
      generalize upd H1 z (.cells (itc i)) = X at *
      refine hkf _ ⟨del (upd X b3 (.cells [vi n])) l, upd_del_same.symm, del_same, del X l, Sub.del hsH ?_, ?_⟩
      · cases e : H l with
        | none => rfl
        | some o => rw [hSG _ _ e] at hl0; cases hl0
      · rw [del_upd_ne nl3]
        unfold atF
        rw [he]
    | false =>
      have he := hat.trans (hmiss hacc)
      simp
      exact hkt _ ⟨del (upd H1 z (.cells (itc i))) l, upd_del_same.symm, del_same, Sub.del hsz hl0, he⟩
  · rintro H' ⟨H1, rfl, h1, hs, hat⟩
    refine .inl ⟨H1, rfl, h1, ?_⟩
    have k3 := hs.at r3
    have e : atF L x y = -1 := hat
    rw [e] at hk
    simp [k3]
    refine ⟨H, ?_, hk⟩
    exact (hSG.trans hs).upd hb3H
  · rintro n H' ⟨H1, rfl, h1, H0, hs, rfl⟩
    refine .inr (.inl ⟨_, rfl, h1, ?_⟩)
    simp
    exact ⟨H, hs.upd hb3H, hk⟩
end Go.Proofs.YtmpncpamndhmcaaGreat
end

/-! The log of serials, walked: Issue. Conditions: as each lemma states them. -/
section
namespace Go.Proofs.YtmpncpamndhmcaaGreat
open Go Go.Ab Go.RowKit

theorem lg_take {x y : Int} {es : List AV} (j : Nat) : (AV.pl (.bool true) :: AV.pl (.int .u32 x) :: AV.pl (.int .i64 y) :: es).take (3 + j * 4) = vb true :: vu x :: vi y :: es.take (j * 4) := by
  rw [show 3 + j * 4 = (j * 4 + 2) + 1 by omega, List.take_succ_cons, List.take_succ_cons, List.take_succ_cons]
theorem c123 {H : AH} {K : AV → AH → Prop} {b : Nat} {cs : List AV} (hb : H b = some (.cells (vb true :: cs))) (hk : K (vb true) H) : @AC Tryz.prog 123 [pA b] H ⟨K⟩ := by
  refine call_c follows cf123_ok (by simp) ?_
  simp [hb]
  exact hk
theorem upd_self {H : AH} {b : Nat} {o : AO} (h : H b = some o) : upd H b o = H := by
  funext j
  simp only [upd_apply]
  split
  · rename_i e; rw [e, h]
  · rfl
theorem issue {H : AH} {K : AV → AH → Prop} {b : Nat} {l : Lg} {c s k : Int} (hb : H b = some (.cells (lgc l))) (he : l.es.length = 1024) (ha : l.at_ < 256) (hk : K (vu (issN l c s k)) (upd H b (.cells (lgc (issL l c s k))))) :
    @AC Tryz.prog 95 [pA b, vi c, vi s, vi k] H ⟨K⟩ := by
  refine AC_of (.forget ?_)
  refine call_c follows cf95_ok (by simp) ?_
  have hb' : H b = some (.cells (vb true :: vu l.la :: vi l.at_ :: l.es)) := hb
  simp
  refine c123 hb' ?_
  cases hbad : badI c s k with
  | true =>
    have e1 : issN l c s k = 0 := by simp [issN, hbad]
    have e2 : issL l c s k = l := by simp [issL, hbad]
    rw [e1, e2, upd_self hb] at hk
    simp [badI] at hbad
    by_cases h1 : c < 1
    · simp [h1]; exact ⟨H, Sub.refl _, hk⟩
    by_cases h2 : s < 0
    · simp [h1, h2]; exact ⟨H, Sub.refl _, hk⟩
    by_cases h3 : k < 0
    · simp [h1, h2, h3]; exact ⟨H, Sub.refl _, hk⟩
    have h4 : 62 < k := by omega
    simp [h1, h2, h3, h4]
    exact ⟨H, Sub.refl _, hk⟩
  | false =>
    have e1 : issN l c s k = nextS l.la := by simp [issN, hbad]
    have e2 : issL l c s k = ⟨nextS l.la, (l.at_ + 1) % 256, setL l.es l.at_ [vu (nextS l.la), vi c, vi s, vi k]⟩ := by simp [issL, hbad]
    rw [e1, e2] at hk
    simp [badI] at hbad
    have h1 : ¬ c < 1 := by omega
    have h2 : ¬ s < 0 := by omega
    have h3 : ¬ k < 0 := by omega
    have h4 : ¬ 62 < k := by omega
    have ha' : (l.at_ : Int) < 256 := by omega
    have w1 := IntWalk.i64_in ((l.at_ : Int) + 1) (by omega)
    have hm : ((l.at_ : Int) + 1).tmod 256 = (((l.at_ + 1) % 256 : Nat) : Int) := by
      rw [Int.tmod_eq_emod_of_nonneg (by omega)]; omega
    unfold nextS at hk
    by_cases hz : IntKind.u32.wrap (l.la + 1) = 0
    · rw [if_pos hz] at hk
      simp (disch := omega) [h1, h2, h3, h4, hb', hz, ha', he, lg_take, w1, hm]
      have e3 : 3 + l.at_ * 4 + 1 = l.at_ * 4 + 4 := by omega
      have e4 : ((l.at_ : Int) + 1) % 256 = (((l.at_ + 1) % 256 : Nat) : Int) := by omega
      rw [e3, e4]
      refine ⟨_, Sub.refl _, ?_⟩
      simpa [lgc, setL] using hk
    · rw [if_neg hz] at hk
      simp (disch := omega) [h1, h2, h3, h4, hb', hz, ha', he, lg_take, w1, hm]
      have e3 : 3 + l.at_ * 4 + 1 = l.at_ * 4 + 4 := by omega
      have e4 : ((l.at_ : Int) + 1) % 256 = (((l.at_ + 1) % 256 : Nat) : Int) := by omega
      rw [e3, e4]
      refine ⟨_, Sub.refl _, ?_⟩
      simpa [lgc, setL] using hk
section
variable {G : AH} {B : PB} {m : PS}
theorem BOk.lgs (h : BOk G B m) (c s k : Int) : BOk G B { m with lg := issL m.lg c s k } := by
  refine ⟨h.free, h.nd, h.ch, ?_, ?_, h.st, h.len⟩
  · have h1 := h.es
    have h2 := h.at_
    simp only
    unfold issL
    split
    · exact h1
    · simp only [setL, List.length_append, List.length_take, List.length_drop, h1, List.length_cons, List.length_nil]; omega
  · have h2 := h.at_
    simp only
    unfold issL
    split
    · exact h2
    · simp only; omega
/-- Issue, at the pointer's own log. -/
theorem issueP {K : AV → AH → Prop} (h : BOk G B m) (c s k : Int) (hk : K (vu (issN m.lg c s k)) (PV G B { m with lg := issL m.lg c s k })) : @AC Tryz.prog 95 [pA B.lg, vi c, vi s, vi k] (PV G B m) ⟨K⟩ :=
  issue (PV_lg h) h.es h.at_ (by rw [PV_wlg h]; exact hk)
/-! ### The focus -/
theorem c35 {H : AH} {K : AV → AH → Prop} {b c : Nat} {cs : List AV} (hb : H b = some (.cells (pA c :: cs))) (hk : K (vb true) H) : @AC Tryz.prog 35 [pA b] H ⟨K⟩ := by
  refine call_c follows cf35_ok (by simp) ?_
  simp [hb]
  exact hk
theorem c13 {K : AV → AH → Prop} (h : BOk G B m) (hk : K (.tp [vi m.fs, vi m.fc]) (PV G B m)) : @AC Tryz.prog 13 [pA B.fo] (PV G B m) ⟨K⟩ := by
  have hf : PV G B m B.fo = some (.cells [pA B.lg, vi m.fs, vi m.fc, vb m.fl]) := PV_fo h
  refine call_c follows cf13_ok (by simp) ?_
  simp
  refine c35 hf ?_
  simp [hf]
  exact hk
theorem c93 {K : AV → AH → Prop} (h : BOk G B m) (l : Bool) (hk : K (.tp []) (PV G B { m with fl := l })) : @AC Tryz.prog 93 [pA B.fo, vb l] (PV G B m) ⟨K⟩ := by
  have hf : PV G B m B.fo = some (.cells [pA B.lg, vi m.fs, vi m.fc, vb m.fl]) := PV_fo h
  have hw := PV_wfo h m.fs m.fc l
  refine call_c follows cf93_ok (by simp) ?_
  simp
  refine c35 hf ?_
  simp [hf]
  rw [← hw] at hk
  exact hk
theorem c70 {K : AV → AH → Prop} (h : BOk G B m) (s : Int) (hk : K vnil (PV G B (if m.fs = s then { m with fs := 0, fc := 0 } else m))) : @AC Tryz.prog 70 [pA B.fo, vi s] (PV G B m) ⟨K⟩ := by
  have hf : PV G B m B.fo = some (.cells [pA B.lg, vi m.fs, vi m.fc, vb m.fl]) := PV_fo h
  have hw := PV_wfo h 0 0 m.fl
  refine call_c follows cf70_ok (by simp) ?_
  simp
  refine c35 hf ?_
  by_cases e : m.fs = s
  · rw [if_pos e, ← hw] at hk
    simp [hf, e]
    exact hk
  · rw [if_neg e] at hk
    simp [hf, e]
    exact hk
theorem tgt_neg {L : List It} {x y : Int} (h : atF L x y < 0) : tgtF L x y = (0, 0) := by
  unfold tgtF
  split
  · rw [if_pos h]
  · rfl
theorem tgt_at {L : List It} {x y : Int} {n : Nat} (hn : n < L.length) (h : atF L x y = n) : tgtF L x y = (L[n].sf, L[n].cl) ∧ orgF L x y = (L[n].x, L[n].y) := by
  unfold tgtF orgF
  have hnn : ¬ ((n : Nat) : Int) < 0 := by omega
  rw [h]
  simp [hn, hnn]
theorem c121 {H : AH} {K : AV → AH → Prop} {a : AV} {L : List It} {x y : Int} (ha : ItsR H a L) (hl : L.length ≤ 10000000) (hk : K (.tp [vi (tgtF L x y).1, vi (tgtF L x y).2]) H) : @AC Tryz.prog 121 [a, vi x, vi y] H ⟨K⟩ := by
  refine AC_of (.forget ?_)
  refine call_c follows cf121_ok (by simp) ?_
  simp
  refine c138 ha hl ?_
  have hr := atF_rng L x y
  by_cases h : atF L x y < 0
  · rw [tgt_neg h] at hk
    simp [h]
    exact ⟨H, Sub.refl _, hk⟩
  · obtain ⟨n, hn⟩ : ∃ n : Nat, atF L x y = n := ⟨(atF L x y).toNat, by omega⟩
    have hlt : n < L.length := by omega
    rw [(tgt_at hlt hn).1] at hk
    obtain ⟨p, hp1, hp2, hpf⟩ := fat itc_l ha.1 hlt
    obtain ⟨q0, f0, g0⟩ := hpf 0 (vi L[n].sf) rfl
    obtain ⟨q1, f1, g1⟩ := hpf 1 (vi L[n].cl) rfl
    generalize L[n] = i at *
    have hnn : ¬ ((n : Nat) : Int) < 0 := by omega
    simp [hn, hnn, hp1, f0, f1, g0 _ (Sub.refl _), g1 _ (Sub.refl _)]
    exact ⟨H, Sub.refl _, hk⟩
end
end Go.Proofs.YtmpncpamndhmcaaGreat
end

/-! The focus, walked: Update, which delivers leaving and entering. Conditions: as each lemma states them. -/
section
namespace Go.Proofs.YtmpncpamndhmcaaGreat
open Go Go.Ab Go.RowKit

attribute [local simp] rc_len rc_t4 rc_t1 rc_t2 rc_t3 rc_d1 rc_d2 rc_d3 rc_d4 rc_ag rc_one rc_eq

/-- A row of deliveries beside what is held. -/
def OutR (G G' : AH) (out : AV) (l : List Dl) : Prop := Sub G G' ∧ ((l = [] ∧ out = vnil) ∨ ∃ r x, out = .sl r 0 l.length 9 x ∧ G r = none ∧ G' r = some (.cells (flat dlc l)))
theorem OutR.nil {G G' : AH} (h : Sub G G') : OutR G G' vnil [] := ⟨h, .inl ⟨rfl, rfl⟩⟩
theorem OutR.base {G0 G G' : AH} {out : AV} {l : List Dl} (h : OutR G G' out l) (hs : Sub G0 G) : OutR G0 G' out l := by
  obtain ⟨h1, h2⟩ := h
  refine ⟨hs.trans h1, ?_⟩
  rcases h2 with h2 | ⟨r, x, e1, e2, e3⟩
  · exact .inl h2
  · exact .inr ⟨r, x, e1, hs.none_of e2, e3⟩
theorem OutR.new {G G' : AH} {out : AV} {l : List Dl} {b : Nat} {o : AO} (h : OutR G G' out l) (hb : G' b = none) : OutR G (upd G' b o) out l := by
  obtain ⟨h1, h2⟩ := h
  refine ⟨h1.trans ((Sub.refl G').upd hb), ?_⟩
  rcases h2 with h2 | ⟨r, x, e1, e2, e3⟩
  · exact .inl h2
  · exact .inr ⟨r, x, e1, e2, ((Sub.refl G').upd hb) _ _ e3⟩
theorem OutR.set {G G' : AH} {out : AV} {l : List Dl} {b : Nat} {o c : AO} (h : OutR G G' out l) (hb : G b = some c) : OutR (upd G b o) (upd G' b o) out l := by
  obtain ⟨h1, h2⟩ := h
  refine ⟨Sub.cong h1, ?_⟩
  rcases h2 with h2 | ⟨r, x, e1, e2, e3⟩
  · exact .inl h2
  · have : r ≠ b := by rintro rfl; rw [e2] at hb; cases hb
    exact .inr ⟨r, x, e1, by simp [upd_apply, this, e2], by simp [upd_apply, this, e3]⟩
theorem OutR.rd {G G' : AH} {out : AV} {l : List Dl} (h : OutR G G' out l) : Rw G' out (flat dlc l) l.length 9 := by
  rcases h.2 with ⟨rfl, rfl⟩ | ⟨r, x, rfl, _, e3⟩
  · exact Rw.nil _ _
  · exact Rw.sl (flat_len dlc_l l) e3
theorem dl_all (l : List Dl) : (flat dlc l).all AV.one = true := by
  induction l with
  | nil => rfl
  | cons d l ih => rw [show d :: l = [d] ++ l from rfl, flat_app, List.all_append, ih, flat_one]; rfl
section
variable {G G' : AH} {B : PB} {m : PS}
theorem del_upd {H : AH} {a b : Nat} {o : AO} (h : a ≠ b) : del (upd H a o) b = upd (del H b) a o := by
  funext j
  simp only [upd_apply, del_apply]
  by_cases e : j = b
  · subst e; simp [Ne.symm h]
  · simp [e]
theorem PV_del {b : Nat} (hb : b ∉ B.ids) : del (PV G B m) b = PV (del G b) B m := by
  simp only [PB.ids, List.cons_append, List.nil_append, List.mem_cons, not_or] at hb
  obtain ⟨n1, n2, n3, n4, n5, n6⟩ := hb
  unfold PV
  rw [del_upd (Ne.symm n1), del_upd (Ne.symm n2), del_upd (Ne.symm n3), del_upd (Ne.symm n4), del_upd (Ne.symm n5)]
  congr 5
  unfold chH
  cases hc : B.ch with
  | none => rfl
  | some x =>
    obtain ⟨k, y, r⟩ := x
    simp only [chI, hc, List.mem_singleton] at n6
    exact del_upd (Ne.symm n6)
theorem BOk.del {b : Nat} (h : BOk G B m) : BOk (del G b) B m :=
  ⟨fun j hj => by simp only [del_apply]; split; · rfl
                  · exact h.free j hj, h.nd, h.ch, h.es, h.at_, h.st, h.len⟩
/-- One delivery more. -/
theorem OutR.app {out : AV} {l : List Dl} {k : AV → AH → Prop} (h : BOk G' B m) (ho : OutR G G' out l) (hl : l.length ≤ 1000) (d : Dl)
    (hk : ∀ G3 out', BOk G3 B m → OutR G G3 out' (l ++ [d]) → k out' (PV G3 B m)) : @appK (PV G' B m) 9 72 out 1 (dlc d) ⟨k⟩ := by
  obtain ⟨h1, ⟨rfl, rfl⟩ | ⟨r, x, rfl, e2, e3⟩⟩ := ho
  · rw [appK_nil (by decide)]
    refine ⟨⟨rfl, by decide⟩, fun b hb => ?_⟩
    obtain ⟨p1, p2, p3, p4⟩ := PV_new h hb (.cells (dlc d))
    show k (.sl b 0 1 9 false) (upd (PV G' B m) b (.cells (dlc d)))
    rw [p1]
    refine hk _ _ p2 ⟨h1.trans p4, .inr ⟨b, false, rfl, h1.none_of p3, by simp [upd_apply, flat_one]⟩⟩
  · have hr := PV_beside h e3
    have hrn : r ∉ B.ids := fun hm => by rw [h.free r hm] at e3; cases e3
    have hfl := flat_len dlc_l l
    rw [appK_sl]
    refine cellsK_of hr ⟨⟨rfl, rfl, by omega, by omega⟩, fun b hb => ?_⟩
    have hbn : b ∉ B.ids ∧ G b = none := by
      rcases hb with rfl | hb
      · exact ⟨hrn, e2⟩
      · obtain ⟨q1, q2⟩ := PV_free hb
        exact ⟨q1, h1.none_of q2⟩
    show k (.sl b 0 (l.length + 1) 9 false) (upd (Ab.del (PV G' B m) r) b (.cells ((flat dlc l).take (l.length * 9) ++ dlc d)))
    rw [List.take_of_length_le (by omega), PV_del hrn, PV_upd hbn.1]
    refine hk _ _ (h.del.upd hbn.1) ⟨?_, .inr ⟨b, false, by simp, hbn.2, by simp [upd_apply, flat_app, flat_one]⟩⟩
    exact (Sub.del h1 e2).upd hbn.2
theorem c140 (a b x y : Int) : PC Tryz.prog 140 [.ag [vi a, vi b], vi x, vi y] (.tp [vi (sub64 x a), vi (sub64 y b)]) := by
  refine .tell fun H => ?_
  refine call_c follows cf140_ok (by simp) ?_
  repeat' (first | simp [*, sub64] | (with_reducible (refine newK_of fun _ h_ => ?_); have hn_ := free_ne h_; (try simp only [upd_none', ne_eq] at h_)) | (with_reducible (refine condK_of (fun h_ => ?_) (fun h_ => ?_))))
  all_goals ((try with_reducible refine And.intro ?_ ?_) <;> (try (repeat' (first | with_reducible exact Sub.refl _ | with_reducible refine Sub.of_upd (by simp [*]) ?_))))
def dsend (m : PS) (d : Dl) : Dl := { d with cl := m.fc, sf := m.fs, sr := issN m.lg m.fc m.fs d.kd }
theorem c139 {K : AV → AH → Prop} {b o : Nat} {out : AV} {l : List Dl} {d : Dl} (h : BOk G' B m) (hb : G b = some (.cells [pA B.fo])) (ho : G o = some (.cells [out])) (hr : OutR G G' out l) (hl : l.length ≤ 900)
    (hk : ∀ G3 out', BOk G3 B { m with lg := issL m.lg m.fc m.fs d.kd } → OutR (upd G o (.cells [out'])) G3 out' (l ++ [dsend m d]) → K (.tp []) (PV G3 B { m with lg := issL m.lg m.fc m.fs d.kd })) :
    @AC Tryz.prog 139 [.ag (dlc d), pA b, pA o] (PV G' B m) ⟨K⟩ := by
  refine AC_of (.forget ?_)
  refine call_c follows cf139_ok (by simp) ?_
  have hdl : (dlc d).length = 9 := rfl
  simp [hdl]
  refine newK_of fun z hz => ?_
  have hf : PV G' B m B.fo = some (.cells [pA B.lg, vi m.fs, vi m.fc, vb m.fl]) := PV_fo h
  have hb1 := PV_beside h (hr.1 _ _ hb)
  have nb := free_ne hz b (by rw [hb1]; simp)
  have nf := free_ne hz B.fo (by rw [hf]; simp)
  have no := free_ne hz o (by rw [PV_beside h (hr.1 _ _ ho)]; simp)
  obtain ⟨p1, p2, p3, p4⟩ := PV_new h hz (.cells (dlc { d with cl := m.fc, sf := m.fs }))
  simp [hb1, hf, nb, nf, dlc]
  have e1 : upd (PV G' B m) z (.cells [AV.pl (.int .i64 m.fc), AV.pl (.int .i64 m.fs), vi d.kd, vi d.tm, vi d.x, vi d.y, vi d.co, vi d.va, vu d.sr]) = PV (upd G' z (.cells (dlc { d with cl := m.fc, sf := m.fs }))) B m := p1
  rw [e1]
  have hzz : upd G' z (.cells (dlc { d with cl := m.fc, sf := m.fs })) z = some (.cells (dlc { d with cl := m.fc, sf := m.fs })) := by simp [upd_apply]
  have hr1 : OutR G (upd G' z (.cells (dlc { d with cl := m.fc, sf := m.fs }))) out l := hr.new p3
  have hb2 := hr1.1 _ _ hb
  have ho2 := hr1.1 _ _ ho
  have hoG : G o ≠ none := by rw [ho]; simp
  generalize upd G' z (.cells (dlc { d with cl := m.fc, sf := m.fs })) = G1 at *
  refine issueP p2 _ _ _ ?_
  have q2 := p2.lgs m.fc m.fs d.kd
  generalize hM : ({ m with lg := issL m.lg m.fc m.fs d.kd } : PS) = M at *
  have kz := PV_beside q2 hzz
  have ko := PV_beside q2 ho2
  have kb := PV_beside q2 hb2
  obtain ⟨s1, s2⟩ := PV_set q2 hzz (.cells (dlc (dsend m d)))
  have nzo : ¬ o = z := no.1
  have hne : G1 z ≠ none := by rw [hzz]; simp
  simp [kz, ko, dlc, nzo]
  have e2 : upd (PV G1 B M) z (.cells [vi m.fc, vi m.fs, vi d.kd, vi d.tm, vi d.x, vi d.y, vi d.co, vi d.va, AV.pl (.int .u32 (issN m.lg m.fc m.fs d.kd))]) = PV (upd G1 z (.cells (dlc (dsend m d)))) B M := s1
  rw [e2]
  have hr2 : OutR G (upd G1 z (.cells (dlc (dsend m d)))) out l := by
    obtain ⟨j1, j2⟩ := hr1
    refine ⟨fun j x hj => ?_, ?_⟩
    · have hjz : j ≠ z := by
        rintro rfl
        have := hr.1 _ _ hj
        rw [p3] at this; cases this
      simp only [upd_apply]
      rw [if_neg hjz]
      exact j1 j x hj
    · rcases j2 with j2 | ⟨r, x, g1, g2, g3⟩
      · exact .inl j2
      · have hrz : r ≠ z := by
          rintro rfl
          rw [hzz] at g3
          obtain g3 : dlc { d with cl := m.fc, sf := m.fs } = flat dlc l := by injection g3 with g3; injection g3
          have hl2 := congrArg List.length g3
          rcases hr.2 with ⟨hx1, hx2⟩ | ⟨r', x', k1, k2, k3⟩
          · rw [hx2] at g1; cases g1
          · rw [k1] at g1
            injection g1 with g1
            subst g1
            rw [p3] at k3; cases k3
        exact .inr ⟨r, x, g1, g2, by simp only [upd_apply]; rw [if_neg hrz]; exact g3⟩
  have ho3 := hr2.1 _ _ ho
  generalize upd G1 z (.cells (dlc (dsend m d))) = G2 at *
  refine newK_of fun q hq => ?_
  obtain ⟨t1, t2, t3, t4⟩ := PV_new s2 hq (.cells (dlc (dsend m d)))
  have e3 : upd (PV G2 B M) q (.cells [vi m.fc, vi m.fs, vi d.kd, vi d.tm, vi d.x, vi d.y, vi d.co, vi d.va, AV.pl (.int .u32 (issN m.lg m.fc m.fs d.kd))]) = PV (upd G2 q (.cells (dlc (dsend m d)))) B M := t1
  have hr3 : OutR G (upd G2 q (.cells (dlc (dsend m d)))) out l := hr2.new t3
  have hqq : PV (upd G2 q (.cells (dlc (dsend m d)))) B M q = some (.cells (dlc (dsend m d))) := PV_beside t2 (by simp [upd_apply])
  generalize hx9 : AV.sl q 0 1 9 true = x9
  rw [e3]
  have hnw : ∀ k : Nat → List AV → Prop, @NEWS (PV (upd G2 q (.cells (dlc (dsend m d)))) B M) x9 9 ⟨k⟩ = k 1 (dlc (dsend m d)) := by
    intro k
    rw [← hx9]
    simp [hqq, show (dlc (dsend m d)).length = 9 from rfl, show (dlc (dsend m d)).take 9 = dlc (dsend m d) from rfl]
  generalize upd G2 q (.cells (dlc (dsend m d))) = G3 at *
  simp [hnw]
  refine hr3.app t2 (by omega) _ fun G4 out' h4 hr4 => ?_
  have ho4 := PV_beside h4 (hr4.1 _ _ ho)
  have oo : out'.one = true := Rw.one hr4.rd
  have oc := Rw.cells hr4.rd
  obtain ⟨u1, u2⟩ := PV_set h4 (hr4.1 _ _ ho) (.cells [out'])
  simp [ho4, oo, oc]
  refine ⟨_, ?_, hk _ _ u2 (hr4.set ho)⟩
  rw [u1]
  exact Sub.refl _
end
end Go.Proofs.YtmpncpamndhmcaaGreat
end

/-! The focus, walked: Update. Conditions: as each lemma states them. -/
section
namespace Go.Proofs.YtmpncpamndhmcaaGreat
open Go Go.Ab Go.RowKit

attribute [local simp] rc_len rc_t4 rc_t1 rc_t2 rc_t3 rc_d1 rc_d2 rc_d3 rc_d4 rc_ag rc_one rc_eq

section
variable {G : AH} {B : PB} {m : PS}
theorem ItsR.pv {a : AV} {L : List It} (h : ItsR G a L) (hB : BOk G B m) : ItsR (PV G B m) a L := h.sub (PV_sub hB)
theorem good_u1 : goodCallee Tryz.prog 139 = true := by kernel_rfl
theorem good_re : goodCallee Tryz.prog 140 = true := by kernel_rfl
def lv1 (m : PS) : Lg := if m.fs ≠ 0 ∨ m.fc ≠ 0 then issL m.lg m.fc m.fs 2 else m.lg
def lvO (m : PS) : List Dl := if m.fs ≠ 0 ∨ m.fc ≠ 0 then [⟨m.fc, m.fs, 2, 0, 0, 0, 0, 0, issN m.lg m.fc m.fs 2⟩] else []
theorem updM_eq {m : PS} {L : List It} {x y : Int} (h1 : m.fl = false) (h2 : ¬ ((tgtF L x y).1 = m.fs ∧ (tgtF L x y).2 = m.fc)) :
    updM m L x y = ({ m with lg := (if (tgtF L x y).1 ≠ 0 ∨ (tgtF L x y).2 ≠ 0 then issL (lv1 m) (tgtF L x y).2 (tgtF L x y).1 1 else lv1 m), fs := (tgtF L x y).1, fc := (tgtF L x y).2 },
      lvO m ++ (if (tgtF L x y).1 ≠ 0 ∨ (tgtF L x y).2 ≠ 0 then [⟨(tgtF L x y).2, (tgtF L x y).1, 1, 0, sub64 x (orgF L x y).1, sub64 y (orgF L x y).2, 0, 0, issN (lv1 m) (tgtF L x y).2 (tgtF L x y).1 1⟩] else [])) := by
  unfold updM
  rw [if_neg (by simp [h1])]
  simp only
  rw [if_neg h2]
  rfl
theorem lvO_len (m : PS) : (lvO m).length ≤ 1 := by unfold lvO; split <;> simp
theorem c122 {K : AV → AH → Prop} {a : AV} {L : List It} {x y : Int} (h : BOk G B m) (ha : ItsR G a L) (hl : L.length ≤ 10000000)
    (hk : ∀ G' out, BOk G' B (updM m L x y).1 → OutR G G' out (updM m L x y).2 → K out (PV G' B (updM m L x y).1)) : @AC Tryz.prog 122 [pA B.fo, a, vi x, vi y] (PV G B m) ⟨K⟩ := by
  refine AC_of (.forget ?_)
  refine call_c follows cf122_ok (by simp) ?_
  simp
  refine newK_of fun b hb => ?_
  obtain ⟨p1, h1, p3, hs1⟩ := PV_new h hb (.cells [pA B.fo])
  have e1 : upd (PV G B m) b (.cells [AV.pl (.pointer (some { block := B.fo, off := 0 }))]) = PV (upd G b (.cells [pA B.fo])) B m := p1
  rw [e1]
  have hb1 : upd G b (.cells [pA B.fo]) b = some (.cells [pA B.fo]) := by simp [upd_apply]
  generalize upd G b (.cells [pA B.fo]) = G1 at *
  have hf1 : PV G1 B m B.fo = some (.cells [pA B.lg, vi m.fs, vi m.fc, vb m.fl]) := PV_fo h1
  have kb1 := PV_beside h1 hb1
  simp [kb1]
  refine c35 hf1 ?_
  cases hfl : m.fl with
  | true =>
    have e : updM m L x y = (m, []) := by unfold updM; rw [if_pos hfl]
    rw [e] at hk
    simp [kb1, hf1, hfl]
    exact ⟨_, PV_cong hs1, hk G vnil h (OutR.nil (Sub.refl _))⟩
  | false =>
    simp [kb1, hf1, hfl]
    refine c121 ((ha.sub hs1).pv h1) hl ?_
    by_cases heq : (tgtF L x y).1 = m.fs ∧ (tgtF L x y).2 = m.fc
    · have e : updM m L x y = (m, []) := by unfold updM; rw [if_neg (by simp [hfl])]; simp only; rw [if_pos heq]
      rw [e] at hk
      simp [kb1, hf1, heq.1, heq.2]
      exact ⟨_, PV_cong hs1, hk G vnil h (OutR.nil (Sub.refl _))⟩
    · have e := updM_eq hfl heq
      rw [e] at hk
      have ht2 := @tgt_at L x y
      have hneg := @tgt_neg L x y
      have hrng := atF_rng L x y
      have hcond : ∀ {A C : Prop}, ((tgtF L x y).1 = m.fs → (tgtF L x y).2 = m.fc → False) := by intro A C h1 h2; exact heq ⟨h1, h2⟩
      generalize hT : tgtF L x y = T at *
      obtain ⟨t1, t2⟩ := T
      simp only at hk heq
      have hta : t1 = m.fs → t2 ≠ m.fc := fun h1 h2 => heq ⟨h1, h2⟩
      simp [kb1, hf1]
      generalize hd1 : decide (t1 = m.fs) = D1
      generalize hd2 : decide (t2 = m.fc) = D2 at *
      cases D1
      case' false => simp
      case' true =>
        have hd : D2 = false := by rw [← hd2]; exact decide_eq_false (hta (of_decide_eq_true hd1))
        subst hd
        simp [kb1, hf1, hd2]
      all_goals
        refine newK_of fun o ho => ?_
        obtain ⟨q1, h2, q3, hs2⟩ := PV_new h1 ho (.cells [vnil])
        have e2 : upd (PV G1 B m) o (.cells [AV.pl (.slice none 0 0)]) = PV (upd G1 o (.cells [vnil])) B m := q1
        have ho2 : upd G1 o (.cells [vnil]) o = some (.cells [vnil]) := by simp [upd_apply]
        have hb2 := hs2.at hb1
        have hob : o ≠ b := by rintro rfl; rw [q3] at hb1; cases hb1
        rw [e2]
        have hr2 : OutR (upd (upd G1 o (.cells [vnil])) o (.cells [vnil])) (upd G1 o (.cells [vnil])) vnil [] := OutR.nil (by rw [upd_twice]; exact Sub.refl _)
        have hbase : ∀ v : AV, Sub G (upd (upd G1 o (.cells [vnil])) o (.cells [v])) := fun v => by
          rw [upd_twice]
          exact hs1.trans ((Sub.refl G1).upd q3)
        generalize upd G1 o (.cells [vnil]) = G2 at *
        have hf2 : PV G2 B m B.fo = some (.cells [pA B.lg, vi m.fs, vi m.fc, vb m.fl]) := PV_fo h2
        have kb2 := PV_beside h2 hb2
        obtain ⟨M1, hM⟩ : ∃ M1 : PS, M1 = { m with lg := lv1 m } := ⟨_, rfl⟩
        have hcase : (m.fs = 0 ∧ m.fc = 0) ∨ (m.fs = 0 ∧ m.fc ≠ 0) ∨ m.fs ≠ 0 := by omega
        rcases hcase with ⟨z1, z2⟩ | ⟨z1, z2⟩ | z1
        case' inl =>
          have hn : ¬ (m.fs ≠ 0 ∨ m.fc ≠ 0) := by omega
          have hmm : M1 = m := by rw [hM, show lv1 m = m.lg from if_neg hn]
          have hO : lvO m = [] := if_neg hn
          obtain ⟨G3, hG3⟩ : ∃ G3, G3 = G2 := ⟨_, rfl⟩
          obtain ⟨out1, hout⟩ : ∃ out1, out1 = vnil := ⟨_, rfl⟩
          have h3 : BOk G3 B M1 := by rw [hG3, hmm]; exact h2
          have hr3 : OutR (upd G2 o (.cells [out1])) G3 out1 (lvO m) := by rw [hout, hG3, hO, upd_self ho2]; exact OutR.nil (Sub.refl _)
          simp [kb2, hf2, z1, z2]
          rw [show PV G2 B m = PV G3 B M1 by rw [hG3, hmm]]
        case' inr.inl =>
          have hn : (m.fs ≠ 0 ∨ m.fc ≠ 0) := by omega
          simp [kb2, hf2, z1, z2, good_u1]
          refine c139 (G := G2) (out := vnil) (l := []) (d := ⟨0, 0, 2, 0, 0, 0, 0, 0, 0⟩) h2 hb2 ho2 (OutR.nil (Sub.refl _)) (by simp) fun G3 out1 h3 hr3 => ?_
          have hmm : ({ m with lg := issL m.lg m.fc m.fs 2 } : PS) = M1 := by rw [hM, show lv1 m = issL m.lg m.fc m.fs 2 from if_pos hn]
          have hO : lvO m = [dsend m ⟨0, 0, 2, 0, 0, 0, 0, 0, 0⟩] := if_pos hn
          have h3 : BOk G3 B M1 := by rw [← hmm]; exact h3
          have hr3 : OutR (upd G2 o (.cells [out1])) G3 out1 (lvO m) := by rw [hO]; exact hr3
          simp
          rw [show PV G3 B { m with lg := issL m.lg m.fc m.fs 2 } = PV G3 B M1 by rw [hmm]]
        case' inr.inr =>
          have hn : (m.fs ≠ 0 ∨ m.fc ≠ 0) := by omega
          simp [kb2, hf2, z1, good_u1]
          refine c139 (G := G2) (out := vnil) (l := []) (d := ⟨0, 0, 2, 0, 0, 0, 0, 0, 0⟩) h2 hb2 ho2 (OutR.nil (Sub.refl _)) (by simp) fun G3 out1 h3 hr3 => ?_
          have hmm : ({ m with lg := issL m.lg m.fc m.fs 2 } : PS) = M1 := by rw [hM, show lv1 m = issL m.lg m.fc m.fs 2 from if_pos hn]
          have hO : lvO m = [dsend m ⟨0, 0, 2, 0, 0, 0, 0, 0, 0⟩] := if_pos hn
          have h3 : BOk G3 B M1 := by rw [← hmm]; exact h3
          have hr3 : OutR (upd G2 o (.cells [out1])) G3 out1 (lvO m) := by rw [hO]; exact hr3
          simp
          rw [show PV G3 B { m with lg := issL m.lg m.fc m.fs 2 } = PV G3 B M1 by rw [hmm]]
        all_goals
          have ho3 : upd G2 o (.cells [out1]) o = some (.cells [out1]) := by simp [upd_apply]
          have hb3 : upd G2 o (.cells [out1]) b = some (.cells [pA B.fo]) := by simp [upd_apply, Ne.symm hob, hb2]
          have hGb := hbase out1
          have nbf : ¬ b = B.fo := fun e => by
            have := h3.free B.fo (by simp [PB.ids])
            rw [← e, hr3.1 _ _ hb3] at this; cases this
          have nof : ¬ o = B.fo := fun e => by
            have := h3.free B.fo (by simp [PB.ids])
            rw [← e, hr3.1 _ _ ho3] at this; cases this
          generalize upd G2 o (.cells [out1]) = Gb at *
          have kb3 := PV_beside h3 (hr3.1 _ _ hb3)
          have hf3 : PV G3 B M1 B.fo = some (.cells [pA B.lg, vi M1.fs, vi M1.fc, vb M1.fl]) := PV_fo h3
          obtain ⟨M2, hM2⟩ : ∃ M2 : PS, M2 = { M1 with fs := t1, fc := t2 } := ⟨_, rfl⟩
          have hw := PV_wfo h3 t1 t2 M1.fl
          have h4 : BOk G3 B M2 := by rw [hM2]; exact ⟨h3.free, h3.nd, h3.ch, h3.es, h3.at_, h3.st, h3.len⟩
          have hfd : foc B { M1 with fs := t1, fc := t2, fl := M1.fl } = [pA B.lg, vi t1, vi t2, vb M1.fl] := rfl
          rw [hfd, show ({ M1 with fs := t1, fc := t2, fl := M1.fl } : PS) = M2 from hM2.symm] at hw
          have hmfl : M1.fl = m.fl := by rw [hM]
          have hMl : M1.lg = lv1 m := by rw [hM]
          have hM2s : M2.fs = t1 ∧ M2.fc = t2 ∧ M2.lg = lv1 m := by rw [hM2]; exact ⟨rfl, rfl, hMl⟩
          have hm2 : M2 = { m with lg := lv1 m, fs := t1, fc := t2 } := by rw [hM2, hM]
          simp [kb3, hf3, nbf]
          have e4 : upd (PV G3 B M1) B.fo (.cells [pA B.lg, AV.pl (.int .i64 t1), AV.pl (.int .i64 t2), vb M1.fl]) = PV G3 B M2 := hw
          first
            | rw [e4]
            | rw [← hmfl, e4]
          have hf4 : PV G3 B M2 B.fo = some (.cells [pA B.lg, vi M2.fs, vi M2.fc, vb M2.fl]) := PV_fo h4
          have kb4 := PV_beside h4 (hr3.1 _ _ hb3)
          have ko4 := PV_beside h4 (hr3.1 _ _ ho3)
          have oo1 : out1.one = true := Rw.one hr3.rd
          have oc1 := Rw.cells hr3.rd
          have hcase2 : (t1 = 0 ∧ t2 = 0) ∨ (t1 = 0 ∧ t2 ≠ 0) ∨ t1 ≠ 0 := by omega
          rcases hcase2 with ⟨y1, y2⟩ | hy
          · have hn2 : ¬ (t1 ≠ 0 ∨ t2 ≠ 0) := by omega
            rw [if_neg hn2, if_neg hn2, List.append_nil, ← hm2] at hk
            simp [y1, y2, ko4]
            exact ⟨_, Sub.refl _, hk G3 out1 h4 (hr3.base hGb)⟩
          · have hn2 : (t1 ≠ 0 ∨ t2 ≠ 0) := by omega
            rw [if_pos hn2, if_pos hn2] at hk
            have hat : ¬ atF L x y < 0 := fun hlt => by have := hneg hlt; injection this with g1 g2; omega
            obtain ⟨n, hnat⟩ : ∃ n : Nat, atF L x y = n := ⟨(atF L x y).toNat, by omega⟩
            have hlt : n < L.length := by omega
            have hGs3 : Sub G (PV G3 B M2) := (hGb.trans hr3.1).trans (PV_sub h4)
            have haI := ha.sub hGs3
            obtain ⟨p, hp1, hp2, hpf⟩ := fat itc_l haI.1 hlt
            obtain ⟨u2, f2, g2⟩ := hpf 2 (vi L[n].x) rfl
            obtain ⟨u3, f3, g3⟩ := hpf 3 (vi L[n].y) rfl
            have horg := (ht2 hlt hnat).2
            rw [horg] at hk
            generalize L[n] = i at *
            have hyy : (t1 = 0 → t2 ≠ 0) := by omega
            by_cases y1 : t1 = 0
            case' pos =>
              have y2 : ¬ t2 = 0 := hyy y1
              simp [y1, y2]
            case' neg =>
              simp [y1]
            all_goals
              refine c138 haI hl ?_
              simp [hnat, hp1, f2, f3, g2 _ (Sub.refl _), g3 _ (Sub.refl _), good_re]
              refine (c140 _ _ _ _).ac ?_
              simp [good_u1]
              refine c139 (G := Gb) (out := out1) (l := lvO m) (d := ⟨0, 0, 1, 0, sub64 x i.x, sub64 y i.y, 0, 0, 0⟩) h4 hb3 ho3 hr3 (by have := lvO_len m; omega) fun G4 out2 h5 hr5 => ?_
              have ho5 := PV_beside h5 (hr5.1 _ _ (by simp [upd_apply] : upd Gb o (.cells [out2]) o = some (.cells [out2])))
              have oc2 := Rw.cells hr5.rd
              simp [ho5]
              have hd5 : dsend M2 ⟨0, 0, 1, 0, sub64 x i.x, sub64 y i.y, 0, 0, 0⟩ = ⟨t2, t1, 1, 0, sub64 x i.x, sub64 y i.y, 0, 0, issN (lv1 m) t2 t1 1⟩ := by
                unfold dsend
                rw [hM2s.1, hM2s.2.1, hM2s.2.2]
              have hm5 : ({ M2 with lg := issL M2.lg M2.fc M2.fs 1 } : PS) = { m with lg := issL (lv1 m) t2 t1 1, fs := t1, fc := t2 } := by
                rw [hM2s.1, hM2s.2.1, hM2s.2.2, hm2]
              have hr6 := hr5.base (G0 := G) (by
                refine fun j ob hj => ?_
                have hjo : j ≠ o := by
                  rintro rfl
                  have := hs1 _ _ hj
                  rw [this] at q3; cases q3
                simp only [upd_apply]
                rw [if_neg hjo]
                exact hGb _ _ hj)
              rw [hd5] at hr6
              simp only at h5
              refine ⟨_, Sub.refl _, ?_⟩
              have h5' : BOk G4 B { M2 with lg := issL M2.lg M2.fc M2.fs 1 } := h5
              show K out2 (PV G4 B { M2 with lg := issL M2.lg M2.fc M2.fs 1 })
              rw [hm5] at h5' ⊢
              exact hk G4 out2 h5' hr6
end
end Go.Proofs.YtmpncpamndhmcaaGreat
end

/-! The pointer, walked: whether it was made, its target, the refreshing of its focus, the sending of an event. Conditions: as each lemma states them. -/
section
namespace Go.Proofs.YtmpncpamndhmcaaGreat
open Go Go.Ab Go.RowKit

attribute [local simp] rc_len rc_t4 rc_t1 rc_t2 rc_t3 rc_d1 rc_d2 rc_d3 rc_d4 rc_ag rc_one rc_eq

section
variable {G : AH} {B : PB} {m : PS}
theorem PV_ptr : PV G B m B.p = some (.cells [pA B.lg, pA B.fo, pA B.gr, mpv B, vi m.x, vi m.y, vi m.hd, vb m.td, vi m.lt]) := PV_p
theorem c33 {H : AH} {K : AV → AH → Prop} {p l : Nat} {cs : List AV} (hp : H p = some (.cells (pA l :: cs))) (hk : K (vb true) H) : @AC Tryz.prog 33 [pA p] H ⟨K⟩ := by
  refine call_c follows cf33_ok (by simp) ?_
  simp [hp]
  exact hk
theorem BOk.ch100 (h : BOk G B m) : m.g.ch.length < 100 := by have := h.len; omega
theorem c90 {K : AV → AH → Prop} (h : BOk G B m) (hk : K (.tp [vi m.fs, vi m.fc, vb (okM m)]) (PV G B m)) : @AC Tryz.prog 90 [pA B.p] (PV G B m) ⟨K⟩ := by
  have hp := PV_ptr (G := G) (B := B) (m := m)
  refine AC_of (.forget ?_)
  refine call_c follows cf90_ok (by simp) ?_
  simp [hp]
  refine c13 h ?_
  unfold okM at hk
  by_cases h0 : m.fs = 0
  · simp [h0] at hk
    simp [h0]
    exact ⟨_, Sub.refl _, hk⟩
  · simp [h0] at hk
    simp [h0, hp]
    refine c17 h.stack h.ch100 m.fc ?_
    simp
    exact ⟨_, Sub.refl _, hk⟩
theorem c89 {K : AV → AH → Prop} {a : AV} {L : List It} (h : BOk G B m) (ha : ItsR G a L) (hl : L.length ≤ 10000000)
    (hk : ∀ G' out, BOk G' B (refM m L).1 → OutR G G' out (refM m L).2 → K out (PV G' B (refM m L).1)) : @AC Tryz.prog 89 [pA B.p, a] (PV G B m) ⟨K⟩ := by
  have hp := PV_ptr (G := G) (B := B) (m := m)
  refine AC_of (.forget ?_)
  refine call_c follows cf89_ok (by simp) ?_
  simp [hp]
  refine c121 (ha.pv h) hl ?_
  unfold refM at hk
  simp only at hk
  generalize tgtF L m.x m.y = T at *
  obtain ⟨t1, t2⟩ := T
  simp only at hk
  have fin : ∀ G' out (M : PS), K out (PV G' B M) → ∃ H0, Sub H0 (PV G' B M) ∧ K out H0 := fun G' out M hK => ⟨_, Sub.refl _, hK⟩
  by_cases h0 : t1 = 0
  · rw [if_neg (by simp [h0])] at hk
    simp [h0, hp]
    refine c122 h ha hl fun G' out h1 h2 => ?_
    have oo := Rw.one h2.rd
    have oc := Rw.cells h2.rd
    simp
    exact fin _ _ _ (hk G' out h1 h2)
  · simp [h0, hp]
    refine c17 h.stack h.ch100 t2 ?_
    cases hal : allowsM m.g t2 with
    | true =>
      rw [if_neg (by simp [hal])] at hk
      simp [hp]
      refine c122 h ha hl fun G' out h1 h2 => ?_
      have oc := Rw.cells h2.rd
      simp
      exact fin _ _ _ (hk G' out h1 h2)
    | false =>
      rw [if_pos ⟨h0, hal⟩] at hk
      simp [hp]
      refine c122 h (ItsR.nil G) (by simp) fun G' out h1 h2 => ?_
      have oc := Rw.cells h2.rd
      simp
      exact fin _ _ _ (hk G' out h1 h2)
end
end Go.Proofs.YtmpncpamndhmcaaGreat
end

/-! The pointer, walked: sending an event, moving, ending the implicit grab. Conditions: as each lemma states them. -/
section
namespace Go.Proofs.YtmpncpamndhmcaaGreat
open Go Go.Ab Go.RowKit

attribute [local simp] rc_len rc_t4 rc_t1 rc_t2 rc_t3 rc_d1 rc_d2 rc_d3 rc_d4 rc_ag rc_one rc_eq

section
variable {G G0 : AH} {B : PB} {m : PS}
/-- A row beside a block that turns, where the block is new to what is held. -/
theorem OutR.turn {G G1 : AH} {out : AV} {l : List Dl} {z : Nat} {c : AO} {d : Dl} (h : OutR G G1 out l) (hz : G z = none) (hzz : G1 z = some (.cells (dlc d))) (hr : ∀ r x, out = .sl r 0 l.length 9 x → r ≠ z) : OutR G (upd G1 z c) out l := by
  obtain ⟨j1, j2⟩ := h
  refine ⟨fun j x hj => ?_, ?_⟩
  · have hjz : j ≠ z := by rintro rfl; rw [hz] at hj; cases hj
    simp only [upd_apply]
    rw [if_neg hjz]
    exact j1 j x hj
  · rcases j2 with j2 | ⟨r, x, g1, g2, g3⟩
    · exact .inl j2
    · exact .inr ⟨r, x, g1, g2, by simp only [upd_apply]; rw [if_neg (hr r x g1)]; exact g3⟩
theorem OutR.apart {G G1 : AH} {out : AV} {l : List Dl} {z : Nat} (h : OutR G G1 out l) (hz : G1 z = none) : ∀ r x, out = .sl r 0 l.length 9 x → r ≠ z := by
  rintro r x hx rfl
  rcases h.2 with ⟨_, rfl⟩ | ⟨r', x', k1, k2, k3⟩
  · cases hx
  · rw [k1] at hx
    injection hx with hx
    subst hx
    rw [hz] at k3; cases k3
theorem c61 {K : AV → AH → Prop} {out : AV} {l : List Dl} {d : Dl} (h : BOk G B m) (hr : OutR G0 G out l) (hl : l.length ≤ 900)
    (hk : ∀ G' out', BOk G' B (sendM m l d).1 → OutR G0 G' out' (sendM m l d).2 → K out' (PV G' B (sendM m l d).1)) : @AC Tryz.prog 61 [pA B.p, out, .ag (dlc d)] (PV G B m) ⟨K⟩ := by
  have ou := Rw.one hr.rd
  have oc := Rw.cells hr.rd
  refine AC_of (.forget ?_)
  refine call_c follows cf61_ok (by simp) ?_
  have hdl : (dlc d).length = 9 := rfl
  simp [hdl]
  refine newK_of fun z hz => ?_
  obtain ⟨p1, h1, p3, hs1⟩ := PV_new h hz (.cells (dlc d))
  have hap := hr.apart p3
  have hz0 : G0 z = none := hr.1.none_of p3
  have hr1 : OutR G0 (upd G z (.cells (dlc d))) out l := hr.new p3
  have hzz : upd G z (.cells (dlc d)) z = some (.cells (dlc d)) := by simp [upd_apply]
  rw [p1]
  generalize hG1 : upd G z (.cells (dlc d)) = G1 at *
  simp
  refine c90 h1 ?_
  cases hok : okM m with
  | false =>
    have e : sendM m l d = (m, l) := by simp [sendM, hok]
    rw [e] at hk
    simp
    exact ⟨_, PV_cong hs1, hk G out h hr⟩
  | true =>
    have hp := PV_ptr (G := G1) (B := B) (m := m)
    have kz := PV_beside h1 hzz
    have nzp : ¬ B.p = z := fun e => by have := h1.free B.p (by simp [PB.ids]); rw [e, hzz] at this; cases this
    obtain ⟨s1, s2⟩ := PV_set h1 hzz (.cells (dlc { d with cl := m.fc, sf := m.fs, tm := m.lt }))
    have hr2 := hr1.turn (c := .cells (dlc { d with cl := m.fc, sf := m.fs, tm := m.lt })) hz0 hzz hap
    have hzz2 : upd G1 z (.cells (dlc { d with cl := m.fc, sf := m.fs, tm := m.lt })) z = some (.cells (dlc { d with cl := m.fc, sf := m.fs, tm := m.lt })) := by simp [upd_apply]
    simp [hp, kz, nzp, dlc]
    have e1 : upd (PV G1 B m) z (.cells [AV.pl (.int .i64 m.fc), AV.pl (.int .i64 m.fs), vi d.kd, vi m.lt, vi d.x, vi d.y, vi d.co, vi d.va, vu d.sr]) = PV (upd G1 z (.cells (dlc { d with cl := m.fc, sf := m.fs, tm := m.lt }))) B m := s1
    rw [e1]
    generalize upd G1 z (.cells (dlc { d with cl := m.fc, sf := m.fs, tm := m.lt })) = G2 at *
    by_cases h4 : d.kd = 4
    case' pos =>
      have e : sendM m l d = ({ m with lg := issL m.lg m.fc m.fs 4 }, l ++ [{ d with cl := m.fc, sf := m.fs, tm := m.lt, sr := issN m.lg m.fc m.fs 4 }]) := by unfold sendM; rw [if_pos hok, if_pos h4]
      rw [e] at hk
      have hp2 := PV_ptr (G := G2) (B := B) (m := m)
      simp [h4, hp2]
      refine issueP s2 _ _ _ ?_
      have q2 := s2.lgs m.fc m.fs 4
      obtain ⟨M, hM⟩ : ∃ M : PS, { m with lg := issL m.lg m.fc m.fs 4 } = M := ⟨_, rfl⟩
      rw [hM] at hk q2 ⊢
      have kz2 := PV_beside q2 hzz2
      obtain ⟨d', hd'⟩ : ∃ d' : Dl, d' = { d with cl := m.fc, sf := m.fs, tm := m.lt, sr := issN m.lg m.fc m.fs 4 } := ⟨_, rfl⟩
      rw [← hd'] at hk
      obtain ⟨u1, u2⟩ := PV_set q2 hzz2 (.cells (dlc d'))
      have hr3 := hr2.turn (c := .cells (dlc d')) hz0 hzz2 hap
      have u3 : upd G2 z (.cells (dlc d')) z = some (.cells (dlc d')) := by simp [upd_apply]
      have e5 : dlc d' = [vi m.fc, vi m.fs, vi 4, vi m.lt, vi d.x, vi d.y, vi d.co, vi d.va, AV.pl (.int .u32 (issN m.lg m.fc m.fs 4))] := by rw [hd', ← h4]; rfl
      have u1' := u1
      rw [e5] at u1'
      simp [kz2, dlc, h4]
      rw [u1', ← e5]
      generalize upd G2 z (.cells (dlc d')) = G3 at *
      obtain ⟨r3, hr3⟩ : ∃ r : OutR G0 G3 out l, True := ⟨hr3, trivial⟩
    case' neg =>
      have e : sendM m l d = (m, l ++ [{ d with cl := m.fc, sf := m.fs, tm := m.lt }]) := by unfold sendM; rw [if_pos hok, if_neg h4]
      rw [e] at hk
      obtain ⟨M, hM⟩ : ∃ M : PS, m = M := ⟨_, rfl⟩
      obtain ⟨G3, hG3⟩ : ∃ G3, G2 = G3 := ⟨_, rfl⟩
      obtain ⟨d', hd'⟩ : ∃ d' : Dl, d' = { d with cl := m.fc, sf := m.fs, tm := m.lt } := ⟨_, rfl⟩
      rw [← hd'] at hk hzz2
      rw [hG3] at s2 hr2 hzz2 ⊢
      have u2 := s2
      have u3 := hzz2
      have r3 := hr2
      rw [hM] at u2 hk ⊢
      simp [h4]
    all_goals
      have kz3 := PV_beside u2 u3
      simp only at hk
      have hdl' : (dlc d').length = 9 := rfl
      have hdt' : (dlc d').take 9 = dlc d' := rfl
      try simp [kz3, hdl', hdt']
      refine newK_of fun q hq => ?_
      obtain ⟨t1, t2, t3, t4⟩ := PV_new u2 hq (.cells (dlc d'))
      have hr4 : OutR G0 (upd G3 q (.cells (dlc d'))) out l := r3.new t3
      have hqq : PV (upd G3 q (.cells (dlc d'))) B M q = some (.cells (dlc d')) := PV_beside t2 (by simp [upd_apply])
      rw [t1]
      have hnw : ∀ k : Nat → List AV → Prop, @NEWS (PV (upd G3 q (.cells (dlc d'))) B M) (AV.sl q 0 1 9 true) 9 ⟨k⟩ = k 1 (dlc d') := by
        intro k
        simp [hqq, hdl', hdt']
      generalize AV.sl q 0 1 9 true = x9 at *
      generalize upd G3 q (.cells (dlc d')) = G4 at *
      simp [hnw]
      refine hr4.app t2 (by omega) _ fun G5 out' h5 hr5 => ?_
      have oc5 := Rw.cells hr5.rd
      simp
      exact ⟨_, Sub.refl _, hk G5 out' h5 hr5⟩
end
end Go.Proofs.YtmpncpamndhmcaaGreat
end

/-! The pointer, walked: the end of the implicit grab; the item of a surface; a motion. Conditions: as each lemma states them. -/
section
namespace Go.Proofs.YtmpncpamndhmcaaGreat
open Go Go.Ab Go.RowKit

attribute [local simp] rc_len rc_t4 rc_t1 rc_t2 rc_t3 rc_d1 rc_d2 rc_d3 rc_d4 rc_ag rc_one rc_eq

section
variable {G G0 : AH} {B : PB} {m : PS}
theorem BOk.wp (h : BOk G B m) {x y hd lt : Int} {td : Bool} : BOk G B { m with x := x, y := y, hd := hd, td := td, lt := lt } := ⟨h.free, h.nd, h.ch, h.es, h.at_, h.st, h.len⟩
theorem BOk.wf (h : BOk G B m) {fs fc : Int} {fl : Bool} : BOk G B { m with fs := fs, fc := fc, fl := fl } := ⟨h.free, h.nd, h.ch, h.es, h.at_, h.st, h.len⟩
theorem relM_ch (m : M) : (releaseM m).1.ch = m.ch := by unfold releaseM; split <;> rfl
theorem c69 {K : AV → AH → Prop} (h : BOk G B m) (hk : ∀ c, BOk G { B with ch := c } (endH m) → K (.tp []) (PV G { B with ch := c } (endH m))) : @AC Tryz.prog 69 [pA B.p] (PV G B m) ⟨K⟩ := by
  have hp := PV_ptr (G := G) (B := B) (m := m)
  refine AC_of (.forget ?_)
  refine call_c follows cf69_ok (by simp) ?_
  by_cases h0 : m.hd = 0
  · have e : endH m = m := by unfold endH; rw [if_neg (by simpa using h0)]
    rw [e] at hk
    simp [hp, h0]
    exact ⟨_, Sub.refl _, hk B.ch h⟩
  · have e : endH m = { m with g := (releaseM m.g).1, hd := 0 } := by unfold endH; rw [if_pos h0]
    rw [e] at hk
    simp [hp, h0]
    refine AC_of (c107 h.stack fun H' F' hs hst => ?_)
    obtain ⟨c, hB, hsub⟩ := h.grabs hs hst (by rw [relM_ch]; exact h.len)
    have hp' : H' B.p = some (.cells [pA B.lg, pA B.fo, pA B.gr, mpv B, vi m.x, vi m.y, vi m.hd, vb m.td, vi m.lt]) := hsub _ _ PV_p
    simp [hp']
    refine ⟨_, ?_, hk c hB.wp⟩
    have e2 := PV_wp (G := G) (B := { B with ch := c }) (m := { m with g := (releaseM m.g).1 }) (x := m.x) (y := m.y) (hd := 0) (lt := m.lt) (td := m.td)
    have e3 : PV G { B with ch := c } { m with g := (releaseM m.g).1, hd := 0 } = upd (PV G { B with ch := c } { m with g := (releaseM m.g).1 }) B.p (.cells [pA B.lg, pA B.fo, pA B.gr, mpv B, vi m.x, vi m.y, vi 0, vb m.td, vi m.lt]) := e2.symm
    rw [e3]
    exact Sub.cong hsub
theorem c92 {H : AH} {K : AV → AH → Prop} {i : It} {b : Nat} {s : Int} (hb : H b = some (.cells [vi s])) (hk : K (vb (i.sf == s)) H) : @AC Tryz.prog 92 [.ag (itc i), pA b] H ⟨K⟩ := by
  refine AC_of (.forget ?_)
  refine call_c follows cf92_ok (by simp) ?_
  have hl : (itc i).length = 9 := rfl
  simp [hl]
  refine newK_of fun z hz => ?_
  have n1 := free_ne hz b (by rw [hb]; simp)
  have hbz : upd H z (.cells (itc i)) b = some (.cells [vi s]) := by simp [upd_apply, n1, hb]
  have hzz : upd H z (.cells (itc i)) z = some (.cells (itc i)) := by simp [upd_apply]
  have hS : Sub H (upd H z (.cells (itc i))) := (Sub.refl H).upd hz
  generalize upd H z (.cells (itc i)) = G2 at *
  simp [hbz, hzz, itc]
  exact ⟨H, hS, hk⟩
theorem good_m1 : goodCallee Tryz.prog 92 = true := by kernel_rfl
theorem c91 {H : AH} {K : AV → AH → Prop} {a : AV} {b : Nat} {L : List It} {s : Int} (hb : H b = some (.cells [vi s])) (ha : ItsR H a L) (hl : L.length ≤ 10000000)
    (hk1 : findS L s = none → K (vi (-1)) H) (hk2 : ∀ n (hn : n < L.length), findS L s = some L[n] → K (vi n) H) :
    @AC Tryz.prog 91 [a, .fn 92 [] [pA b]] H ⟨K⟩ := by
  have la := fun k => Rw.lenK ha.1 (k := k)
  have g1 := good_m1
  refine AC_of (.forget ?_)
  refine call_c follows cf91_ok (by simp) ?_
  simp [la]
  refine wpc_loop (fun s' => ∃ (i : Nat), s'.n = 19 ∧ s'.H = H ∧ s'.t 0 = a ∧ s'.t 1 = .fn 92 [] [pA b] ∧ s'.t 7 = vi L.length ∧ s'.t 8 = vi i ∧ i ≤ L.length ∧ findS L s = findS (L.drop i) s) (fun s' => L.length - slotN (s'.t 8)) ?_ ?_
  · exact FgK.same ⟨0, by simp, by simp, by simp, by simp, by simp, by simp, by omega, by simp⟩
  rintro s' ⟨i, hn, hH, e0, e1, e7, e8, hi, hc⟩
  by_cases hlt : i < L.length
  · have wr := IntWalk.i64_in ((i : Int) + 1) (by omega)
    have hit := (ha.2 _ (List.getElem_mem hlt)).one
    obtain ⟨p, hp1, hp2⟩ := fsee itc_l ha.1 hlt
    rw [List.drop_eq_getElem_cons hlt] at hc
    have hk2' := hk2 i hlt
    have hll : (itc L[i]).length = 9 := rfl
    have hcs : findS (L[i] :: L.drop (i + 1)) s = if (L[i].sf == s) = true then some L[i] else findS (L.drop (i + 1)) s := by
      unfold findS
      rw [List.find?_cons]
      split <;> simp_all
    rw [hcs] at hc
    clear hcs
    generalize L[i] = r at *
    simp (disch := omega) [hn, hH, e0, e1, e7, e8, hlt, hp1, hp2 _ (Sub.refl _), g1]
    refine c92 hb ?_
    cases h : (r.sf == s) with
    | true =>
      rw [h] at hc
      simp
      exact ⟨H, Sub.refl _, hk2' hc⟩
    | false =>
      rw [h] at hc
      simp (disch := omega) [wr]
      exact FgK.same ⟨⟨i + 1, by simp, by simp, by simp, by simp, by simp, by simp, by omega, hc⟩, by simp [e8]; omega⟩
  · rw [List.drop_eq_nil_of_le (by omega)] at hc
    simp (disch := omega) [hn, hH, e0, e1, e7, e8, hlt]
    exact ⟨H, Sub.refl _, hk1 hc⟩
theorem updM_len (m : PS) (L : List It) (x y : Int) : (updM m L x y).2.length ≤ 2 := by
  unfold updM
  split
  · simp
  · simp only
    split
    · simp
    · rw [List.length_append]
      have : ∀ (c : Prop) [Decidable c] (d : Dl), (if c then [d] else []).length ≤ 1 := fun c _ d => by split <;> simp
      exact Nat.add_le_add (this _ _) (this _ _)
theorem refM_len (m : PS) (L : List It) : (refM m L).2.length ≤ 2 := updM_len ..
theorem c59 {K : AV → AH → Prop} {a : AV} {L : List It} {e : Ev} (h : BOk G B m) (ha : ItsR G a L) (hl : L.length ≤ 10000000)
    (hk : ∀ G' out, BOk G' B (motM m L e).1 → OutR G G' out (motM m L e).2 → K out (PV G' B (motM m L e).1)) : @AC Tryz.prog 59 [pA B.p, a, .ag (evc e)] (PV G B m) ⟨K⟩ := by
  refine AC_of (.forget ?_)
  refine call_c follows cf59_ok (by simp) ?_
  have hel : (evc e).length = 6 := rfl
  simp [hel]
  refine newK_of fun z hz => ?_
  obtain ⟨p1, h1, p3, hs1⟩ := PV_new h hz (.cells (evc e))
  have hzz : upd G z (.cells (evc e)) z = some (.cells (evc e)) := by simp [upd_apply]
  rw [p1]
  generalize upd G z (.cells (evc e)) = G1 at *
  have hp1 := PV_ptr (G := G1) (B := B) (m := m)
  have kz := PV_beside h1 hzz
  have nzp : ¬ z = B.p := fun e => by have := h1.free B.p (by simp [PB.ids]); rw [← e, hzz] at this; cases this
  have w1 := PV_wp (G := G1) (B := B) (m := m) (x := e.x) (y := e.y) (hd := m.hd) (lt := m.lt) (td := m.td)
  have w1' : upd (PV G1 B m) B.p (.cells [pA B.lg, pA B.fo, pA B.gr, mpv B, AV.pl (.int .i64 e.x), AV.pl (.int .i64 e.y), vi m.hd, vb m.td, vi m.lt]) = PV G1 B { m with x := e.x, y := e.y } := w1
  simp [kz, evc, hp1, nzp]
  obtain ⟨M1, hM1⟩ : ∃ M1 : PS, M1 = { m with x := e.x, y := e.y } := ⟨_, rfl⟩
  rw [← hM1] at w1'
  have h1' : BOk G1 B M1 := by rw [hM1]; exact h1.wp
  have hmo : motM m L e = match findS L (refM M1 L).1.fs with
      | some i => sendM (refM M1 L).1 (refM M1 L).2 ⟨0, 0, 3, 0, sub64 (refM M1 L).1.x i.x, sub64 (refM M1 L).1.y i.y, 0, 0, 0⟩
      | none => refM M1 L := by rw [hM1]; rfl
  rw [w1']
  refine c89 h1' (ha.sub hs1) hl fun G2 out h2 hr2 => ?_
  have hlen := refM_len M1 L
  have hR : refM M1 L = ((refM M1 L).1, (refM M1 L).2) := rfl
  rw [hR] at hmo
  simp only at hmo
  generalize (refM M1 L).1 = M2 at *
  generalize (refM M1 L).2 = O2 at *
  simp
  refine c90 h2 ?_
  simp
  refine newK_of fun b hb => ?_
  obtain ⟨q1, h3, q3, hs3⟩ := PV_new h2 hb (.cells [vi M2.fs])
  have hr3 := hr2.new (o := .cells [vi M2.fs]) q3
  have q1' : upd (PV G2 B M2) b (.cells [AV.pl (.int .i64 M2.fs)]) = PV (upd G2 b (.cells [vi M2.fs])) B M2 := q1
  have hbb : upd G2 b (.cells [vi M2.fs]) b = some (.cells [vi M2.fs]) := by simp [upd_apply]
  simp
  rw [q1']
  generalize upd G2 b (.cells [vi M2.fs]) = G3 at *
  have oc := Rw.cells hr3.rd
  have haI := (ha.sub hs1).sub hr3.1
  refine c91 (PV_beside h3 hbb) (haI.pv h3) hl (fun hf => ?_) fun n hn hf => ?_
  · rw [hf] at hmo
    simp only at hmo
    rw [hmo] at hk
    simp
    exact ⟨_, Sub.refl _, hk G3 out h3 (hr3.base hs1)⟩
  · rw [hf] at hmo
    simp only at hmo
    rw [hmo] at hk
    have hp3 := PV_ptr (G := G3) (B := B) (m := M2)
    obtain ⟨p, hq1, hq2, hqf⟩ := fat itc_l (haI.pv h3).1 hn
    obtain ⟨u2, f2, g2⟩ := hqf 2 (vi L[n].x) rfl
    obtain ⟨u3, f3, g3⟩ := hqf 3 (vi L[n].y) rfl
    have hn0 : ¬ ((n : Int) < 0) := by omega
    generalize L[n] = i at *
    simp [hp3, hq1, f2, f3, g2 _ (Sub.refl _), g3 _ (Sub.refl _), hn0]
    refine c61 (G0 := G) (l := O2) (d := ⟨0, 0, 3, 0, sub64 M2.x i.x, sub64 M2.y i.y, 0, 0, 0⟩) h3 (hr3.base hs1) (by omega) fun G4 out2 h4 hr4 => ?_
    have oc2 := Rw.cells hr4.rd
    simp
    exact ⟨_, Sub.refl _, hk G4 out2 h4 hr4⟩
end
end Go.Proofs.YtmpncpamndhmcaaGreat
end

/-! The pointer, walked: the check of an event. Conditions: as each lemma states them. -/
section
namespace Go.Proofs.YtmpncpamndhmcaaGreat
open Go Go.Ab Go.RowKit

attribute [local simp] rc_len rc_t4 rc_t1 rc_t2 rc_t3 rc_d1 rc_d2 rc_d3 rc_d4 rc_ag rc_one rc_eq

section
variable {G G0 : AH} {B : PB} {m : PS}
theorem pr_none {l : List Int} {c : Int} (h : l.contains c = false) : mfind 1 (.int .i64 c) (prI l) 0 = some none :=
  mfind_none l 0 fun x hx e => by
    have e : x = c := e
    subst e
    simp at h
    exact h hx
theorem pr_split {l : List Int} {c : Int} (h : l.contains c = true) : ∃ l1 l2, l = l1 ++ c :: l2 ∧ ∀ x ∈ l1, x ≠ c := by
  have hm : c ∈ l := by simpa using h
  clear h
  induction l with
  | nil => cases hm
  | cons d l ih =>
    by_cases e : d = c
    · exact ⟨[], l, by simp [e], by simp⟩
    · obtain ⟨l1, l2, h1, h2⟩ := ih (by simpa [Ne.symm e] using hm)
      exact ⟨d :: l1, l2, by simp [h1], fun x hx => (List.mem_cons.1 hx).elim (fun h => h ▸ e) (h2 x)⟩
theorem pr_some {l : List Int} {c : Int} (h : l.contains c = true) : ∃ j, mfind 1 (.int .i64 c) (prI l) 0 = some (some (j, vb true)) := by
  obtain ⟨l1, l2, rfl, h2⟩ := pr_split h
  exact ⟨_, mfind_some (e := c) l1 0 h2 rfl⟩
set_option maxRecDepth 20000 in
theorem c58 {K : AV → AH → Prop} {e : Ev} (h : BOk G B m) (hk : K (vi (chkM m e)) (PV G B m)) : @AC Tryz.prog 58 [pA B.p, .ag (evc e)] (PV G B m) ⟨K⟩ := by
  refine AC_of (.forget ?_)
  refine call_c follows cf58_ok (by simp) ?_
  have hel : (evc e).length = 6 := rfl
  simp [hel]
  refine newK_of fun z hz => ?_
  obtain ⟨p1, h1, p3, hs1⟩ := PV_new h hz (.cells (evc e))
  have hzz : upd G z (.cells (evc e)) z = some (.cells (evc e)) := by simp [upd_apply]
  have fin : ∃ H0, Sub H0 (PV (upd G z (.cells (evc e))) B m) ∧ K (vi (chkM m e)) H0 := ⟨_, PV_cong hs1, hk⟩
  rw [p1]
  generalize upd G z (.cells (evc e)) = G1 at *
  have hp1 := PV_ptr (G := G1) (B := B) (m := m)
  have hm1 : PV G1 B m B.mp = some (.map (prI m.pr) m.st m.ck) := PV_mp h1
  have kz : PV G1 B m z = some (.cells [vi e.kd, vi e.tm, vi e.x, vi e.y, vi e.co, vi e.va]) := PV_beside h1 hzz
  unfold chkM at fin
  have hml : (prI m.pr).length = m.pr.length := by simp [prI, mI]
  have hprl : (m.pr.length : Int) < 16 ↔ m.pr.length < 16 := by omega
  by_cases k2 : e.kd = 2
  · have n1 : ¬ e.kd = 1 := by omega
    have n3 : ¬ e.kd = 3 := by omega
    by_cases v0 : e.va = 0
    · have v1 : ¬ e.va = 1 := by omega
      cases hc : m.pr.contains e.co with
      | true =>
        obtain ⟨j, hj⟩ := pr_some hc
        have hcm : e.co ∈ m.pr := by simpa using hc
        simp [k2, v0, hcm] at fin
        simp [kz, k2, v0, hp1, mpv, hm1, hj]
        exact fin
      | false =>
        have hj := pr_none hc
        have hcm : ¬ e.co ∈ m.pr := by simpa using hc
        simp [k2, v0, hcm] at fin
        simp [kz, k2, v0, hp1, mpv, hm1, hj]
        exact fin
    · by_cases v1 : e.va = 1
      · cases hc : m.pr.contains e.co with
        | true =>
          obtain ⟨j, hj⟩ := pr_some hc
          have hcm : e.co ∈ m.pr := by simpa using hc
          simp [k2, v1, hcm] at fin
          simp [kz, k2, v1, hp1, mpv, hm1, hj]
          exact fin
        | false =>
          have hj := pr_none hc
          have hcm : ¬ e.co ∈ m.pr := by simpa using hc
          simp [k2, v1, hcm] at fin
          by_cases hl : 16 ≤ m.pr.length
          · have hl' : (16 : Int) ≤ m.pr.length := by omega
            simp [hl] at fin
            simp [kz, k2, v1, hp1, mpv, hm1, hj, hml]
            simp [hl']
            exact fin
          · have hl' : ¬ (16 : Int) ≤ m.pr.length := by omega
            simp [hl] at fin
            simp [kz, k2, v1, hp1, mpv, hm1, hj, hml]
            simp [hl']
            exact fin
      · simp [k2, v0, v1] at fin
        simp [kz, k2, v0, v1]
        exact fin
  · by_cases k1 : e.kd = 1
    · have hmin : (if e.y < e.x then e.y else e.x) = min e.x e.y := by split <;> omega
      have hmax : (if e.x < e.y then e.y else e.x) = max e.x e.y := by split <;> omega
      by_cases c1 : min e.x e.y < -16384
      · simp [k1, c1] at fin
        simp [kz, k1, hmin, c1]
        exact fin
      · by_cases c2 : 16384 < max e.x e.y
        · simp [k1, c1, c2] at fin
          simp [kz, k1, hmin, hmax, c1, c2]
          exact fin
        · simp [k1, c1, c2] at fin
          simp [kz, k1, hmin, hmax, c1, c2]
          exact fin
    · by_cases k3 : e.kd = 3
      · simp [k3] at fin
        simp [kz, k3]
        exact fin
      · simp [k1, k2, k3] at fin
        simp [kz, k1, k2, k3]
        exact fin
end
end Go.Proofs.YtmpncpamndhmcaaGreat
end

/-! The pointer, walked: its grabs, in its own view; a button. Conditions: as each lemma states them. -/
section
namespace Go.Proofs.YtmpncpamndhmcaaGreat
open Go Go.Ab Go.RowKit

attribute [local simp] rc_len rc_t4 rc_t1 rc_t2 rc_t3 rc_d1 rc_d2 rc_d3 rc_d4 rc_ag rc_one rc_eq

section
variable {G G0 G' : AH} {B : PB} {m : PS}
theorem OutR.keep {G3 : AH} {out : AV} {l : List Dl} (h : OutR G0 G out l) (hs : Sub G G3) : OutR G0 G3 out l := by
  obtain ⟨h1, h2⟩ := h
  refine ⟨h1.trans hs, ?_⟩
  rcases h2 with h2 | ⟨r, x, e1, e2, e3⟩
  · exact .inl h2
  · exact .inr ⟨r, x, e1, e2, hs _ _ e3⟩
theorem OutR.app2 {out : AV} {l : List Dl} {k : AV → AH → Prop} (h : BOk G' B m) (ho : OutR G G' out l) (l2 : List Dl) (hl : l.length + l2.length ≤ 1000)
    (hk : ∀ G3 out', BOk G3 B m → OutR G G3 out' (l ++ l2) → k out' (PV G3 B m)) : @appK (PV G' B m) 9 72 out l2.length (flat dlc l2) ⟨k⟩ := by
  by_cases h2 : l2 = []
  · subst h2
    obtain ⟨h1, ⟨rfl, rfl⟩ | ⟨r, x, rfl, e2, e3⟩⟩ := ho
    · show @appK _ 9 72 _ 0 [] ⟨k⟩
      rw [appK_nil0]
      exact hk _ _ h (OutR.nil h1)
    · have hr := PV_beside h e3
      have hrn : r ∉ B.ids := fun hm => by rw [h.free r hm] at e3; cases e3
      have hfl := flat_len dlc_l l
      rw [appK_sl]
      refine cellsK_of hr ⟨⟨rfl, rfl, by omega, by simp; omega⟩, fun b hb => ?_⟩
      have hbn : b ∉ B.ids ∧ G b = none := by
        rcases hb with rfl | hb
        · exact ⟨hrn, e2⟩
        · obtain ⟨q1, q2⟩ := PV_free hb
          exact ⟨q1, h1.none_of q2⟩
      show k (.sl b 0 (l.length + 0) 9 false) (upd (Ab.del (PV G' B m) r) b (.cells ((flat dlc l).take (l.length * 9) ++ [])))
      rw [List.take_of_length_le (by omega), PV_del hrn, PV_upd hbn.1]
      refine hk _ _ (h.del.upd hbn.1) ⟨?_, .inr ⟨b, false, by simp, hbn.2, by simp [upd_apply]⟩⟩
      exact (Sub.del h1 e2).upd hbn.2
  have hne : l2.length ≠ 0 := fun h => h2 (List.length_eq_zero_iff.1 h)
  have hone : (flat dlc l2).all AV.one = true := dl_all l2
  obtain ⟨h1, ⟨rfl, rfl⟩ | ⟨r, x, rfl, e2, e3⟩⟩ := ho
  · rw [appK_nil hne]
    refine ⟨⟨hone, by omega⟩, fun b hb => ?_⟩
    obtain ⟨p1, p2, p3, p4⟩ := PV_new h hb (.cells (flat dlc l2))
    show k (.sl b 0 l2.length 9 false) (upd (PV G' B m) b (.cells (flat dlc l2)))
    rw [p1]
    refine hk _ _ p2 ⟨h1.trans p4, .inr ⟨b, false, by simp, h1.none_of p3, by simp [upd_apply]⟩⟩
  · have hr := PV_beside h e3
    have hrn : r ∉ B.ids := fun hm => by rw [h.free r hm] at e3; cases e3
    have hfl := flat_len dlc_l l
    rw [appK_sl]
    refine cellsK_of hr ⟨⟨hone, rfl, by omega, by omega⟩, fun b hb => ?_⟩
    have hbn : b ∉ B.ids ∧ G b = none := by
      rcases hb with rfl | hb
      · exact ⟨hrn, e2⟩
      · obtain ⟨q1, q2⟩ := PV_free hb
        exact ⟨q1, h1.none_of q2⟩
    show k (.sl b 0 (l.length + l2.length) 9 false) (upd (Ab.del (PV G' B m) r) b (.cells ((flat dlc l).take (l.length * 9) ++ flat dlc l2)))
    rw [List.take_of_length_le (by omega), PV_del hrn, PV_upd hbn.1]
    refine hk _ _ (h.del.upd hbn.1) ⟨?_, .inr ⟨b, false, by simp, hbn.2, by simp [upd_apply, flat_app]⟩⟩
    exact (Sub.del h1 e2).upd hbn.2
/-! ### The grabs in the pointer's view -/
def GrabP (K : AV → AH → Prop) (G : AH) (B : PB) (m : PS) (g : M) (v : AV) : Prop := ∀ c, BOk G { B with ch := c } { m with g := g } → K v (PV G { B with ch := c } { m with g := g })
theorem implM_ch (m : M) (c s : Int) : (implM m c s).1.ch = m.ch := by
  unfold implM
  repeat' split
  all_goals rfl
theorem pImplicit {K : AV → AH → Prop} (h : BOk G B m) (c s : Int) (hk : GrabP K G B m (implM m.g c s).1 (vi (implM m.g c s).2)) : @AC Tryz.prog 94 [pA B.gr, vi c, vi s] (PV G B m) ⟨K⟩ :=
  AC_of (.forget (c94 h.stack c s fun H' F' hs hst => by
    obtain ⟨c, hB, hsub⟩ := h.grabs hs hst (by rw [implM_ch]; exact h.len)
    exact ⟨_, hsub, hk c hB⟩))
theorem pr_len (l : List Int) : (prI l).length = l.length := by simp [prI, mI]
theorem grbM_eq (m : PS) : grbM m = if okM m = true ∧ (implM m.g m.fc m.fs).2 = 0 then { m with g := (implM m.g m.fc m.fs).1, hd := m.fs } else m := rfl
theorem implM_bad {g : M} {c s : Int} (h : (implM g c s).2 ≠ 0) : (implM g c s).1 = g := by
  unfold implM at h ⊢
  repeat' split
  all_goals first | rfl | simp_all
theorem pr_keys {l : List Int} : prI l = l.map fun x => (.int .i64 x, vb true) := rfl
theorem c60 {K : AV → AH → Prop} {a : AV} {L : List It} {e : Ev} (h : BOk G B m) (ha : ItsR G a L) (hl : L.length ≤ 10000000) (hv : e.va = 1) (hc : m.pr.contains e.co = false)
    (hk : ∀ c G' out, BOk G' { B with ch := c } (preM m e).1 → OutR G G' out (preM m e).2 → K out (PV G' { B with ch := c } (preM m e).1)) : @AC Tryz.prog 60 [pA B.p, a, .ag (evc e)] (PV G B m) ⟨K⟩ := by
  refine AC_of (.forget ?_)
  refine call_c follows cf60_ok (by simp) ?_
  have hel : (evc e).length = 6 := rfl
  simp [hel]
  refine newK_of fun z hz => ?_
  obtain ⟨p1, h1, p3, hs1⟩ := PV_new h hz (.cells (evc e))
  have hzz : upd G z (.cells (evc e)) z = some (.cells (evc e)) := by simp [upd_apply]
  rw [p1]
  generalize upd G z (.cells (evc e)) = G1 at *
  have kz : PV G1 B m z = some (.cells [vi e.kd, vi e.tm, vi e.x, vi e.y, vi e.co, vi e.va]) := PV_beside h1 hzz
  simp [kz]
  refine newK_of fun w hw => ?_
  obtain ⟨d, hd⟩ : ∃ d : Dl, d = ⟨0, 0, 4, 0, 0, 0, e.co, e.va, 0⟩ := ⟨_, rfl⟩
  obtain ⟨q1, h2, q3, hs2⟩ := PV_new h1 hw (.cells (dlc d))
  have hww : upd G1 w (.cells (dlc d)) w = some (.cells (dlc d)) := by simp [upd_apply]
  have hz2 := hs2.at hzz
  have hdc : dlc d = [vi 0, vi 0, vi 4, vi 0, vi 0, vi 0, vi e.co, vi e.va, AV.pl (.int .u32 0)] := by rw [hd]; rfl
  have nwz := free_ne hw z (by rw [kz]; simp)
  have q1' := q1
  have hp1 := PV_ptr (G := G1) (B := B) (m := m)
  have hm1 : PV G1 B m B.mp = some (.map (prI m.pr) m.st m.ck) := PV_mp h1
  have nwp := (free_ne hw B.p (by rw [hp1]; simp)).1
  have nwm := (free_ne hw B.mp (by rw [hm1]; simp)).1
  have hml := pr_len m.pr
  obtain ⟨G2, hG2⟩ : ∃ G2, upd G1 w (.cells (dlc d)) = G2 := ⟨_, rfl⟩
  rw [hG2] at q1' h2 hs2 hww hz2
  rw [hdc, hv] at q1'
  have hs02 := hs1.trans hs2
  obtain ⟨M1, hM1⟩ : ∃ M1 : PS, M1 = if m.pr = [] then grbM { m with fl := true } else m := ⟨_, rfl⟩
  have hpm : preM m e = sendM { M1 with pr := M1.pr ++ [e.co], st := M1.st ++ [M1.ck], ck := M1.ck + 1 } [] ⟨0, 0, 4, 0, 0, 0, e.co, e.va, 0⟩ := by rw [hM1]; rfl
  rw [hpm, ← hd] at hk
  by_cases hpr : m.pr = []
  case' neg =>
    rw [if_neg hpr] at hM1
    simp [kz, nwz, hv, hp1, hm1, mpv, nwp, nwm, hml]
    rw [q1']
    obtain ⟨c1, hc1⟩ : ∃ c1, c1 = B.ch := ⟨_, rfl⟩
    have hvw : PV G2 B m = PV G2 { B with ch := c1 } M1 := by rw [hc1, hM1]
    have hB1 : BOk G2 { B with ch := c1 } M1 := by rw [hc1, hM1]; exact h2
    have hpr1 : M1.pr = m.pr := by rw [hM1]
    rw [hvw]
    simp [hpr]
  case' pos =>
    rw [if_pos hpr] at hM1
    have hml0 : m.pr.length = 0 := by simp [hpr]
    simp [kz, nwz, hv, hp1, hm1, mpv, nwp, nwm, hml, hml0]
    rw [q1']
    refine c93 h2 true ?_
    have h3 := h2.wf (fs := m.fs) (fc := m.fc) (fl := true)
    simp
    refine c90 h3 ?_
    have hp3 := PV_ptr (G := G2) (B := B) (m := { m with fl := true })
    cases hok : okM { m with fl := true }
    case' false =>
      obtain ⟨c1, hc1⟩ : ∃ c1, c1 = B.ch := ⟨_, rfl⟩
      have hM1' : M1 = { m with fl := true } := by rw [hM1, grbM_eq, if_neg (by simp [hok])]
      have hvw : PV G2 B { m with fl := true } = PV G2 { B with ch := c1 } M1 := by rw [hc1, hM1']
      have hB1 : BOk G2 { B with ch := c1 } M1 := by rw [hc1, hM1']; exact h3
      have hpr1 : M1.pr = m.pr := by rw [hM1']
      rw [hvw]
    case' true =>
      simp [hp3]
      refine pImplicit h3 _ _ fun c hB => ?_
      by_cases he : (implM m.g m.fc m.fs).2 = 0
      case' pos =>
        obtain ⟨c1, hc1⟩ : ∃ c1, c1 = c := ⟨_, rfl⟩
        have hM1' : M1 = { m with fl := true, g := (implM m.g m.fc m.fs).1, hd := m.fs } := by rw [hM1, grbM_eq, if_pos ⟨hok, he⟩]
        have hB1 : BOk G2 { B with ch := c1 } M1 := by rw [hc1, hM1']; exact hB.wp
        have hpr1 : M1.pr = m.pr := by rw [hM1']
        have hp4 := PV_ptr (G := G2) (B := { B with ch := c }) (m := { m with fl := true, g := (implM m.g m.fc m.fs).1 })
        have hw4 := PV_wp (G := G2) (B := { B with ch := c }) (m := { m with fl := true, g := (implM m.g m.fc m.fs).1 }) (x := m.x) (y := m.y) (hd := m.fs) (lt := m.lt) (td := m.td)
        have hw4' : upd (PV G2 { B with ch := c } { m with fl := true, g := (implM m.g m.fc m.fs).1 }) B.p (.cells [pA B.lg, pA B.fo, pA B.gr, .pl (.map (some B.mp)), vi m.x, vi m.y, AV.pl (.int .i64 m.fs), vb m.td, vi m.lt]) = PV G2 { B with ch := c1 } M1 := by rw [hM1', hc1]; exact hw4
        have kz4 := PV_beside hB hz2
        have nzp : ¬ z = B.p := fun e => by have := h1.free B.p (by simp [PB.ids]); rw [← e, hzz] at this; cases this
        simp [he, hp4, mpv]
        rw [hw4']
        simp [nzp, kz4, evc]
      case' neg =>
        obtain ⟨c1, hc1⟩ : ∃ c1, c1 = c := ⟨_, rfl⟩
        have hg : (implM m.g m.fc m.fs).1 = m.g := implM_bad he
        have hM1' : M1 = { m with fl := true } := by rw [hM1, grbM_eq, if_neg (fun h => he h.2)]
        have hvw : PV G2 { B with ch := c } { m with fl := true, g := (implM m.g m.fc m.fs).1 } = PV G2 { B with ch := c1 } M1 := by rw [hc1, hM1', hg]
        have hB1 : BOk G2 { B with ch := c1 } M1 := by rw [hc1, hM1']; rw [hg] at hB; exact hB
        have hpr1 : M1.pr = m.pr := by rw [hM1']
        rw [hvw]
        simp [he]
  all_goals
    have hpT := PV_ptr (G := G2) (B := { B with ch := c1 }) (m := M1)
    have hmT : PV G2 { B with ch := c1 } M1 B.mp = some (.map (prI M1.pr) M1.st M1.ck) := PV_mp hB1
    have kzT : PV G2 { B with ch := c1 } M1 z = some (.cells [vi e.kd, vi e.tm, vi e.x, vi e.y, vi e.co, vi e.va]) := PV_beside hB1 hz2
    have hf : mfind 1 (.int .i64 e.co) (prI M1.pr) 0 = some none := pr_none (by rw [hpr1]; exact hc)
    have hpush : prI M1.pr ++ [(.int .i64 e.co, AV.pl (.bool true))] = prI (M1.pr ++ [e.co]) := by simp [pr_keys]
    have hwT := PV_wmp hB1 (M1.pr ++ [e.co]) (M1.st ++ [M1.ck]) (M1.ck + 1)
    simp only at hpT hwT
    simp [hpT, hmT, kzT, mpv, hf]
    have kwT : PV G2 { B with ch := c1 } M1 w = some (.cells (dlc d)) := PV_beside hB1 hww
    have hdl : (dlc d).length = 9 := rfl
    have hdt : (dlc d).take 9 = dlc d := rfl
    rw [← hpush] at hwT
    simp [Ne.symm nwm, kwT, hdl, hdt]
    rw [hwT]
    have hB2 : BOk G2 { B with ch := c1 } { M1 with pr := M1.pr ++ [e.co], st := M1.st ++ [M1.ck], ck := M1.ck + 1 } := ⟨hB1.free, hB1.nd, hB1.ch, hB1.es, hB1.at_, by have := hB1.st.push; simpa using this, hB1.len⟩
    refine c61 (G0 := G) hB2 (OutR.nil hs02) (by simp) fun G3 out h3 hr3 => ?_
    have oc := Rw.cells hr3.rd
    simp
    exact ⟨_, Sub.refl _, hk c1 G3 out h3 hr3⟩
end
end Go.Proofs.YtmpncpamndhmcaaGreat
end

/-! The pointer, walked: a button released. Conditions: as each lemma states them. -/
section
namespace Go.Proofs.YtmpncpamndhmcaaGreat
open Go Go.Ab Go.RowKit

attribute [local simp] rc_len rc_t4 rc_t1 rc_t2 rc_t3 rc_d1 rc_d2 rc_d3 rc_d4 rc_ag rc_one rc_eq

section
variable {G G0 G' : AH} {B : PB} {m : PS}
theorem sendM_len (m : PS) (l : List Dl) (d : Dl) : (sendM m l d).2.length ≤ l.length + 1 := by
  unfold sendM
  repeat' split
  all_goals simp
def relT (s : PS × List Dl) (L : List It) : PS × List Dl := if s.1.pr ≠ [] then s else ((refM { endH s.1 with fl := false } L).1, s.2 ++ (refM { endH s.1 with fl := false } L).2)
theorem relM_eq (m : PS) (L : List It) (e : Ev) : relM m L e = relT (sendM (delP m e.co) [] ⟨0, 0, 4, 0, 0, 0, e.co, e.va, 0⟩) L := rfl
theorem delP_some {l : List Int} {c : Int} (h : l.contains c = true) : mfind 1 (.int .i64 c) (prI l) 0 = some (some (l.idxOf c, vb true)) ∧ (prI l).eraseIdx (l.idxOf c) = prI (l.erase c) ∧ l.idxOf c < l.length ∧ (l.erase c).length + 1 = l.length := by
  obtain ⟨l1, l2, rfl, h2⟩ := pr_split h
  have hn : c ∉ l1 := fun h => h2 c h rfl
  have hi : (l1 ++ c :: l2).idxOf c = l1.length := by
    rw [List.idxOf_append, if_neg hn]
    simp
  have he : (l1 ++ c :: l2).erase c = l1 ++ l2 := by
    rw [List.erase_append_right _ hn, List.erase_cons_head]
  have hf : mfind 1 (.int .i64 c) (prI (l1 ++ c :: l2)) 0 = some (some (0 + l1.length, vb true)) := mfind_some (e := c) l1 0 h2 rfl
  have hx : (prI (l1 ++ c :: l2)).eraseIdx l1.length = prI (l1 ++ l2) := mI_erase
  rw [hi, he, hf, hx]
  refine ⟨by simp, rfl, by simp, by simp; omega⟩
theorem c60r {K : AV → AH → Prop} {a : AV} {L : List It} {e : Ev} (h : BOk G B m) (ha : ItsR G a L) (hl : L.length ≤ 10000000) (hv : e.va ≠ 1) (hc : m.pr.contains e.co = true)
    (hk : ∀ c G' out, BOk G' { B with ch := c } (relM m L e).1 → OutR G G' out (relM m L e).2 → K out (PV G' { B with ch := c } (relM m L e).1)) : @AC Tryz.prog 60 [pA B.p, a, .ag (evc e)] (PV G B m) ⟨K⟩ := by
  refine AC_of (.forget ?_)
  refine call_c follows cf60_ok (by simp) ?_
  have hel : (evc e).length = 6 := rfl
  simp [hel]
  refine newK_of fun z hz => ?_
  obtain ⟨p1, h1, p3, hs1⟩ := PV_new h hz (.cells (evc e))
  have hzz : upd G z (.cells (evc e)) z = some (.cells (evc e)) := by simp [upd_apply]
  rw [p1]
  generalize upd G z (.cells (evc e)) = G1 at *
  have kz : PV G1 B m z = some (.cells [vi e.kd, vi e.tm, vi e.x, vi e.y, vi e.co, vi e.va]) := PV_beside h1 hzz
  simp [kz]
  refine newK_of fun w hw => ?_
  obtain ⟨d, hd⟩ : ∃ d : Dl, d = ⟨0, 0, 4, 0, 0, 0, e.co, e.va, 0⟩ := ⟨_, rfl⟩
  obtain ⟨q1, h2, q3, hs2⟩ := PV_new h1 hw (.cells (dlc d))
  have hww : upd G1 w (.cells (dlc d)) w = some (.cells (dlc d)) := by simp [upd_apply]
  have hdc : dlc d = [vi 0, vi 0, vi 4, vi 0, vi 0, vi 0, vi e.co, vi e.va, AV.pl (.int .u32 0)] := by rw [hd]; rfl
  have nwz := free_ne hw z (by rw [kz]; simp)
  have q1' := q1
  have hp1 := PV_ptr (G := G1) (B := B) (m := m)
  have hm1 : PV G1 B m B.mp = some (.map (prI m.pr) m.st m.ck) := PV_mp h1
  have nwp := (free_ne hw B.p (by rw [hp1]; simp)).1
  have nwm := (free_ne hw B.mp (by rw [hm1]; simp)).1
  obtain ⟨hf, hers, hidx, hlen⟩ := delP_some hc
  obtain ⟨G2, hG2⟩ : ∃ G2, upd G1 w (.cells (dlc d)) = G2 := ⟨_, rfl⟩
  rw [hG2] at q1' h2 hs2 hww
  rw [hdc] at q1'
  have hs02 := hs1.trans hs2
  simp [kz, nwz, hv, hp1, hm1, mpv, nwp, nwm, hf]
  have hwm := PV_wmp h2 (m.pr.erase e.co) (m.st.eraseIdx (m.pr.idxOf e.co)) m.ck
  rw [← hers] at hwm
  simp [Ne.symm nwm]
  rw [q1', hwm]
  have h3 : BOk G2 B (delP m e.co) := by
    refine ⟨h2.free, h2.nd, h2.ch, h2.es, h2.at_, ?_, h2.len⟩
    have := (h2.st.len hlen.symm).erase (m.pr.idxOf e.co) (by omega)
    exact this
  have hsl := sendM_len (delP m e.co) [] d
  have hrl : relM m L e = relT ((sendM (delP m e.co) [] d).1, (sendM (delP m e.co) [] d).2) L := by rw [hd, relM_eq]
  have hmd : ({ m with pr := m.pr.erase e.co, st := m.st.eraseIdx (m.pr.idxOf e.co), ck := m.ck } : PS) = delP m e.co := rfl
  rw [← hdc, hmd]
  refine c61 (G0 := G) h3 (OutR.nil hs02) (by simp) fun G3 out h4 hr4 => ?_
  rw [hrl] at hk
  generalize (sendM (delP m e.co) [] d).1 = M4 at *
  generalize (sendM (delP m e.co) [] d).2 = O4 at *
  have hp4 := PV_ptr (G := G3) (B := B) (m := M4)
  have hm4 : PV G3 B M4 B.mp = some (.map (prI M4.pr) M4.st M4.ck) := PV_mp h4
  have oc4 := Rw.cells hr4.rd
  have oo4 := Rw.one hr4.rd
  have hml := pr_len M4.pr
  by_cases hpr : M4.pr = []
  · have e2 : relT (M4, O4) L = ((refM { endH M4 with fl := false } L).1, O4 ++ (refM { endH M4 with fl := false } L).2) := by unfold relT; rw [if_neg (by simpa using hpr)]
    rw [e2] at hk
    obtain ⟨M5, hM5⟩ : ∃ M5, endH M4 = M5 := ⟨_, rfl⟩
    rw [hM5] at hk
    have hml0 : M4.pr.length = 0 := by simp [hpr]
    simp [hp4, hm4, mpv, hml, hml0]
    refine c69 h4 fun c h5 => ?_
    rw [hM5] at h5 ⊢
    have hp5 := PV_ptr (G := G3) (B := { B with ch := c }) (m := M5)
    simp [hp5]
    refine c93 h5 false ?_
    have h6 := h5.wf (fs := M5.fs) (fc := M5.fc) (fl := false)
    obtain ⟨M6, hM6⟩ : ∃ M6 : PS, { M5 with fl := false } = M6 := ⟨_, rfl⟩
    have hM6' : ({ M5 with fs := M5.fs, fc := M5.fc, fl := false } : PS) = M6 := hM6
    rw [hM6'] at h6
    simp only [hM6] at hk ⊢
    simp
    refine c89 h6 (ha.sub hr4.1) hl fun G7 out7 h7 hr7 => ?_
    have hlen7 := refM_len M6 L
    generalize (refM M6 L).1 = M7 at *
    generalize (refM M6 L).2 = O7 at *
    have hn := fun k => Rw.news (h := hr7.rd.sub (PV_sub h7)) (k := k)
    simp
    rw [hn]
    simp at hsl
    refine (hr4.keep hr7.1).app2 h7 O7 (by omega) fun G8 out8 h8 hr8 => ?_
    have oc8 := Rw.cells hr8.rd
    simp
    exact ⟨_, Sub.refl _, hk c G8 out8 h8 hr8⟩
  · have e2 : relT (M4, O4) L = (M4, O4) := by unfold relT; rw [if_pos hpr]
    rw [e2] at hk
    have hml0 : ¬ (M4.pr.length : Int) = 0 := by have := List.length_pos_iff.2 hpr; omega
    have hml1 : 0 < M4.pr.length := List.length_pos_iff.2 hpr
    simp [hp4, hm4, mpv, hml, hml1]
    exact ⟨_, Sub.refl _, hk B.ch G3 out h4 hr4⟩
end
end Go.Proofs.YtmpncpamndhmcaaGreat
end

/-! The pointer, walked: grouping. Conditions: as each lemma states them. -/
section
namespace Go.Proofs.YtmpncpamndhmcaaGreat
open Go Go.Ab Go.RowKit

attribute [local simp] rc_len rc_t4 rc_t1 rc_t2 rc_t3 rc_d1 rc_d2 rc_d3 rc_d4 rc_ag rc_one rc_eq

theorem c63 {H : AH} {K : AV → AH → Prop} (d : Dl) (hk : K (.ag [vi d.cl, vi d.sf]) H) : @AC Tryz.prog 63 [.ag (dlc d)] H ⟨K⟩ := by
  refine AC_of (.forget ?_)
  refine call_c follows cf63_ok (by simp) ?_
  have hl : (dlc d).length = 9 := rfl
  simp [hl]
  refine newK_of fun z hz => ?_
  have hzz : upd H z (.cells (dlc d)) z = some (.cells [vi d.cl, vi d.sf, vi d.kd, vi d.tm, vi d.x, vi d.y, vi d.co, vi d.va, vu d.sr]) := by simp [upd_apply, dlc]
  have hS : Sub H (upd H z (.cells (dlc d))) := (Sub.refl H).upd hz
  generalize upd H z (.cells (dlc d)) = G at *
  simp
  refine newK_of fun w hw => ?_
  have n1 := free_ne hw z (by rw [hzz]; simp)
  have hwH := hS.none_of hw
  simp [n1, hzz]
  exact ⟨H, hS.upd hwH, hk⟩
theorem c64 {H : AH} {K : AV → AH → Prop} (d : Dl) (hk : K (.ag (dlc (frD d))) H) : @AC Tryz.prog 64 [.ag (dlc d)] H ⟨K⟩ := by
  refine AC_of (.forget ?_)
  refine call_c follows cf64_ok (by simp) ?_
  have hl : (dlc d).length = 9 := rfl
  simp [hl]
  refine newK_of fun z hz => ?_
  have hzz : upd H z (.cells (dlc d)) z = some (.cells [vi d.cl, vi d.sf, vi d.kd, vi d.tm, vi d.x, vi d.y, vi d.co, vi d.va, vu d.sr]) := by simp [upd_apply, dlc]
  have hS : Sub H (upd H z (.cells (dlc d))) := (Sub.refl H).upd hz
  generalize upd H z (.cells (dlc d)) = G at *
  simp
  refine newK_of fun w hw => ?_
  have n1 := free_ne hw z (by rw [hzz]; simp)
  have hwH := hS.none_of hw
  simp [n1, hzz]
  exact ⟨H, hS.upd hwH, hk⟩
theorem row_hold {H Hs : AH} {out : AV} {cs : List AV} {n sz z : Nat} {X : AO} (h : Row H Hs out cs n sz) (hz : Hs z = none) : Row (upd H z X) (upd Hs z X) out cs n sz := by
  rcases h with ⟨h1, h2, h3, rfl⟩ | ⟨q, rfl, hq, rfl⟩
  · exact .inl ⟨h1, h2, h3, rfl⟩
  · obtain ⟨n1, n2, _⟩ := upd_none'.1 hz
    exact .inr ⟨q, rfl, by simp [upd_apply, n2, hq], upd_upd_ne n2⟩
theorem sub_hold {H : AH} {z r : Nat} {X C : AO} (hz : H z = none) : Sub (upd H r C) (upd (upd H z X) r C) := Sub.cong ((Sub.refl H).upd hz)
theorem good_rc : goodCallee Tryz.prog 63 = true := by kernel_rfl
theorem good_la : goodCallee Tryz.prog 64 = true := by kernel_rfl
theorem grpL_last (d : Dl) : grpL [d] = [d, frD d] := rfl
theorem grpL_same {d e : Dl} {l : List Dl} (h : d.cl = e.cl ∧ d.sf = e.sf) : grpL (d :: e :: l) = d :: grpL (e :: l) := by rw [grpL, if_pos h]
theorem grpL_diff {d e : Dl} {l : List Dl} (h : ¬ (d.cl = e.cl ∧ d.sf = e.sf)) : grpL (d :: e :: l) = d :: frD d :: grpL (e :: l) := by rw [grpL, if_neg h]; rfl
abbrev fA (f : FuncId) : AV := .pl (.func (.func f) #[] #[])
theorem c62 {H : AH} {K : AV → AH → Prop} {a : AV} {l : List Dl} (ha : Rw H a (flat dlc l) l.length 9) (hl : l.length ≤ 1000)
    (hk : ∀ out H', Row H H' out (flat dlc (grpL l)) (grpL l).length 9 → K out H') : @AC Tryz.prog 62 [a, fA 63, fA 64] H ⟨K⟩ := by
  have la := fun k => Rw.lenK ha (k := k)
  have g1 := good_rc
  have g2 := good_la
  have hgl := grp_len l
  refine AC_of (.forget ?_)
  refine call_c follows cf62_ok (by simp) ?_
  simp [la]
  refine wpc_loop (fun s => ∃ (i : Nat) (out : AV) (acc : List Dl) (Hs : AH), s.n = 47 ∧ s.H = Hs ∧ s.t 0 = a ∧ s.t 1 = fA 63 ∧ s.t 2 = fA 64 ∧ s.t 7 = out ∧ s.t 10 = a ∧ s.t 11 = vi l.length ∧ s.t 12 = vi i ∧ i ≤ l.length ∧ grpL l = acc ++ grpL (l.drop i) ∧ Row H Hs out (flat dlc acc) acc.length 9)
    (fun s => l.length - slotN (s.t 12)) ?_ ?_
  · exact FgK.same ⟨0, vnil, [], H, by simp, by simp, by simp, by simp, by simp, by simp, by simp, by simp, by simp, by omega, by simp, Row.nil H 9⟩
  rintro s ⟨i, out, acc, Hs, hn, hH, e0, e1, e2, e7, e10, e11, e12, hi, hg, hrow⟩
  have hsub := hrow.sub
  by_cases hlt : i < l.length
  · have wr := IntWalk.i64_in ((i : Int) + 1) (by omega)
    obtain ⟨p, hp1, hp2⟩ := fsee dlc_l (ha.sub hsub) hlt
    have hd0 := List.drop_eq_getElem_cons hlt
    have hacc : acc.length ≤ 2000 := by
      have := congrArg List.length hg
      simp at this; omega
    rw [hd0] at hg
    generalize hdd : l[i] = d at *
    have hdl : (dlc d).length = 9 := rfl
    simp (disch := omega) [hn, hH, e0, e1, e2, e7, e10, e11, e12, hlt, hp1, hp2 _ (Sub.refl _)]
    refine newK_of fun z hz => ?_
    have hsz : Sub Hs (upd Hs z (.cells (dlc d))) := (Sub.refl Hs).upd hz
    have hzz : upd Hs z (.cells (dlc d)) z = some (.cells (dlc d)) := by simp [upd_apply]
    have hdt : (dlc d).take 9 = dlc d := rfl
    have hda : (dlc d).all AV.one = true := rfl
    have ho := Row.one hrow
    have hdo : ∀ x ∈ dlc d, x.one = true := List.all_eq_true.1 hda
    simp (disch := exact hdo) [hdl, hdt]
    have hzH : H z = none := hsub.none_of hz
    have hrow1 := row_hold (X := .cells (dlc d)) hrow hz
    have hbz : upd H z (.cells (dlc d)) z = some (.cells (dlc d)) := by simp [upd_apply]
    have hHb : Sub H (upd H z (.cells (dlc d))) := (Sub.refl H).upd hzH
    have hfin : ∀ (r : Nat) C, Sub (upd H r C) (upd (upd H z (.cells (dlc d))) r C) := fun r C => sub_hold hzH
    generalize upd H z (.cells (dlc d)) = Hb at *
    generalize upd Hs z (.cells (dlc d)) = H1 at *
    refine newK_of fun q hq => ?_
    have hsq : Sub H1 (upd H1 q (.cells (dlc d))) := (Sub.refl H1).upd hq
    have hqq : upd H1 q (.cells (dlc d)) q = some (.cells (dlc d)) := by simp [upd_apply]
    have hnw : ∀ k : Nat → List AV → Prop, @NEWS (upd H1 q (.cells (dlc d))) (AV.sl q 0 1 9 true) 9 ⟨k⟩ = k 1 (dlc d) := by
      intro k
      simp [hdl, hdt]
    generalize AV.sl q 0 1 9 true = x9 at *
    generalize upd H1 q (.cells (dlc d)) = H2 at *
    simp [hnw]
    have hfl := flat_len dlc_l acc
    refine hrow1.app hsq (by decide) hda hfl (by omega) fun r H3 hr hs3 => ?_
    rw [flat_snoc] at hs3
    have hz3 : H3 z = some (.cells (dlc d)) := hs3 _ _ (by simp only [upd_apply]; rw [if_neg (by rintro rfl; rw [hr] at hbz; cases hbz)]; exact hbz)
    have hrH : H r = none := hHb.none_of hr
    have hs3H : Sub H H3 := hHb.trans (((Sub.refl Hb).upd hr).trans hs3)
    have hrow3 : Row Hb (upd Hb r (.cells (flat dlc (acc ++ [d])))) (.sl r 0 (acc ++ [d]).length 9 false) (flat dlc (acc ++ [d])) (acc ++ [d]).length 9 := Row.mk hr
    have hal : (acc ++ [d]).length = acc.length + 1 := by simp
    rw [hal] at hrow3
    have hda' : (dlc (frD d)).all AV.one = true := rfl
    by_cases hend : i + 1 = l.length
    case' pos =>
      have hend' : (i : Int) + 1 = (l.length : Int) := by omega
      have wl := IntWalk.i64_in (l.length : Int) (by omega)
      have hgn : grpL l = (acc ++ [d] ++ [frD d]) ++ grpL (l.drop (i + 1)) := by
        rw [hg, List.drop_eq_nil_of_le (by omega), grpL_last]
        simp [grpL]
      simp [wl, la, hend', hz3, hdl, hdt, g2]
    case' neg =>
      have hend' : ¬ (i : Int) + 1 = (l.length : Int) := by omega
      have hlt1 : i + 1 < l.length := by omega
      obtain ⟨p1, hq1, hq2⟩ := fsee dlc_l (ha.sub hs3H) hlt1
      have hd1 := List.drop_eq_getElem_cons hlt1
      generalize hee : l[i + 1] = e at *
      have hel : (dlc e).length = 9 := rfl
      have hq1' : ∀ k : AV → Prop, @iadSK 9 a (vi ((i : Int) + 1)) ⟨k⟩ = k p1 := fun k => by
        rw [show (i : Int) + 1 = ((i + 1 : Nat) : Int) by omega]
        exact hq1 k
      have hq2' := hq2 H3 (Sub.refl _)
      simp [wr, la, hend', hz3, hdl, hdt, g1, hq1', hq2']
      refine c63 e ?_
      simp [hz3, hdl, hdt, g1]
      refine c63 d ?_
      by_cases hs : d.cl = e.cl ∧ d.sf = e.sf
      case' pos =>
        have hgn : grpL l = (acc ++ [d]) ++ grpL (l.drop (i + 1)) := by
          rw [hg, hd1, grpL_same hs, List.append_assoc]
          rfl
        simp [hs.1, hs.2]
        refine FgK.of (upd H r (.cells (flat dlc (acc ++ [d])))) ((hfin r _).trans hs3) ⟨⟨i + 1, .sl r 0 (acc.length + 1) 9 false, acc ++ [d], _, by simp, rfl, by simp, by simp, by simp, by simp, by simp, by simp, by simp [wr], by omega, hgn, ?_⟩, by simp [e12, wr]; omega⟩
        have := Row.mk (cs := flat dlc (acc ++ [d])) (n := (acc ++ [d]).length) (sz := 9) hrH
        rw [hal] at this ⊢
        exact this
      case' neg =>
        have hgn : grpL l = (acc ++ [d] ++ [frD d]) ++ grpL (l.drop (i + 1)) := by
          rw [hg, hd1, grpL_diff hs, List.append_assoc, List.append_assoc]
          rfl
        have hse : (!e.cl == d.cl || !e.sf == d.sf) = true := by
          cases h1 : (e.cl == d.cl) with
          | false => rfl
          | true =>
            cases h2 : (e.sf == d.sf) with
            | false => rfl
            | true => exact absurd ⟨(beq_iff_eq.1 h1).symm, (beq_iff_eq.1 h2).symm⟩ hs
        simp [hse, hz3, hdl, hdt, g2]
    all_goals
      generalize AV.sl r 0 (acc.length + 1) 9 false = o3 at hrow3 ⊢
      have ho3 := Row.one hrow3
      refine c64 d ?_
      have hfl' : (dlc (frD d)).length = 9 := rfl
      have hft' : (dlc (frD d)).take 9 = dlc (frD d) := rfl
      simp [hfl']
      refine newK_of fun q2 hq2 => ?_
      have hsq2 : Sub H3 (upd H3 q2 (.cells (dlc (frD d)))) := (Sub.refl H3).upd hq2
      have hqq2 : upd H3 q2 (.cells (dlc (frD d))) q2 = some (.cells (dlc (frD d))) := by simp [upd_apply]
      have hnw2 : ∀ k : Nat → List AV → Prop, @NEWS (upd H3 q2 (.cells (dlc (frD d)))) (AV.sl q2 0 1 9 true) 9 ⟨k⟩ = k 1 (dlc (frD d)) := by
        intro k
        simp [hfl', hft']
      generalize AV.sl q2 0 1 9 true = x9 at *
      generalize upd H3 q2 (.cells (dlc (frD d))) = H4 at *
      simp [hnw2]
      have hfl2 := flat_len dlc_l (acc ++ [d])
      rw [hal] at hfl2
      refine Row.app (m := 1) (bytes := 72) hrow3 (hs3.trans hsq2) (by decide) hda' hfl2 (by omega) fun r5 H5 hr5 hs5 => ?_
      rw [flat_snoc] at hs5
      simp
      refine FgK.of (upd H r5 (.cells (flat dlc (acc ++ [d] ++ [frD d])))) ((hfin r5 _).trans hs5) ⟨⟨i + 1, .sl r5 0 (acc.length + 1 + 1) 9 false, acc ++ [d] ++ [frD d], _, by simp, rfl, by simp, by simp, by simp, by simp, by simp, by simp, by simp [wr], by omega, hgn, ?_⟩, by simp [e12, wr]; omega⟩
      have := Row.mk (cs := flat dlc (acc ++ [d] ++ [frD d])) (n := (acc ++ [d] ++ [frD d]).length) (sz := 9) (hHb.none_of hr5)
      have hal2 : (acc ++ [d] ++ [frD d]).length = acc.length + 1 + 1 := by simp
      rw [hal2] at this ⊢
      exact this
  · rw [List.drop_eq_nil_of_le (by omega)] at hg
    simp [grpL] at hg
    simp (disch := omega) [hn, hH, e0, e7, e11, e12, hlt]
    rw [← hg] at hrow
    exact ⟨Hs, Sub.refl _, hk _ _ hrow⟩
end Go.Proofs.YtmpncpamndhmcaaGreat
end

/-! The pointer, walked: Feed, Gone, and what it tells. Conditions: as each lemma states them. -/
section
namespace Go.Proofs.YtmpncpamndhmcaaGreat
open Go Go.Ab Go.RowKit

attribute [local simp] rc_len rc_t4 rc_t1 rc_t2 rc_t3 rc_d1 rc_d2 rc_d3 rc_d4 rc_ag rc_one rc_eq

section
variable {G G0 G' : AH} {B : PB} {m : PS}
/-- A new row, beside a pointer. -/
theorem BOk.row {H' : AH} {out out0 : AV} {l l0 : List Dl} (h : BOk G B m) (h0 : OutR G0 G out0 l0) (hr : Row (PV G B m) H' out (flat dlc l) l.length 9) : ∃ G', H' = PV G' B m ∧ BOk G' B m ∧ OutR G0 G' out l := by
  rcases hr with ⟨h1, h2, rfl, rfl⟩ | ⟨q, rfl, hq, rfl⟩
  · obtain rfl : l = [] := List.length_eq_zero_iff.1 h1
    exact ⟨G, rfl, h, OutR.nil h0.1⟩
  · obtain ⟨p1, p2, p3, p4⟩ := PV_new h hq (.cells (flat dlc l))
    exact ⟨_, p1, p2, h0.1.trans p4, .inr ⟨q, false, rfl, h0.1.none_of p3, by simp [upd_apply]⟩⟩
theorem rawM_len (m : PS) (L : List It) (e : Ev) : (rawM m L e).2.length ≤ 3 := by
  unfold rawM
  split
  · unfold motM
    simp only
    split
    · exact Nat.le_trans (sendM_len ..) (Nat.succ_le_succ (refM_len ..))
    · exact Nat.le_trans (refM_len ..) (by decide)
  · split
    · split
      · unfold preM
        exact Nat.le_trans (sendM_len ..) (by simp)
      · rw [relM_eq]
        unfold relT
        have h1 := sendM_len (delP (tickM m e) e.co) [] ⟨0, 0, 4, 0, 0, 0, e.co, e.va, 0⟩
        simp at h1
        split
        · omega
        · simp only [List.length_append]
          exact Nat.le_trans (Nat.add_le_add h1 (refM_len ..)) (by decide)
    · exact Nat.le_trans (sendM_len ..) (by simp)
theorem chk_ok {m : PS} {e : Ev} (h : chkM m e = 0) : (e.kd = 1 ∨ e.kd = 2 ∨ e.kd = 3) ∧ (e.kd = 2 → (e.va = 1 → m.pr.contains e.co = false) ∧ (e.va ≠ 1 → m.pr.contains e.co = true)) := by
  unfold chkM at h
  repeat' split at h
  all_goals first | exact absurd h (by decide) | skip
  rename_i h1 h2 h3 h4
  refine ⟨by omega, fun h5 => ⟨fun h6 => ?_, fun h6 => ?_⟩⟩
  · cases hc : m.pr.contains e.co with
    | false => rfl
    | true => exact absurd ⟨h5, by rw [hc, h6]; rfl⟩ h3
  · cases hc : m.pr.contains e.co with
    | true => rfl
    | false => exact absurd ⟨h5, by rw [hc, decide_eq_false h6]⟩ h3
theorem c32 {K : AV → AH → Prop} {a : AV} {L : List It} {e : Ev} (h : BOk G B m) (ha : ItsR G a L) (hl : L.length ≤ 10000000)
    (hk : ∀ c G' out, BOk G' { B with ch := c } (feedM m L e).1 → OutR G G' out (feedM m L e).2.1 → K (.tp [out, vi (feedM m L e).2.2]) (PV G' { B with ch := c } (feedM m L e).1)) : @AC Tryz.prog 32 [pA B.p, a, .ag (evc e)] (PV G B m) ⟨K⟩ := by
  refine AC_of (.forget ?_)
  refine call_c follows cf32_ok (by simp) ?_
  have hel : (evc e).length = 6 := rfl
  have het : (evc e).take 6 = evc e := rfl
  simp [hel]
  refine newK_of fun z hz => ?_
  obtain ⟨p1, h1, p3, hs1⟩ := PV_new h hz (.cells (evc e))
  have hzz : upd G z (.cells (evc e)) z = some (.cells (evc e)) := by simp [upd_apply]
  rw [p1]
  generalize upd G z (.cells (evc e)) = G1 at *
  have kz := PV_beside h1 hzz
  simp
  refine c33 PV_ptr ?_
  simp [kz, hel, het]
  refine c58 h1 ?_
  by_cases hchk : chkM m e = 0
  · have hf := feed_raw (L := L) hchk
    have hrl := rawM_len m L e
    obtain ⟨hkd, hbt⟩ := chk_ok hchk
    rw [hf] at hk
    have hp1 := PV_ptr (G := G1) (B := B) (m := m)
    have kz' : PV G1 B m z = some (.cells [vi e.kd, vi e.tm, vi e.x, vi e.y, vi e.co, vi e.va]) := kz
    have nzp : ¬ z = B.p := fun e => by have := h1.free B.p (by simp [PB.ids]); rw [← e, hzz] at this; cases this
    obtain ⟨M1, hM1⟩ : ∃ M1, tickM m e = M1 := ⟨_, rfl⟩
    have hraw : rawM m L e = if e.kd = 1 then motM M1 L e else if e.kd = 2 then (if e.va = 1 then preM M1 e else relM M1 L e) else sendM M1 [] ⟨0, 0, 5, 0, 0, 0, e.co, e.va, 0⟩ := by rw [← hM1]; rfl
    have hpr : M1.pr = m.pr := by rw [← hM1]; exact (tick_fs m e).2.2.2.1
    by_cases htk : m.td = false ∨ m.lt < e.tm
    case' pos =>
      have e1 : tickM m e = { m with td := true, lt := e.tm } := by unfold tickM; rw [if_pos htk]
      have h2 : BOk G1 B M1 := by rw [← hM1, e1]; exact h1.wp
      have hw2 := PV_wp (G := G1) (B := B) (m := m) (x := m.x) (y := m.y) (hd := m.hd) (lt := e.tm) (td := true)
      have hw2' : upd (PV G1 B m) B.p (.cells [pA B.lg, pA B.fo, pA B.gr, mpv B, vi m.x, vi m.y, vi m.hd, vb true, AV.pl (.int .i64 e.tm)]) = PV G1 B M1 := by rw [← hM1, e1]; exact hw2
      cases htd : m.td
      case' false =>
        simp [hchk, hp1, htd, kz', nzp]
        rw [hw2']
      case' true =>
        have hlt : m.lt < e.tm := htk.elim (fun h => by rw [htd] at h; cases h) id
        simp [hchk, hp1, htd, hlt, kz', nzp]
        rw [hw2']
    case' neg =>
      have e1 : tickM m e = m := by unfold tickM; rw [if_neg htk]
      have hm1 : M1 = m := by rw [← hM1, e1]
      have h2 : BOk G1 B M1 := by rw [hm1]; exact h1
      have htd : m.td = true := by
        cases htd : m.td with
        | true => rfl
        | false => exact absurd (.inl htd) htk
      have hlt : ¬ m.lt < e.tm := fun h => htk (.inr h)
      simp [hchk, hp1, htd, hlt, kz']
      rw [← hm1]
    all_goals
      have kz2 : PV G1 B M1 z = some (.cells (evc e)) := PV_beside h2 hzz
      have kz2' : PV G1 B M1 z = some (.cells [vi e.kd, vi e.tm, vi e.x, vi e.y, vi e.co, vi e.va]) := kz2
      have hE : ∀ k : List AV → Prop, @cellsK (PV G1 B M1 z) ⟨fun cs => k (cs.take 6)⟩ = k (evc e) := fun k => by rw [kz2, cellsK_some, het]
      have hcase : e.kd = 1 ∨ (e.kd = 2 ∧ e.va = 1) ∨ (e.kd = 2 ∧ e.va ≠ 1) ∨ (e.kd ≠ 1 ∧ e.kd ≠ 2) := by omega
      rcases hcase with k1 | ⟨k2, hv⟩ | ⟨k2, hv⟩ | ⟨k1, k2⟩
      case' inl =>
        rw [if_pos k1] at hraw
        simp [k1, kz2, hel, het]
        refine c59 h2 (ha.sub hs1) hl fun G3 out h3 hr3 => ?_
        rw [← hraw] at h3 hr3 ⊢
        have hr3 := hr3.base hs1
        obtain ⟨c3, hc3⟩ : ∃ c3, c3 = B.ch := ⟨_, rfl⟩
        obtain ⟨B3, hB3⟩ : ∃ B3 : PB, B3 = { B with ch := c3 } := ⟨_, rfl⟩
        have hBB : B = B3 := by rw [hB3, hc3]
        rw [show PV G3 B (rawM m L e).1 = PV G3 B3 (rawM m L e).1 by rw [← hBB]]
        have h3 : BOk G3 B3 (rawM m L e).1 := by rw [← hBB]; exact h3
      case' inr.inl =>
        have k1 : ¬ e.kd = 1 := by omega
        rw [if_neg k1, if_pos k2, if_pos hv] at hraw
        simp [k2, kz2, hel, het]
        refine c60 h2 (ha.sub hs1) hl hv (by rw [hpr]; exact (hbt k2).1 hv) fun c3 G3 out h3 hr3 => ?_
        rw [← hraw] at h3 hr3 ⊢
        have hr3 := hr3.base hs1
        obtain ⟨B3, hB3⟩ : ∃ B3 : PB, B3 = { B with ch := c3 } := ⟨_, rfl⟩
        rw [← hB3] at h3 ⊢
      case' inr.inr.inl =>
        have k1 : ¬ e.kd = 1 := by omega
        rw [if_neg k1, if_pos k2, if_neg hv] at hraw
        simp [k2, kz2, hel, het]
        refine c60r h2 (ha.sub hs1) hl hv (by rw [hpr]; exact (hbt k2).2 hv) fun c3 G3 out h3 hr3 => ?_
        rw [← hraw] at h3 hr3 ⊢
        have hr3 := hr3.base hs1
        obtain ⟨B3, hB3⟩ : ∃ B3 : PB, B3 = { B with ch := c3 } := ⟨_, rfl⟩
        rw [← hB3] at h3 ⊢
      case' inr.inr.inr =>
        rw [if_neg k1, if_neg k2] at hraw
        simp [k1, k2, kz2']
        refine c61 (G0 := G) (d := ⟨0, 0, 5, 0, 0, 0, e.co, e.va, 0⟩) h2 (OutR.nil hs1) (by simp) fun G3 out h3 hr3 => ?_
        rw [← hraw] at h3 hr3 ⊢
        obtain ⟨c3, hc3⟩ : ∃ c3, c3 = B.ch := ⟨_, rfl⟩
        obtain ⟨B3, hB3⟩ : ∃ B3 : PB, B3 = { B with ch := c3 } := ⟨_, rfl⟩
        have hBB : B = B3 := by rw [hB3, hc3]
        rw [show PV G3 B (rawM m L e).1 = PV G3 B3 (rawM m L e).1 by rw [← hBB]]
        have h3 : BOk G3 B3 (rawM m L e).1 := by rw [← hBB]; exact h3
      all_goals
        have oc3 := Rw.cells hr3.rd
        have oo3 := Rw.one hr3.rd
        generalize (rawM m L e).1 = M3 at *
        generalize (rawM m L e).2 = O3 at *
        simp
        refine c62 (hr3.rd.sub (PV_sub h3)) (by omega) fun out4 H4 hr4 => ?_
        have oc4 := Row.one hr4
        obtain ⟨G4, rfl, h4, hr5⟩ := h3.row hr3 hr4
        have oc5 := Rw.cells hr5.rd
        rw [hB3] at h4
        simp
        refine ⟨_, Sub.refl _, ?_⟩
        rw [hB3]
        exact hk c3 G4 out4 h4 hr5
  · have hf := feed_bad (L := L) hchk
    rw [hf] at hk
    simp [hchk]
    exact ⟨_, PV_cong hs1, hk B.ch G vnil h (OutR.nil (Sub.refl _))⟩
theorem c41 {K : AV → AH → Prop} {s : Int} (h : BOk G B m)
    (hk : ∀ c, BOk G { B with ch := c } (goneM m s) → K vnil (PV G { B with ch := c } (goneM m s))) : @AC Tryz.prog 41 [pA B.p, vi s] (PV G B m) ⟨K⟩ := by
  have hp := PV_ptr (G := G) (B := B) (m := m)
  refine AC_of (.forget ?_)
  refine call_c follows cf41_ok (by simp) ?_
  simp
  refine c33 PV_ptr ?_
  have hgo : goneM m s = if (if m.hd = s then endH m else m).fs = s then { (if m.hd = s then endH m else m) with fs := 0, fc := 0 } else (if m.hd = s then endH m else m) := rfl
  obtain ⟨M1, hM1⟩ : ∃ M1, (if m.hd = s then endH m else m) = M1 := ⟨_, rfl⟩
  rw [hM1] at hgo
  have fin : ∀ c, BOk G { B with ch := c } M1 → ∃ H0, Sub H0 (PV G { B with ch := c } (if M1.fs = s then { M1 with fs := 0, fc := 0 } else M1)) ∧ K vnil H0 := fun c hB => by
    refine ⟨_, Sub.refl _, ?_⟩
    rw [← hgo]
    refine hk c ?_
    rw [hgo]
    split
    · exact hB.wf
    · exact hB
  by_cases hd : m.hd = s
  · rw [if_pos hd] at hM1
    simp [hp, hd]
    refine c69 h fun c h1 => ?_
    rw [hM1] at h1 ⊢
    have hp1 := PV_ptr (G := G) (B := { B with ch := c }) (m := M1)
    simp [hp1]
    refine c70 h1 s ?_
    simp
    exact fin c h1
  · rw [if_neg hd] at hM1
    simp [hp, hd]
    refine c70 h s ?_
    simp
    rw [hM1]
    exact fin B.ch (by rw [← hM1]; exact h)
theorem c24 {K : AV → AH → Prop} (hk : K (.tp [vi m.x, vi m.y]) (PV G B m)) : @AC Tryz.prog 24 [pA B.p] (PV G B m) ⟨K⟩ := by
  have hp := PV_ptr (G := G) (B := B) (m := m)
  refine call_c follows cf24_ok (by simp) ?_
  simp
  refine c33 PV_ptr ?_
  simp [hp]
  exact hk
theorem c16 {K : AV → AH → Prop} (hk : K (pA B.gr) (PV G B m)) : @AC Tryz.prog 16 [pA B.p] (PV G B m) ⟨K⟩ := by
  have hp := PV_ptr (G := G) (B := B) (m := m)
  refine call_c follows cf16_ok (by simp) ?_
  simp
  refine c33 PV_ptr ?_
  simp [hp]
  exact hk
theorem c12 {K : AV → AH → Prop} (hk : K (pA B.fo) (PV G B m)) : @AC Tryz.prog 12 [pA B.p] (PV G B m) ⟨K⟩ := by
  have hp := PV_ptr (G := G) (B := B) (m := m)
  refine call_c follows cf12_ok (by simp) ?_
  simp
  refine c33 PV_ptr ?_
  simp [hp]
  exact hk
end
end Go.Proofs.YtmpncpamndhmcaaGreat
end

/-! A new pointer, walked. Conditions: as each lemma states them. -/
section
namespace Go.Proofs.YtmpncpamndhmcaaGreat
open Go Go.Ab Go.RowKit

attribute [local simp] rc_len rc_t4 rc_t1 rc_t2 rc_t3 rc_d1 rc_d2 rc_d3 rc_d4 rc_ag rc_one rc_eq

def es0 : List AV := (List.replicate 256 [vu 0, vi 0, vi 0, vi 0]).flatten
theorem es0_len : es0.length = 1024 := by decide +kernel
def lg0 : Lg := ⟨0, 0, es0⟩
set_option maxRecDepth 100000 in
theorem c27 {H : AH} {K : AV → AH → Prop} (hk : ∀ b, H b = none → K (pA b) (upd H b (.cells (lgc lg0)))) : @AC Tryz.prog 27 [] H ⟨K⟩ := by
  refine call_c follows cf27_ok (by simp) ?_
  simp
  refine newK_of fun b hb => ?_
  simp
  exact hk b hb
theorem c54 {H : AH} {K : AV → AH → Prop} {l : Nat} (hk : ∀ b, H b = none → K (pA b) (upd H b (.cells [pA l, vi 0, vi 0, vb false]))) : @AC Tryz.prog 54 [pA l] H ⟨K⟩ := by
  refine call_c follows cf54_ok (by simp) ?_
  simp
  refine newK_of fun b hb => ?_
  simp
  exact hk b hb
theorem c55v {H : AH} {K : AV → AH → Prop} (hk : ∀ b, H b = none → K (pA b) (upd H b (.cells (cellsOf ⟨0, 0, 0, 0, 0, []⟩ vnil)))) : @AC Tryz.prog 55 [] H ⟨K⟩ := by
  refine call_c follows cf55_ok (by simp) ?_
  simp
  refine newK_of fun b hb => ?_
  simp
  exact hk b hb
def m0 : PS := ⟨lg0, 0, 0, false, ⟨0, 0, 0, 0, 0, []⟩, [], [], 0, 0, 0, 0, false, 0⟩
theorem c28n {H : AH} {K : AV → AH → Prop} (hk : K (.pl (.pointer none)) H) : @AC Tryz.prog 28 [.pl (.pointer none)] H ⟨K⟩ := by
  refine call_c follows cf28_ok (by simp) ?_
  simp
  exact hk
theorem c28 {G : AH} {K : AV → AH → Prop} {l : Nat} (hl : G l = none) (hk : ∀ B, B.lg = l → BOk G B m0 → K (pA B.p) (PV G B m0)) : @AC Tryz.prog 28 [pA l] (upd G l (.cells (lgc lg0))) ⟨K⟩ := by
  refine call_c follows cf28_ok (by simp) ?_
  simp
  refine c54 fun f hf => ?_
  simp
  refine c55v fun g hg => ?_
  simp [cellsOf]
  refine newK_of fun mp hmp => ?_
  simp
  refine newK_of fun p hp => ?_
  simp
  obtain ⟨a1, a2, a3⟩ := upd_none'.1 hf
  obtain ⟨b1, b2, b3⟩ := upd_none'.1 hg
  obtain ⟨b4, b5, b6⟩ := upd_none'.1 b3
  obtain ⟨c1, c2, c3⟩ := upd_none'.1 hmp
  obtain ⟨c4, c5, c6⟩ := upd_none'.1 c3
  obtain ⟨c7, c8, c9⟩ := upd_none'.1 c6
  obtain ⟨d1, d2, d3⟩ := upd_none'.1 hp
  obtain ⟨d4, d5, d6⟩ := upd_none'.1 d3
  obtain ⟨d7, d8, d9⟩ := upd_none'.1 d6
  obtain ⟨d10, d11, d12⟩ := upd_none'.1 d9
  have := hk ⟨p, l, f, g, mp, none⟩ rfl ⟨?_, ?_, fun _ => rfl, es0_len, by decide, Stp.nil, by decide⟩
  · refine Eq.mp (congrArg (K _) ?_) this
    funext j
    simp only [PV, chH, upd_apply, ptc, lgc, foc, prI, mI, m0, mpv, cellsOf, chA]
    by_cases e1 : j = p
    · simp [e1]
    by_cases e2 : j = mp
    · simp [e2, c4, c7, d2]
    by_cases e3 : j = g
    · simp [e3, b1, b4, c2, d5]
    by_cases e4 : j = f
    · simp [e4, a1, b2, c5, d8]
    by_cases e5 : j = l
    · simp [e5, a2, b5, c8, d11]
    simp [e1, e2, e3, e4, e5]
  · intro j hj
    simp only [PB.ids, chI, List.append_nil, List.mem_cons, List.not_mem_nil, or_false] at hj
    rcases hj with rfl | rfl | rfl | rfl | rfl
    · exact d12
    · exact hl
    · exact a3
    · exact c9
    · exact b6
  · simp [PB.ids, chI, a2, b2, b5, c1, c5, c8, d1, d4, d7, d10]
theorem c7 {G : AH} {K : AV → AH → Prop} (hk : ∀ B, BOk G B m0 → K (.tp [pA B.p, vb true]) (PV G B m0)) : @AC Tryz.prog 7 [] G ⟨K⟩ := by
  refine call_c follows cf7_ok (by simp) ?_
  simp
  refine c27 fun l hl => ?_
  simp
  refine c28 hl fun B hB h => ?_
  simp
  refine c16 ?_
  simp
  refine c12 ?_
  simp
  exact hk B h
end Go.Proofs.YtmpncpamndhmcaaGreat
end

/-! The calls of the law, walked. Conditions: as each lemma states them. -/
section
namespace Go.Proofs.YtmpncpamndhmcaaGreat
open Go Go.Ab Go.RowKit

attribute [local simp] rc_len rc_t4 rc_t1 rc_t2 rc_t3 rc_d1 rc_d2 rc_d3 rc_d4 rc_ag rc_one rc_eq

section
variable {G G0 G' : AH} {B : PB} {m : PS}
theorem dragM_ch (m : M) (c s : Int) : (dragM m c s).1.ch = m.ch := by
  unfold dragM
  repeat' split
  all_goals rfl
theorem endM_ch (m : M) : (endM m).1.ch = m.ch := by
  unfold endM
  repeat' split
  all_goals rfl
theorem popM_ch (m : M) (c s p : Int) (h : m.ch.length ≤ 8) : (popupM m c s p).1.ch.length ≤ 8 := by
  unfold popupM
  repeat' split
  all_goals first | exact h | (simp only [List.length_append, List.length_singleton]; omega)
theorem cutM_ch (m : M) (k : Nat) (h : m.ch.length ≤ 8) : (cutM m k).1.ch.length ≤ 8 := by
  simp only [cutM, List.length_take]; omega
theorem disM_ch (m : M) (s : Int) (h : m.ch.length ≤ 8) : (dismissM m s).1.ch.length ≤ 8 := by
  unfold dismissM
  split
  · exact h
  · exact cutM_ch m _ h
theorem cliM_ch (m : M) (c s : Int) (h : m.ch.length ≤ 8) : (clickM m c s).1.ch.length ≤ 8 := by
  unfold clickM
  repeat' split
  all_goals first | exact h | exact cutM_ch m _ h
theorem pDrag {K : AV → AH → Prop} (h : BOk G B m) (c s : Int) (hk : GrabP K G B m (dragM m.g c s).1 (vi (dragM m.g c s).2)) : @AC Tryz.prog 39 [pA B.gr, vi c, vi s] (PV G B m) ⟨K⟩ :=
  AC_of (.forget (c39 h.stack c s fun H' F' hs hst => by
    obtain ⟨c, hB, hsub⟩ := h.grabs hs hst (by rw [dragM_ch]; exact h.len)
    exact ⟨_, hsub, hk c hB⟩))
theorem pEnd {K : AV → AH → Prop} (h : BOk G B m) (hk : GrabP K G B m (endM m.g).1 (vb (endM m.g).2)) : @AC Tryz.prog 40 [pA B.gr] (PV G B m) ⟨K⟩ :=
  AC_of (.forget (c40 h.stack fun H' F' hs hst => by
    obtain ⟨c, hB, hsub⟩ := h.grabs hs hst (by rw [endM_ch]; exact h.len)
    exact ⟨_, hsub, hk c hB⟩))
theorem pPopup {K : AV → AH → Prop} (h : BOk G B m) (c s p : Int) (hk : GrabP K G B m (popupM m.g c s p).1 (vi (popupM m.g c s p).2)) : @AC Tryz.prog 36 [pA B.gr, vi c, vi s, vi p] (PV G B m) ⟨K⟩ :=
  AC_of (.forget (c36 h.stack h.ch100 c s p fun H' F' hs hst => by
    obtain ⟨c, hB, hsub⟩ := h.grabs hs hst (popM_ch _ _ _ _ h.len)
    exact ⟨_, hsub, hk c hB⟩))
def pD (p : Int × Int) : Dl := ⟨p.1, p.2, 21, 0, 0, 0, 0, 0, 0⟩
theorem flat_pD (l : List (Int × Int)) : l.flatMap dcell = flat dlc (l.map pD) := by
  induction l with
  | nil => rfl
  | cons p l ih => rw [List.flatMap_cons, ih]; rfl
theorem BOk.grabsL (h : BOk G B m) {H' : AH} {F' : Nat → Prop} {g' : M} {a : AV} {l : List (Int × Int)} (hs : St H' F' B.gr g') (hst : OSt (grF B) (PV G B m) F' H') (hl : g'.ch.length ≤ 8) (hd : DRow H' l a (fun k => ¬ F' k ∧ PV G B m k = none)) :
    ∃ c G', BOk G' { B with ch := c } { m with g := g' } ∧ Sub (PV G' { B with ch := c } { m with g := g' }) H' ∧ OutR G G' a (l.map pD) := by
  obtain ⟨c, hB, hsub, hF⟩ := h.grabs2 hs hst hl
  rcases hd with ⟨rfl, rfl⟩ | ⟨r, x, rfl, hr, hnF, hnone⟩
  · exact ⟨c, G, hB, hsub, OutR.nil (Sub.refl _)⟩
  · obtain ⟨r1, r2⟩ := PV_free hnone
    have hrn : r ∉ ({ B with ch := c } : PB).ids := by
      intro hm
      simp only [PB.ids, List.mem_append] at hm r1
      rcases hm with hm | hm
      · exact r1 (.inl hm)
      · exact hnF (hF r hm)
    refine ⟨c, Ab.upd G r (.cells (flat dlc (l.map pD))), hB.upd hrn, ?_, (Sub.refl G).upd r2, .inr ⟨r, x, by simp, r2, by simp [upd_apply]⟩⟩
    rw [← PV_upd hrn]
    intro j o hj
    simp only [upd_apply] at hj
    split at hj
    · rename_i e; rw [e, hr, ← hj, flat_pD]
    · exact hsub j o hj
theorem pDismiss {K : AV → AH → Prop} (h : BOk G B m) (s : Int) (hk : ∀ c G' a, BOk G' { B with ch := c } { m with g := (dismissM m.g s).1 } → OutR G G' a ((dismissM m.g s).2.map pD) → K a (PV G' { B with ch := c } { m with g := (dismissM m.g s).1 })) :
    @AC Tryz.prog 37 [pA B.gr, vi s] (PV G B m) ⟨K⟩ :=
  AC_of (.forget (c37 h.stack h.ch100 s fun H' F' a hs hst hd => by
    obtain ⟨c, G', hB, hsub, ho⟩ := h.grabsL hs hst (disM_ch _ _ h.len) hd
    exact ⟨_, hsub, hk c G' a hB ho⟩))
theorem pClick {K : AV → AH → Prop} (h : BOk G B m) (c s : Int) (hk : ∀ c' G' a, BOk G' { B with ch := c' } { m with g := (clickM m.g c s).1 } → OutR G G' a ((clickM m.g c s).2.map pD) → K a (PV G' { B with ch := c' } { m with g := (clickM m.g c s).1 })) :
    @AC Tryz.prog 38 [pA B.gr, vi c, vi s] (PV G B m) ⟨K⟩ :=
  AC_of (.forget (c38 h.stack h.ch100 c s fun H' F' a hs hst hd => by
    obtain ⟨c', G', hB, hsub, ho⟩ := h.grabsL hs hst (cliM_ch _ _ _ h.len) hd
    exact ⟨_, hsub, hk c' G' a hB ho⟩))
/-! ### The law's calls -/
structure Op where
  kd : Int
  sc : Int
  cl : Int
  sf : Int
  pa : Int
  e : Ev
def opc (o : Op) : List AV := [vi o.kd, vi o.sc, vi o.cl, vi o.sf, vi o.pa, vi o.e.kd, vi o.e.tm, vi o.e.x, vi o.e.y, vi o.e.co, vi o.e.va]
theorem opc_l (o : Op) : (opc o).length = 11 := rfl
def callM (m : PS) (L : List It) (o : Op) : PS × List Dl × Int :=
  if o.kd = 0 then feedM m L o.e
  else if o.kd = 1 then ({ m with g := (popupM m.g o.cl o.sf o.pa).1 }, [], (popupM m.g o.cl o.sf o.pa).2)
  else if o.kd = 2 then ({ m with g := (dismissM m.g o.sf).1 }, (dismissM m.g o.sf).2.map pD, 0)
  else if o.kd = 3 then ({ m with g := (clickM m.g o.cl o.sf).1 }, (clickM m.g o.cl o.sf).2.map pD, 0)
  else if o.kd = 4 then ({ m with g := (dragM m.g o.cl o.sf).1 }, [], (dragM m.g o.cl o.sf).2)
  else if o.kd = 5 then ({ m with g := (endM m.g).1 }, [], 0)
  else (goneM m o.sf, [], 0)
theorem c14 {K : AV → AH → Prop} {a : AV} {L : List It} {o : Op} (h : BOk G B m) (ha : ItsR G a L) (hl : L.length ≤ 10000000)
    (hk : ∀ c G' out, BOk G' { B with ch := c } (callM m L o).1 → OutR G G' out (callM m L o).2.1 → K (.tp [out, vi (callM m L o).2.2]) (PV G' { B with ch := c } (callM m L o).1)) : @AC Tryz.prog 14 [pA B.p, a, .ag (opc o)] (PV G B m) ⟨K⟩ := by
  refine AC_of (.forget ?_)
  refine call_c follows cf14_ok (by simp) ?_
  have hel : (opc o).length = 11 := rfl
  simp [hel]
  refine newK_of fun z hz => ?_
  obtain ⟨p1, h1, p3, hs1⟩ := PV_new h hz (.cells (opc o))
  have hzz : upd G z (.cells (opc o)) z = some (.cells (opc o)) := by simp [upd_apply]
  rw [p1]
  generalize upd G z (.cells (opc o)) = G1 at *
  have kz : PV G1 B m z = some (.cells [vi o.kd, vi o.sc, vi o.cl, vi o.sf, vi o.pa, vi o.e.kd, vi o.e.tm, vi o.e.x, vi o.e.y, vi o.e.co, vi o.e.va]) := PV_beside h1 hzz
  simp [kz]
  unfold callM at hk
  by_cases k0 : o.kd = 0
  · rw [if_pos k0] at hk
    simp [k0, kz]
    refine c32 (e := o.e) h1 (ha.sub hs1) hl fun c G' out h2 hr2 => ?_
    have oc2 := Rw.cells hr2.rd
    simp
    exact ⟨_, Sub.refl _, hk c G' out h2 (hr2.base hs1)⟩
  rw [if_neg k0] at hk
  by_cases k1 : o.kd = 1
  · rw [if_pos k1] at hk
    simp [k1, kz]
    refine c16 ?_
    simp [kz]
    refine pPopup h1 _ _ _ fun c h2 => ?_
    simp
    exact ⟨_, Sub.refl _, hk c G1 vnil h2 (OutR.nil hs1)⟩
  rw [if_neg k1] at hk
  by_cases k2 : o.kd = 2
  · rw [if_pos k2] at hk
    simp [k2, kz]
    refine c16 ?_
    simp [kz]
    refine pDismiss h1 _ fun c G' out h2 hr2 => ?_
    have oc2 := Rw.cells hr2.rd
    simp
    exact ⟨_, Sub.refl _, hk c G' out h2 (hr2.base hs1)⟩
  rw [if_neg k2] at hk
  by_cases k3 : o.kd = 3
  · rw [if_pos k3] at hk
    simp [k3, kz]
    refine c16 ?_
    simp [kz]
    refine pClick h1 _ _ fun c G' out h2 hr2 => ?_
    have oc2 := Rw.cells hr2.rd
    simp
    exact ⟨_, Sub.refl _, hk c G' out h2 (hr2.base hs1)⟩
  rw [if_neg k3] at hk
  by_cases k4 : o.kd = 4
  · rw [if_pos k4] at hk
    simp [k4, kz]
    refine c16 ?_
    simp [kz]
    refine pDrag h1 _ _ fun c h2 => ?_
    simp
    exact ⟨_, Sub.refl _, hk c G1 vnil h2 (OutR.nil hs1)⟩
  rw [if_neg k4] at hk
  by_cases k5 : o.kd = 5
  · rw [if_pos k5] at hk
    simp [k5]
    refine c16 ?_
    simp
    refine pEnd h1 fun c h2 => ?_
    simp
    exact ⟨_, Sub.refl _, hk c G1 vnil h2 (OutR.nil hs1)⟩
  rw [if_neg k5] at hk
  simp [k0, k1, k2, k3, k4, k5, kz]
  refine c41 h1 fun c h2 => ?_
  simp
  exact ⟨_, Sub.refl _, hk c G1 vnil h2 (OutR.nil hs1)⟩
end
/-- The scenes of a run. -/
def ScR (H : AH) (a : AV) (Ls : List (List It)) : Prop := ∃ cs : List AV, Rw H a cs Ls.length 1 ∧ ∀ i (h : i < cs.length) (h2 : i < Ls.length), ItsR H cs[i] Ls[i]
def itemsM (Ls : List (List It)) (o : Op) : List It := if o.sc < 0 ∨ (Ls.length : Int) ≤ o.sc then [] else Ls.getD o.sc.toNat []
theorem c10 {H0 H : AH} {K : AV → AH → Prop} {a b : AV} {Ls : List (List It)} {o : Op} (ha : ScR H0 a Ls) (hs0 : Sub H0 H) (hb : b.cells = some [b]) (hl : Ls.length ≤ 10000000) (hk : ∀ v, ItsR H0 v (itemsM Ls o) → K v H) :
    @AC Tryz.prog 10 [.ag [a, b], .ag (opc o)] H ⟨K⟩ := by
  obtain ⟨cs, hr, hi⟩ := ha
  have hr := hr.sub hs0
  have la := fun k => Rw.lenK hr (k := k)
  have ca := Rw.cells hr
  refine AC_of (.forget ?_)
  refine call_c follows cf10_ok (by simp) ?_
  have hel : (opc o).length = 11 := rfl
  simp
  refine newK_of fun z hz => ?_
  have hzz : upd H z (.cells [a, b]) z = some (.cells [a, b]) := by simp [upd_apply]
  have hS : Sub H (upd H z (.cells [a, b])) := (Sub.refl H).upd hz
  simp [hel]
  generalize upd H z (.cells [a, b]) = H1 at *
  refine newK_of fun w hw => ?_
  have hww : upd H1 w (.cells (opc o)) w = some (.cells [vi o.kd, vi o.sc, vi o.cl, vi o.sf, vi o.pa, vi o.e.kd, vi o.e.tm, vi o.e.x, vi o.e.y, vi o.e.co, vi o.e.va]) := by simp [upd_apply, opc]
  have hS2 : Sub H (upd H1 w (.cells (opc o))) := hS.trans ((Sub.refl H1).upd hw)
  have hz2 : upd H1 w (.cells (opc o)) z = some (.cells [a, b]) := ((Sub.refl H1).upd hw) _ _ hzz
  generalize upd H1 w (.cells (opc o)) = H2 at *
  unfold itemsM at hk
  by_cases c1 : o.sc < 0
  · rw [if_pos (.inl c1)] at hk
    simp [hww, c1]
    exact ⟨H, hS2, hk _ (ItsR.nil _)⟩
  by_cases c2 : (Ls.length : Int) ≤ o.sc
  · rw [if_pos (.inr c2)] at hk
    simp [hww, hz2, c1, la, c2]
    exact ⟨H, hS2, hk _ (ItsR.nil _)⟩
  · rw [if_neg (fun h => h.elim c1 c2)] at hk
    obtain ⟨n, hn⟩ : ∃ n : Nat, o.sc = n := ⟨o.sc.toNat, by omega⟩
    have hlt : n < Ls.length := by omega
    have hcl : cs.length = Ls.length := by have := hr.1; omega
    have hget : Ls.getD o.sc.toNat [] = Ls[n] := by rw [hn, List.getD_eq_getElem?_getD]; simp [hlt]
    rw [hget] at hk
    obtain ⟨p, hp1, hp2⟩ := Rw.see hr hlt
    have hone : (cs.drop (n * 1)).take 1 = [cs[n]] := by rw [Nat.mul_one, List.drop_eq_getElem_cons (by omega)]; rfl
    have hit := hi n (by omega) hlt
    have hoc := Rw.cells hit.1
    have ho1 := Rw.one hit.1
    have hp3 := hp2 H2 hS2
    rw [hone] at hp3
    rw [hn] at c1 c2
    simp [hww, hz2, hn, c1, la, c2, hp1, hp3]
    exact ⟨H, hS2, hk _ hit⟩
end Go.Proofs.YtmpncpamndhmcaaGreat
end

/-! The example of the chapter, walked. Conditions: as each lemma states them. -/
section
namespace Go.Proofs.YtmpncpamndhmcaaGreat
open Go Go.Ab Go.RowKit

attribute [local simp] rc_len rc_t4 rc_t1 rc_t2 rc_t3 rc_d1 rc_d2 rc_d3 rc_d4 rc_ag rc_one rc_eq

def sqI (s c x y : Int) (ap ai : AV) : It := ⟨s, c, x, y, 4, 4, ap, vnil, ai, List.replicate 16 ⟨0, 0, 0, 0⟩, [], [⟨0, 0, 4, 4⟩]⟩
theorem c31 {H : AH} {K : AV → AH → Prop} (s c x y : Int) (hk : ∀ ap ai H', Sub H H' → (∃ G1, ItOk G1 (sqI s c x y ap ai) ∧ Sub G1 H' ∧ ∀ j, H j ≠ none → G1 j = none) → K (.ag (itc (sqI s c x y ap ai))) H') : @AC Tryz.prog 31 [vi s, vi c, vi x, vi y] H ⟨K⟩ := by
  refine AC_of (.forget ?_)
  refine call_c follows cf31_ok (by simp) ?_
  simp
  refine newK_of fun z hz => ?_
  have hS : Sub H (upd H z (.cells [vi 0, vi 0, vi 0, vi 0, vi 0, vi 0, vnil, vnil, vnil])) := (Sub.refl H).upd hz
  have hzz : upd H z (.cells [vi 0, vi 0, vi 0, vi 0, vi 0, vi 0, vnil, vnil, vnil]) z = some (.cells [vi 0, vi 0, vi 0, vi 0, vi 0, vi 0, vnil, vnil, vnil]) := by simp [upd_apply]
  simp
  generalize upd H z (.cells [vi 0, vi 0, vi 0, vi 0, vi 0, vi 0, vnil, vnil, vnil]) = H1 at *
  refine newK_of fun q hq => ?_
  generalize hG : upd H1 q (.cells (List.replicate (Int.toNat 16) [v8 0, v8 0, v8 0, v8 0]).flatten) = H2
  have hSq : Sub H1 H2 := by rw [← hG]; exact (Sub.refl H1).upd hq
  have hqq : H2 q = some (.cells (flat pxc (List.replicate 16 ⟨0, 0, 0, 0⟩))) := by rw [← hG]; simp [upd_apply]; rfl
  simp
  refine newK_of fun w hw => ?_
  have hSw : Sub H2 (upd H2 w (.cells (rc ⟨0, 0, 4, 4⟩))) := (Sub.refl H2).upd hw
  have hww : upd H2 w (.cells (rc ⟨0, 0, 4, 4⟩)) w = some (.cells (rc ⟨0, 0, 4, 4⟩)) := by simp [upd_apply]
  have hz3 := (hSq.trans hSw) _ _ hzz
  have hnz : z ≠ q := by rintro rfl; rw [hzz] at hq; cases hq
  have hq3 := hSw _ _ hqq
  have hS3 := hS.trans (hSq.trans hSw)
  have hnzw : w ≠ z := by rintro rfl; have := hSq _ _ hzz; rw [hw] at this; cases this
  generalize upd H2 w (.cells (rc ⟨0, 0, 4, 4⟩)) = H3 at *
  simp [hz3]
  have hqH : H q = none := hS.none_of hq
  have hwH : H w = none := (hS.trans hSq).none_of hw
  have hwq : q ≠ w := by rintro rfl; rw [hqq] at hw; cases hw
  have hx : ItOk (upd (upd (fun _ => none) q (.cells (flat pxc (List.replicate 16 ⟨0, 0, 0, 0⟩)))) w (.cells (rc ⟨0, 0, 4, 4⟩))) (sqI s c x y (.sl q 0 16 4 true) (.sl w 0 1 4 true)) := by
    refine ⟨?_, Rw.nil _ _, ?_, by simp [sqI], by simp [sqI]⟩
    · refine Rw.sl (by rw [flat_len pxc_l]; simp [sqI]) ?_
      simp only [upd_apply]; rw [if_neg hwq, if_pos trivial]; rfl
    · refine Rw.sl (by rfl) ?_
      simp only [upd_apply]; rw [if_pos trivial]; rfl
  refine ⟨_, Sub.refl _, hk _ _ _ (hS3.upd hz) ⟨_, hx, fun j o hj => ?_, fun j hj => ?_⟩⟩
  · simp only [upd_apply] at hj ⊢
    split at hj
    · rename_i e; subst e; rw [if_neg hnzw, hww, ← hj]
    · split at hj
      · rename_i e; subst e; rw [if_neg (Ne.symm hnz), hq3, ← hj]
      · cases hj
  · simp only [upd_apply]
    rw [if_neg (by rintro rfl; exact hj hwH), if_neg (by rintro rfl; exact hj hqH)]
section
variable (ap ai : AV)
def xL : List It := [sqI 7 2 10 10 ap ai]
def xe1 : Ev := ⟨1, 0, 11, 12, 0, 0⟩
def xe2 : Ev := ⟨2, 0, 0, 0, 272, 1⟩
def xe3 : Ev := ⟨1, 0, 30, 5, 0, 0⟩
def xe4 : Ev := ⟨2, 0, 0, 0, 272, 0⟩
def xm1 : PS := (feedM m0 (xL ap ai) xe1).1
def xm2 : PS := (feedM (xm1 ap ai) (xL ap ai) xe2).1
def xm3 : PS := (feedM (xm2 ap ai) (xL ap ai) xe3).1
def xm4 : PS := (feedM (xm3 ap ai) (xL ap ai) xe4).1
theorem xa : (feedM m0 (xL ap ai) xe1).2.1 = [⟨2, 7, 1, 0, 1, 2, 0, 0, 1⟩, ⟨2, 7, 3, 0, 1, 2, 0, 0, 0⟩, ⟨2, 7, 6, 0, 0, 0, 0, 0, 0⟩] := by kernel_rfl
theorem xb : (feedM (xm1 ap ai) (xL ap ai) xe2).2.1 = [⟨2, 7, 4, 0, 0, 0, 272, 1, 2⟩, ⟨2, 7, 6, 0, 0, 0, 0, 0, 0⟩] := by kernel_rfl
theorem xc : (feedM (xm2 ap ai) (xL ap ai) xe3).2.1 = [⟨2, 7, 3, 0, 20, -5, 0, 0, 0⟩, ⟨2, 7, 6, 0, 0, 0, 0, 0, 0⟩] := by kernel_rfl
theorem xd : (feedM (xm3 ap ai) (xL ap ai) xe4).2.1 = [⟨2, 7, 4, 0, 0, 0, 272, 0, 3⟩, ⟨2, 7, 2, 0, 0, 0, 0, 0, 4⟩, ⟨2, 7, 6, 0, 0, 0, 0, 0, 0⟩] := by kernel_rfl
theorem xe : (feedM (xm4 ap ai) (xL ap ai) xe4).2.2 = 14 := by kernel_rfl
end
/-- A larger view, with the pointer in it. -/
theorem PV_ext {G H1 : AH} {B : PB} {m : PS} (h : BOk G B m) (hs : Sub (PV G B m) H1) : ∃ G1, H1 = PV G1 B m ∧ BOk G1 B m ∧ Sub G G1 ∧ ∀ G2, Sub G2 H1 → (∀ j ∈ B.ids, G2 j = none) → Sub G2 G1 := by
  have hfr : ∀ j ∈ B.ids, (fun j => if j ∈ B.ids then none else H1 j : AH) j = none := fun j hj => if_pos hj
  refine ⟨fun j => if j ∈ B.ids then none else H1 j, ?_, ⟨hfr, h.nd, h.ch, h.es, h.at_, h.st, h.len⟩, fun j o hj => ?_, fun G2 h2 h3 j o hj => ?_⟩
  · funext j
    by_cases hj : j ∈ B.ids
    · cases e : PV G B m j with
      | none => exact absurd e (PV_id hj)
      | some o =>
        rw [hs j o e, ← e]
        simp only [PV, upd_apply]
        repeat' split
        all_goals first | rfl | skip
        simp only [PB.ids, List.cons_append, List.nil_append, List.mem_cons] at hj
        have hc : j ∈ chI B.ch := by
          rcases hj with h | h | h | h | h | h
          all_goals first | contradiction | exact h
        unfold chI at hc
        unfold chH
        cases hch : B.ch with
        | none => simp [hch] at hc
        | some x =>
          obtain ⟨k, y, r⟩ := x
          simp only [hch, List.mem_singleton] at hc
          subst hc
          simp [upd_apply]
    · rw [PV_out hj]
      simp [hj]
  · have hn : j ∉ B.ids := fun hm => by rw [h.free j hm] at hj; cases hj
    simp only [if_neg hn]
    exact hs j o (PV_sub h j o hj)
  · have hn : j ∉ B.ids := fun hm => by rw [h3 j hm] at hj; cases hj
    simp only [if_neg hn]
    exact h2 j o hj
/-- An element of a row of deliveries, and its fields. -/
theorem dread {H : AH} {a : AV} {l : List Dl} (h : Rw H a (flat dlc l) l.length 9) {i : Nat} (hi : i < l.length) {n : Int} (hn : n = i) : ∃ p, (∀ k : AV → Prop, @iadSK 9 a (vi n) ⟨k⟩ = k p) ∧ (∀ k : List AV → Prop, @SEE H p 9 ⟨k⟩ = k (dlc l[i])) ∧
    (∃ q, (∀ k : AV → Prop, @fadrK 0 p ⟨k⟩ = k q) ∧ ∀ k : List AV → Prop, @SEE H q 1 ⟨k⟩ = k [vi l[i].cl]) ∧ (∃ q, (∀ k : AV → Prop, @fadrK 1 p ⟨k⟩ = k q) ∧ ∀ k : List AV → Prop, @SEE H q 1 ⟨k⟩ = k [vi l[i].sf]) ∧
    (∃ q, (∀ k : AV → Prop, @fadrK 2 p ⟨k⟩ = k q) ∧ ∀ k : List AV → Prop, @SEE H q 1 ⟨k⟩ = k [vi l[i].kd]) ∧ (∃ q, (∀ k : AV → Prop, @fadrK 4 p ⟨k⟩ = k q) ∧ ∀ k : List AV → Prop, @SEE H q 1 ⟨k⟩ = k [vi l[i].x]) ∧
    (∃ q, (∀ k : AV → Prop, @fadrK 5 p ⟨k⟩ = k q) ∧ ∀ k : List AV → Prop, @SEE H q 1 ⟨k⟩ = k [vi l[i].y]) ∧ (∃ q, (∀ k : AV → Prop, @fadrK 7 p ⟨k⟩ = k q) ∧ ∀ k : List AV → Prop, @SEE H q 1 ⟨k⟩ = k [vi l[i].va]) := by
  subst hn
  obtain ⟨p, h1, h2, h3⟩ := fat dlc_l h hi
  have g : ∀ off v, (dlc l[i])[off]? = some v → ∃ q, (∀ kk : AV → Prop, @fadrK off p ⟨kk⟩ = kk q) ∧ ∀ kk : List AV → Prop, @SEE H q 1 ⟨kk⟩ = kk [v] := fun off v hv => by
    obtain ⟨q, g1, g2⟩ := h3 off v hv
    exact ⟨q, g1, g2 H (Sub.refl _)⟩
  exact ⟨p, h1, h2 H (Sub.refl _), g 0 _ rfl, g 1 _ rfl, g 2 _ rfl, g 4 _ rfl, g 5 _ rfl, g 7 _ rfl⟩
set_option maxRecDepth 20000 in
theorem c9 {G : AH} {K : AV → AH → Prop} (hk : K (vb true) G) : @AC Tryz.prog 9 [] G ⟨K⟩ := by
  refine AC_of (.forget ?_)
  refine call_c follows cf9_ok (by simp) ?_
  simp
  refine c27 fun l hl => ?_
  simp
  refine c28 hl fun B hB h => ?_
  simp
  refine c16 ?_
  simp
  refine c12 ?_
  simp
  refine c28n ?_
  simp
  have hGs : Sub G (PV G B m0) := PV_sub h
  refine c31 7 2 10 10 fun ap ai H1 hs1 ⟨Gi, hi1, hi2, hi3⟩ => ?_
  obtain ⟨G1, rfl, h1, hs01, hmax⟩ := PV_ext h hs1
  have hit : ItOk G1 (sqI 7 2 10 10 ap ai) := hi1.sub (hmax Gi hi2 fun j hj => hi3 j (PV_id hj))
  have hl9 : (itc (sqI 7 2 10 10 ap ai)).length = 9 := rfl
  simp [hl9]
  refine newK_of fun w hw => ?_
  obtain ⟨p1, h2, p3, hs2⟩ := PV_new h1 hw (.cells (itc (sqI 7 2 10 10 ap ai)))
  have hL : ItsR (upd G1 w (.cells (itc (sqI 7 2 10 10 ap ai)))) (.sl w 0 1 9 true) (xL ap ai) := by
    refine ⟨Rw.sl (flat_len itc_l _) (by simp [upd_apply, xL, flat]), fun i hi => ?_⟩
    rw [List.mem_singleton.1 hi]
    exact hit.sub hs2
  rw [p1]
  have hs02 := hs01.trans hs2
  have hLo := Rw.cells hL.1
  have hL1 := Rw.one hL.1
  have hlen : (xL ap ai).length ≤ 10000000 := by simp [xL]
  generalize AV.sl w 0 1 9 true = aL at *
  generalize upd G1 w (.cells (itc (sqI 7 2 10 10 ap ai))) = G2 at *
  simp
  refine c32 (e := xe1) h2 hL hlen fun c3 G3 oa h3 hra => ?_
  have hL3 := hL.sub hra.1
  rw [xa] at hra
  have e3 : (feedM m0 (xL ap ai) xe1).1 = xm1 ap ai := rfl
  rw [e3] at h3 ⊢
  have oca := Rw.cells hra.rd
  have ooa := Rw.one hra.rd
  simp
  refine c32 (e := xe2) h3 hL3 hlen fun c4 G4 ob h4 hrb => ?_
  have hL4 := hL3.sub hrb.1
  rw [xb] at hrb
  have e4 : (feedM (xm1 ap ai) (xL ap ai) xe2).1 = xm2 ap ai := rfl
  rw [e4] at h4 ⊢
  have ocb := Rw.cells hrb.rd
  have oob := Rw.one hrb.rd
  simp
  refine c32 (e := xe3) h4 hL4 hlen fun c5 G5 oc h5 hrc => ?_
  have hL5 := hL4.sub hrc.1
  rw [xc] at hrc
  have e5 : (feedM (xm2 ap ai) (xL ap ai) xe3).1 = xm3 ap ai := rfl
  rw [e5] at h5 ⊢
  have occ := Rw.cells hrc.rd
  have ooc := Rw.one hrc.rd
  simp
  refine c32 (e := xe4) h5 hL5 hlen fun c6 G6 od h6 hrd => ?_
  have hL6 := hL5.sub hrd.1
  rw [xd] at hrd
  have e6 : (feedM (xm3 ap ai) (xL ap ai) xe4).1 = xm4 ap ai := rfl
  rw [e6] at h6 ⊢
  have ocd := Rw.cells hrd.rd
  have ood := Rw.one hrd.rd
  simp
  refine c32 (e := xe4) h6 hL6 hlen fun c7 G7 oe h7 hre => ?_
  have hx14 := xe ap ai
  have hs7 : Sub G (PV G7 { B with ch := c7 } (feedM (xm4 ap ai) (xL ap ai) xe4).1) := (hs02.trans (hra.1.trans (hrb.1.trans (hrc.1.trans (hrd.1.trans hre.1))))).trans (PV_sub h7)
  have ha7 := hra.rd.sub ((hrb.1.trans (hrc.1.trans (hrd.1.trans hre.1))).trans (PV_sub h7))
  have hb7 := hrb.rd.sub ((hrc.1.trans (hrd.1.trans hre.1)).trans (PV_sub h7))
  have hc7 := hrc.rd.sub ((hrd.1.trans hre.1).trans (PV_sub h7))
  have hd7 := hrd.rd.sub (hre.1.trans (PV_sub h7))
  have oce := Rw.cells hre.rd
  rw [hx14]
  generalize PV G7 { B with ch := c7 } (feedM (xm4 ap ai) (xL ap ai) xe4).1 = HH at *
  try simp only at ha7 hb7 hc7 hd7
  have la := fun k => Rw.lenK ha7 (k := k)
  have lb := fun k => Rw.lenK hb7 (k := k)
  have lc := fun k => Rw.lenK hc7 (k := k)
  have ld := fun k => Rw.lenK hd7 (k := k)
  obtain ⟨a0, a01, a02, _, _, ⟨a03, a04, a05⟩, _, _, _⟩ := dread ha7 (i := 0) (by decide) (n := 0) rfl
  obtain ⟨a1, a11, a12, _⟩ := dread ha7 (i := 1) (by decide) (n := 1) rfl
  obtain ⟨a2, a21, a22, _, _, ⟨a23, a24, a25⟩, _, _, _⟩ := dread ha7 (i := 2) (by decide) (n := 2) rfl
  obtain ⟨b0, b01, b02, _, _, ⟨b03, b04, b05⟩, _, _, _⟩ := dread hb7 (i := 0) (by decide) (n := 0) rfl
  obtain ⟨c0, c01, c02, _, _, _, ⟨c03, c04, c05⟩, ⟨c06, c07, c08⟩, _⟩ := dread hc7 (i := 0) (by decide) (n := 0) rfl
  obtain ⟨d0, d01, d02, _, _, _, _, _, ⟨d03, d04, d05⟩⟩ := dread hd7 (i := 0) (by decide) (n := 0) rfl
  obtain ⟨d1, d11, d12, _, _, ⟨d13, d14, d15⟩, _, _, _⟩ := dread hd7 (i := 1) (by decide) (n := 1) rfl
  simp [la, lb, lc, ld, a01, a04, a05, a11, a12, a21, a24, a25, b01, b04, b05, c01, c04, c05, c07, c08, d01, d04, d05, d11, d14, d15, dlc]
  exact ⟨G, hs7, hk⟩
end Go.Proofs.YtmpncpamndhmcaaGreat
end
