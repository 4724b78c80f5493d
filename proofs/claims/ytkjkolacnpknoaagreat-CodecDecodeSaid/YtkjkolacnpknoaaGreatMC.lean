/-
  Several texts in one: C1; C2; C3; C4; C5; C6; C7; C8; C9; C10; C13; C14; C15; C17. Conditions: as each lemma states them.
-/
import Derived.Test.YtkjkolacnpknoaaGreatAbO
import Derived.Test.YtkjkolacnpknoaaGreatMW
import Derived.Test.YtkjkolacnpknoaaGreatMO
/-! Runs of equal numbers and their bytes. No program in sight; conditions: as each lemma states them. -/
section
namespace Go.Proofs.YtkjkolacnpknoaaGreat
open Go Go.Ab Go.RowKit
set_option linter.unusedSimpArgs false
set_option linter.unusedVariables false
set_option linter.unnecessarySimpa false


/-- How many numbers at the head of a list are x, at most k. -/
def rlen (x : Int) : List Int → Nat → Nat
  | y :: l, k + 1 => if y = x then rlen x l k + 1 else 0
  | _, _ => 0
theorem rlen_nil (x : Int) (k : Nat) : rlen x [] k = 0 := by unfold rlen; rfl
theorem rlen_le (x : Int) : ∀ (l : List Int) (k : Nat), rlen x l k ≤ k ∧ rlen x l k ≤ l.length
  | [], k => by rw [rlen_nil]; exact ⟨Nat.zero_le _, Nat.zero_le _⟩
  | y :: l, 0 => by unfold rlen; exact ⟨Nat.le_refl _, Nat.zero_le _⟩
  | y :: l, k + 1 => by
    unfold rlen
    have := rlen_le x l k
    split
    · simp only [List.length_cons]; omega
    · simp
theorem rlen_take (x : Int) : ∀ (l : List Int) (k : Nat), l.take (rlen x l k) = List.replicate (rlen x l k) x
  | [], k => by rw [rlen_nil]; rfl
  | y :: l, 0 => by unfold rlen; rfl
  | y :: l, k + 1 => by
    unfold rlen
    split
    · rename_i h; subst h; rw [List.take_succ_cons, rlen_take, List.replicate_succ]
    · rfl
theorem rlen_stop (x : Int) : ∀ (l : List Int) (k : Nat), rlen x l k < k → ∀ y, l[rlen x l k]? = some y → y ≠ x
  | [], k => by intro _ y h; simp at h
  | y :: l, 0 => by unfold rlen; intro h; omega
  | y :: l, k + 1 => by
    unfold rlen
    split
    · intro h z hz
      exact rlen_stop x l k (by omega) z (by simpa using hz)
    · rename_i h
      intro _ z hz
      simp at hz
      subst hz
      exact h
theorem rlen_rep (x : Int) (r : List Int) : ∀ (n k : Nat), n ≤ k → (n = k ∨ ∀ y, r[0]? = some y → y ≠ x) → rlen x (List.replicate n x ++ r) k = n
  | 0, 0, _, _ => by unfold rlen; cases r <;> rfl
  | 0, k + 1, _, h => by
    cases r with
    | nil => exact rlen_nil x _
    | cons y r =>
      unfold rlen
      rcases h with h | h
      · omega
      · rw [List.replicate_zero]
        show (if y = x then _ else 0) = 0
        rw [if_neg (h y rfl)]
  | n + 1, 0, h, _ => by omega
  | n + 1, k + 1, h, hr => by
    rw [List.replicate_succ, List.cons_append]
    unfold rlen
    rw [if_pos rfl, rlen_rep x r n k (by omega) (hr.imp (fun h => by omega) id)]
/-- The runs of a list. -/
def runsF : List Int → List (Nat × Int)
  | [] => []
  | x :: l => (rlen x l 254 + 1, x) :: runsF (l.drop (rlen x l 254))
termination_by l => l.length
decreasing_by simp only [List.length_drop, List.length_cons]; omega
def b4 (v : Int) : List Int := [v % 256, v / 256 % 256, v / 65536 % 256, v / 16777216 % 256]
def encR (rs : List (Nat × Int)) : List Int := rs.flatMap fun r => (r.1 : Int) :: b4 r.2
def expR (rs : List (Nat × Int)) : List Int := rs.flatMap fun r => List.replicate r.1 r.2
def val4 (a b c d : Int) : Int := a + 256 * (b + 256 * (c + 256 * d))
theorem encR_cons (r : Nat × Int) (rs : List (Nat × Int)) : encR (r :: rs) = (r.1 : Int) :: (b4 r.2 ++ encR rs) := rfl
theorem encR_app (a b : List (Nat × Int)) : encR (a ++ b) = encR a ++ encR b := by simp [encR]
theorem expR_app (a b : List (Nat × Int)) : expR (a ++ b) = expR a ++ expR b := by simp [expR]
theorem expR_cons (r : Nat × Int) (rs : List (Nat × Int)) : expR (r :: rs) = List.replicate r.1 r.2 ++ expR rs := rfl
theorem encR_len : ∀ rs, (encR rs).length = 5 * rs.length
  | [] => rfl
  | r :: rs => by rw [encR_cons, List.length_cons, List.length_append, encR_len rs, List.length_cons, show (b4 r.2).length = 4 from rfl]; omega
theorem exp_runs : ∀ l, expR (runsF l) = l
  | [] => by unfold runsF; rfl
  | x :: l => by
    have h := exp_runs (l.drop (rlen x l 254))
    unfold runsF
    rw [expR_cons, h, List.replicate_succ, List.cons_append, ← rlen_take, List.take_append_drop]
termination_by l => l.length
decreasing_by simp only [List.length_drop, List.length_cons]; omega
theorem runs_len : ∀ l, (runsF l).length ≤ l.length
  | [] => by unfold runsF; exact Nat.le_refl _
  | x :: l => by
    have h := runs_len (l.drop (rlen x l 254))
    unfold runsF
    rw [List.length_drop] at h
    simp only [List.length_cons]
    omega
termination_by l => l.length
decreasing_by simp only [List.length_drop, List.length_cons]; omega
def U32 (v : Int) : Prop := 0 ≤ v ∧ v < 4294967296
def U8 (v : Int) : Prop := 0 ≤ v ∧ v < 256
theorem val_b4 {v : Int} (h : U32 v) : val4 (v % 256) (v / 256 % 256) (v / 65536 % 256) (v / 16777216 % 256) = v := by unfold val4 U32 at *; omega
theorem b4_val {a b c d : Int} (ha : U8 a) (hb : U8 b) (hc : U8 c) (hd : U8 d) : b4 (val4 a b c d) = [a, b, c, d] ∧ U32 (val4 a b c d) := by
  unfold U8 at *
  have h : val4 a b c d % 256 = a ∧ val4 a b c d / 256 % 256 = b ∧ val4 a b c d / 65536 % 256 = c ∧ val4 a b c d / 16777216 % 256 = d ∧ U32 (val4 a b c d) := by
    unfold val4 U32
    omega
  unfold b4
  rw [h.1, h.2.1, h.2.2.1, h.2.2.2.1]
  exact ⟨rfl, h.2.2.2.2⟩
theorem b4_u8 {v : Int} (h : U32 v) : ∀ x ∈ b4 v, U8 x := by
  unfold b4 U32 at *
  intro x hx
  unfold U8
  simp at hx
  omega
/-- What becomes of bytes: the numbers, or the error's number. -/
def unrF (most : Int) : List Int → Int → Int → List Int → List Int × Int
  | [], _, _, out => (out, 0)
  | n :: a :: b :: c :: d :: r, last, size, out =>
    if n = 0 ∨ (size < 255 ∧ val4 a b c d = last) then ([], 3)
    else if most - out.length < n then ([], 5)
    else unrF most r (val4 a b c d) n (out ++ List.replicate n.toNat (val4 a b c d))
  | _ :: _, _, _, _ => ([], 4)
/-- Runs that follow a run of some size. -/
def ROk : Int → Int → List (Nat × Int) → Prop
  | _, _, [] => True
  | last, size, (n, v) :: r => 1 ≤ n ∧ n ≤ 255 ∧ U32 v ∧ ¬ (size < 255 ∧ v = last) ∧ ROk v n r
theorem runs_ok : ∀ (l : List Int) (last size : Int), (∀ x ∈ l, U32 x) → (size < 255 → ∀ y, l[0]? = some y → y ≠ last) → ROk last size (runsF l)
  | [], _, _, _, _ => by unfold runsF; trivial
  | x :: l, last, size, hu, hs => by
    have hle := rlen_le x l 254
    unfold runsF
    refine ⟨by omega, by omega, hu x (by simp), fun h => hs h.1 x rfl h.2, ?_⟩
    refine runs_ok _ _ _ (fun y hy => hu y (List.mem_cons_of_mem _ (List.mem_of_mem_drop hy))) fun hlt y hy => ?_
    rw [List.getElem?_drop] at hy
    exact rlen_stop x l 254 (by omega) y (by simpa using hy)
termination_by l => l.length
decreasing_by simp only [List.length_drop, List.length_cons]; omega
theorem runs_exp : ∀ (rs : List (Nat × Int)) (last size : Int), ROk last size rs → runsF (expR rs) = rs
  | [], _, _, _ => by show runsF [] = []; unfold runsF; rfl
  | (n, v) :: r, last, size, h => by
    obtain ⟨h1, h2, h3, h4, h5⟩ := h
    have ih := runs_exp r _ _ h5
    obtain ⟨k, rfl⟩ : ∃ k, n = k + 1 := ⟨n - 1, by omega⟩
    rw [expR_cons]
    simp only
    rw [List.replicate_succ, List.cons_append]
    have hr : rlen v (List.replicate k v ++ expR r) 254 = k := by
      refine rlen_rep v _ k 254 (by omega) ?_
      by_cases hk : k = 254
      · exact .inl hk
      · refine .inr fun y hy => ?_
        cases r with
        | nil => simp [expR] at hy
        | cons q r =>
          obtain ⟨m, u⟩ := q
          obtain ⟨g1, _, _, g4, _⟩ := h5
          obtain ⟨j, rfl⟩ : ∃ j, m = j + 1 := ⟨m - 1, by omega⟩
          rw [expR_cons] at hy
          simp [List.replicate_succ] at hy
          subst hy
          intro hy
          exact g4 ⟨by omega, hy⟩
    unfold runsF
    rw [hr, List.drop_left' (by simp), ih]
theorem unr_step {most n a b c d last size : Int} {r out : List Int} (h0 : ¬ n = 0) (h1 : ¬ (size < 255 ∧ val4 a b c d = last)) (h2 : ¬ most - out.length < n) :
    unrF most (n :: a :: b :: c :: d :: r) last size out = unrF most r (val4 a b c d) n (out ++ List.replicate n.toNat (val4 a b c d)) := by
  rw [unrF, if_neg (fun h => h.elim h0 h1), if_neg h2]
def lastR : List (Nat × Int) → Int → Int → Int × Int
  | [], last, size => (last, size)
  | (n, v) :: r, _, _ => lastR r v n
/-- Runs are read back. -/
theorem unr_enc (most : Int) : ∀ (rs : List (Nat × Int)) (last size : Int) (out t : List Int), ROk last size rs → (out.length : Int) + (expR rs).length ≤ most →
    unrF most (encR rs ++ t) last size out = unrF most t (lastR rs last size).1 (lastR rs last size).2 (out ++ expR rs)
  | [], last, size, out, t, _, _ => by simp [encR, expR, lastR]
  | (n, v) :: r, last, size, out, t, h, hm => by
    obtain ⟨h1, h2, h3, h4, h5⟩ := h
    have hv := val_b4 h3
    rw [expR_cons] at hm
    simp only [List.length_append, List.length_replicate] at hm
    rw [encR_cons, expR_cons]
    show unrF most ((n : Int) :: (v % 256) :: (v / 256 % 256) :: (v / 65536 % 256) :: (v / 16777216 % 256) :: (encR r ++ t)) last size out = _
    rw [unr_step (by omega) (by rw [hv]; exact h4) (by omega), hv, unr_enc most r _ _ _ t h5 (by simp; omega)]
    simp [lastR, List.append_assoc]
/-- Runs that are too many are refused. -/
theorem unr_many (most : Int) : ∀ (rs : List (Nat × Int)) (last size : Int) (out t : List Int), ROk last size rs → (out.length : Int) ≤ most → most < (out.length : Int) + (expR rs).length → unrF most (encR rs ++ t) last size out = ([], 5)
  | [], last, size, out, t, _, h0, hm => by simp [expR] at hm; omega
  | (n, v) :: r, last, size, out, t, h, h0, hm => by
    obtain ⟨h1, h2, h3, h4, h5⟩ := h
    have hv := val_b4 h3
    rw [expR_cons] at hm
    simp only [List.length_append, List.length_replicate] at hm
    rw [encR_cons]
    show unrF most ((n : Int) :: (v % 256) :: (v / 256 % 256) :: (v / 65536 % 256) :: (v / 16777216 % 256) :: (encR r ++ t)) last size out = _
    by_cases hl : most - out.length < n
    · rw [unrF, if_neg (by rw [hv]; exact fun h => h.elim (by omega) h4), if_pos hl]
    · rw [unr_step (by omega) (by rw [hv]; exact h4) hl, hv, unr_many most r _ _ _ t h5 (by simp; omega) (by simp; omega)]
theorem unr_short {most last size : Int} {out t : List Int} (h : t ≠ []) (h5 : t.length < 5) : unrF most t last size out = ([], 4) := by
  match t, h, h5 with
  | [a], _, _ => rw [unrF]; simp
  | [a, b], _, _ => rw [unrF]; simp
  | [a, b, c], _, _ => rw [unrF]; simp
  | [a, b, c, d], _, _ => rw [unrF]; simp
  | a :: b :: c :: d :: e :: r, _, h => simp at h; omega
/-- What was read was encoded so. -/
theorem unr_inv (most : Int) : ∀ (b : List Int) (last size : Int) (out u : List Int), (∀ x ∈ b, U8 x) → unrF most b last size out = (u, 0) → ∃ rs, b = encR rs ∧ ROk last size rs ∧ u = out ++ expR rs
  | [], last, size, out, u, _, h => by
    rw [unrF] at h
    injection h with h1 h2
    exact ⟨[], rfl, trivial, by simp [expR, h1]⟩
  | [a], _, _, _, _, _, h => by rw [unr_short (by simp) (by simp)] at h; injection h with h1 h2; cases h2
  | [a, b], _, _, _, _, _, h => by rw [unr_short (by simp) (by simp)] at h; injection h with h1 h2; cases h2
  | [a, b, c], _, _, _, _, _, h => by rw [unr_short (by simp) (by simp)] at h; injection h with h1 h2; cases h2
  | [a, b, c, d], _, _, _, _, _, h => by rw [unr_short (by simp) (by simp)] at h; injection h with h1 h2; cases h2
  | n :: a :: b :: c :: d :: r, last, size, out, u, hb, h => by
    rw [unrF] at h
    split at h
    · injection h with h1 h2; cases h2
    · rename_i hc
      split at h
      · injection h with h1 h2; cases h2
      · obtain ⟨rs, h1, h2, h3⟩ := unr_inv most r _ _ _ _ (fun x hx => hb x (by simp [hx])) h
        have hn : U8 n := hb n (by simp)
        have hv := b4_val (hb a (by simp)) (hb b (by simp)) (hb c (by simp)) (hb d (by simp))
        unfold U8 at hn
        refine ⟨(n.toNat, val4 a b c d) :: rs, ?_, ⟨by omega, by omega, hv.2, fun h => hc (.inr h), ?_⟩, ?_⟩
        · rw [encR_cons, ← h1]
          simp only
          rw [hv.1]
          simp
          omega
        · have : (n.toNat : Int) = n := by omega
          rw [this]; exact h2
        · rw [h3, expR_cons, List.append_assoc]
theorem encR_u8 : ∀ (rs : List (Nat × Int)) (last size : Int), ROk last size rs → ∀ x ∈ encR rs, U8 x
  | [], _, _, _, x, hx => by cases hx
  | (n, v) :: r, _, _, ⟨h1, h2, h3, _, h5⟩, x, hx => by
    rw [encR_cons] at hx
    rcases List.mem_cons.1 hx with rfl | hx
    · unfold U8; simp only; omega
    · rcases List.mem_append.1 hx with hx | hx
      · exact b4_u8 h3 x hx
      · exact encR_u8 r _ _ h5 x hx
end Go.Proofs.YtkjkolacnpknoaaGreat
end

/-! Numbers of bits, packed pixels. No program in sight; conditions: as each lemma states them. -/
section
namespace Go.Proofs.YtkjkolacnpknoaaGreat
open Go Go.Ab Go.RowKit
set_option linter.unusedSimpArgs false
set_option linter.unusedVariables false
set_option linter.unnecessarySimpa false


def orI (a b : Int) : Int := IntKind.u32.wrap (BitVec.ofInt 32 a ||| BitVec.ofInt 32 b).toNat
def xorI (a b : Int) : Int := IntKind.u32.wrap (BitVec.ofInt 32 a ^^^ BitVec.ofInt 32 b).toNat
theorem u32_wrap {n : Int} (h : U32 n) : IntKind.u32.wrap n = n := by
  unfold U32 at h
  unfold IntKind.wrap
  simp [IntKind.bits, IntKind.signed]
  omega
theorem u8_wrap (n : Int) : IntKind.u8.wrap n = n % 256 := by
  unfold IntKind.wrap
  simp [IntKind.bits, IntKind.signed]
theorem ofI_nat {a : Int} (h : U32 a) : (BitVec.ofInt 32 a).toNat = a.toNat := by
  unfold U32 at h
  rw [BitVec.toNat_ofInt]
  have h1 : ((2 ^ 32 : Nat) : Int) = 4294967296 := by decide
  rw [h1, Int.emod_eq_of_lt h.1 h.2]
theorem or_add {x y : Int} (k : Nat) (hx : 0 ≤ x) (hy : 0 ≤ y) (hk : y < 2 ^ k) (h : x * 2 ^ k + y < 4294967296) : orI (x * 2 ^ k) y = x * 2 ^ k + y := by
  have h0 : 0 ≤ x * 2 ^ k := Int.mul_nonneg hx (Int.pow_nonneg (by decide))
  have u1 : U32 (x * 2 ^ k) := ⟨h0, by omega⟩
  have u2 : U32 y := ⟨hy, by omega⟩
  have hor : (BitVec.ofInt 32 (x * 2 ^ k) ||| BitVec.ofInt 32 y).toNat = (x * 2 ^ k + y).toNat := by
    rw [BitVec.toNat_or, ofI_nat u1, ofI_nat u2]
    obtain ⟨X, rfl⟩ := Int.eq_ofNat_of_zero_le hx
    obtain ⟨Y, rfl⟩ := Int.eq_ofNat_of_zero_le hy
    have hY : Y < 2 ^ k := by exact_mod_cast hk
    have e1 : ((X : Int) * 2 ^ k).toNat = X * 2 ^ k := by
      have : ((X : Int) * 2 ^ k) = ((X * 2 ^ k : Nat) : Int) := by push_cast; rfl
      rw [this]; rfl
    have e2 : ((X : Int) * 2 ^ k + (Y : Int)).toNat = X * 2 ^ k + Y := by
      have : ((X : Int) * 2 ^ k + (Y : Int)) = ((X * 2 ^ k + Y : Nat) : Int) := by push_cast; rfl
      rw [this]; rfl
    rw [e1, e2]
    show X * 2 ^ k ||| Y = _
    rw [← Nat.shiftLeft_eq, Nat.shiftLeft_add_eq_or_of_lt hY]
  unfold orI
  rw [hor]
  have : ((x * 2 ^ k + y).toNat : Int) = x * 2 ^ k + y := by omega
  rw [this, u32_wrap ⟨by omega, h⟩]
theorem xor_u32 (a b : Int) : U32 (xorI a b) := by
  unfold xorI
  have h := (BitVec.ofInt 32 a ^^^ BitVec.ofInt 32 b).isLt
  rw [u32_wrap ⟨by omega, by omega⟩]
  exact ⟨by omega, by omega⟩
theorem xor_nat {a b : Int} : xorI a b = ((BitVec.ofInt 32 a ^^^ BitVec.ofInt 32 b).toNat : Int) := by
  have h := (BitVec.ofInt 32 a ^^^ BitVec.ofInt 32 b).isLt
  exact u32_wrap ⟨by omega, by omega⟩
theorem xor_xor {a b : Int} (hb : U32 b) : xorI a (xorI a b) = b := by
  rw [xor_nat, @xor_nat a b]
  have e : BitVec.ofInt 32 ((BitVec.ofInt 32 a ^^^ BitVec.ofInt 32 b).toNat : Int) = BitVec.ofInt 32 a ^^^ BitVec.ofInt 32 b := by
    rw [BitVec.ofInt_natCast, BitVec.ofNat_toNat, BitVec.setWidth_eq]
  rw [e, ← BitVec.xor_assoc, BitVec.xor_self, BitVec.zero_xor, ofI_nat hb]
  unfold U32 at hb
  omega
end Go.Proofs.YtkjkolacnpknoaaGreat
end

/-! Pixels, packed and unpacked; valid buffers. No program in sight; conditions: as each lemma states them. -/
section
namespace Go.Proofs.YtkjkolacnpknoaaGreat
open Go Go.Ab Go.RowKit
set_option linter.unusedSimpArgs false
set_option linter.unusedVariables false
set_option linter.unnecessarySimpa false


structure Px where
  r : Int
  g : Int
  b : Int
  a : Int
  deriving DecidableEq
abbrev v8 (n : Int) : AV := .pl (.int .u8 n)
abbrev v32 (n : Int) : AV := .pl (.int .u32 n)
def pxc (p : Px) : List AV := [v8 p.r, v8 p.g, v8 p.b, v8 p.a]
theorem pxc_l (p : Px) : (pxc p).length = 4 := rfl
theorem pxc_t4 (p : Px) : (pxc p).take 4 = pxc p := rfl
theorem pxc_ag (a b c d : Int) : AV.ag [v8 a, v8 b, v8 c, v8 d] = .ag (pxc ⟨a, b, c, d⟩) := rfl
def pxOk (p : Px) : Bool := decide (p.r ≤ p.a) && (decide (p.g ≤ p.a) && decide (p.b ≤ p.a))
def szOk (n : Int) : Bool := decide (1 ≤ n) && decide (n ≤ 256)
def bufOk (w h : Int) (px : List Px) : Bool := szOk w && (szOk h && (decide ((px.length : Int) = w * h) && px.all pxOk))
def clp (p : Px) : Px := ⟨min p.r p.a, min p.g p.a, min p.b p.a, p.a⟩
def PB8 (p : Px) : Prop := U8 p.r ∧ U8 p.g ∧ U8 p.b ∧ U8 p.a
theorem pxOk_iff {p : Px} : pxOk p = true ↔ p.r ≤ p.a ∧ p.g ≤ p.a ∧ p.b ≤ p.a := by simp [pxOk]
theorem clp_ok {p : Px} (h : pxOk p = true) : clp p = p := by
  have := pxOk_iff.1 h
  obtain ⟨r, g, b, a⟩ := p
  obtain ⟨h1, h2, h3⟩ := this
  unfold clp
  simp only at *
  rw [Int.min_eq_left h1, Int.min_eq_left h2, Int.min_eq_left h3]
theorem clp_pxOk (p : Px) : pxOk (clp p) = true := by rw [pxOk_iff]; simp only [clp]; omega
theorem clp_b8 {p : Px} (h : PB8 p) : PB8 (clp p) := by unfold PB8 U8 clp at *; simp only; omega
def rawP (p : Px) : Int := ((p.a * 256 + p.r) * 256 + p.g) * 256 + p.b
def packF (p : Px) : Int := rawP (clp p)
def unpR (v : Int) : Px := ⟨v / 65536 % 256, v / 256 % 256, v % 256, v / 16777216 % 256⟩
def unpF (v : Int) : Px := clp (unpR v)
theorem raw_u32 {p : Px} (h : PB8 p) : U32 (rawP p) := by unfold PB8 U8 U32 rawP at *; omega
theorem pack_u32 {p : Px} (h : PB8 p) : U32 (packF p) := raw_u32 (clp_b8 h)
theorem unpR_raw {p : Px} (h : PB8 p) : unpR (rawP p) = p := by
  obtain ⟨r, g, b, a⟩ := p
  unfold PB8 U8 at h
  simp only [unpR, rawP, Px.mk.injEq] at *
  omega
theorem unpR_b8 (v : Int) : PB8 (unpR v) := by unfold PB8 U8 unpR; simp only; omega
theorem unpF_b8 (v : Int) : PB8 (unpF v) := clp_b8 (unpR_b8 v)
theorem unp_pack {p : Px} (h : pxOk p = true) (hb : PB8 p) : unpF (packF p) = p := by
  unfold unpF packF
  rw [clp_ok h, unpR_raw hb, clp_ok h]
theorem pack_inj {p q : Px} (hp : pxOk p = true) (hq : pxOk q = true) (bp : PB8 p) (bq : PB8 q) (h : packF p = packF q) : p = q := by
  rw [← unp_pack hp bp, h, unp_pack hq bq]
theorem unpF_ok (v : Int) : pxOk (unpF v) = true := clp_pxOk _
/-- Pixels packed bit by bit. -/
theorem pack_bits {p : Px} (h : PB8 p) : orI (orI (orI (p.a * 16777216) (p.r * 65536)) (p.g * 256)) p.b = rawP p := by
  unfold PB8 U8 at h
  have h1 := or_add (x := p.a) (y := p.r * 65536) 24 (by omega) (by omega) (by omega) (by omega)
  have h2 := or_add (x := p.a * 256 + p.r) (y := p.g * 256) 16 (by omega) (by omega) (by omega) (by omega)
  have h3 := or_add (x := (p.a * 256 + p.r) * 256 + p.g) (y := p.b) 8 (by omega) (by omega) (by omega) (by omega)
  have e1 : p.a * 2 ^ 24 + p.r * 65536 = (p.a * 256 + p.r) * 2 ^ 16 := by omega
  have e2 : (p.a * 256 + p.r) * 2 ^ 16 + p.g * 256 = ((p.a * 256 + p.r) * 256 + p.g) * 2 ^ 8 := by omega
  have e0 : p.a * 16777216 = p.a * 2 ^ 24 := by omega
  rw [e0, h1, e1, h2, e2, h3]
  unfold rawP
  omega
theorem bufOk_iff {w h : Int} {l : List Px} : bufOk w h l = true ↔ (1 ≤ w ∧ w ≤ 256) ∧ (1 ≤ h ∧ h ≤ 256) ∧ (l.length : Int) = w * h ∧ ∀ p ∈ l, pxOk p = true := by
  simp only [bufOk, szOk, Bool.and_eq_true, decide_eq_true_eq, List.all_eq_true]
end Go.Proofs.YtkjkolacnpknoaaGreat
end

/-! The positions of a region's pixels. No program in sight; conditions: as each lemma states them. -/
section
namespace Go.Proofs.YtkjkolacnpknoaaGreat
open Go Go.Ab Go.RowKit
set_option linter.unusedSimpArgs false
set_option linter.unusedVariables false
set_option linter.unnecessarySimpa false


def rngI (a b : Int) : List Int := (List.range (b - a).toNat).map fun (i : Nat) => a + (i : Int)
theorem rngI_mem {a b x : Int} : x ∈ rngI a b ↔ a ≤ x ∧ x < b := by
  unfold rngI
  simp only [List.mem_map, List.mem_range]
  constructor
  · rintro ⟨i, h, rfl⟩; omega
  · rintro ⟨h1, h2⟩; exact ⟨(x - a).toNat, by omega, by omega⟩
theorem rngI_len (a b : Int) : (rngI a b).length = (b - a).toNat := by simp [rngI]
theorem rngI_nil {a b : Int} (h : b ≤ a) : rngI a b = [] := by
  rw [← List.length_eq_zero_iff, rngI_len]; omega
theorem rngI_cons {a b : Int} (h : a < b) : rngI a b = a :: rngI (a + 1) b := by
  unfold rngI
  obtain ⟨n, hn⟩ : ∃ n, (b - a).toNat = n + 1 := ⟨(b - a).toNat - 1, by omega⟩
  have e : (b - (a + 1)).toNat = n := by omega
  rw [hn, e, List.range_succ_eq_map, List.map_cons, List.map_map]
  congr 1
  · simp
  · refine List.map_congr_left fun i _ => ?_
    simp only [Function.comp]
    omega
theorem rngI_pw (a b : Int) : (rngI a b).Pairwise (· < ·) := by
  unfold rngI
  rw [List.pairwise_map]
  exact List.pairwise_lt_range.imp fun h => by omega
def rowP (w y x0 x1 : Int) : List Int := (rngI x0 x1).map fun x => y * w + x
def posR (w : Int) (r : R) : List Int := (rngI r.y0 r.y1).flatMap fun y => rowP w y r.x0 r.x1
def posF (l : List R) (w : Int) : List Int := l.flatMap (posR w)
theorem posF_cons (r : R) (l : List R) (w : Int) : posF (r :: l) w = posR w r ++ posF l w := rfl
theorem rowP_mem {w y x0 x1 i : Int} : i ∈ rowP w y x0 x1 ↔ ∃ x, (x0 ≤ x ∧ x < x1) ∧ i = y * w + x := by
  unfold rowP
  simp only [List.mem_map, rngI_mem]
  exact ⟨fun ⟨x, h, e⟩ => ⟨x, h, e.symm⟩, fun ⟨x, h, e⟩ => ⟨x, h, e.symm⟩⟩
theorem posR_mem {w i : Int} {r : R} : i ∈ posR w r ↔ ∃ y x, (r.y0 ≤ y ∧ y < r.y1) ∧ (r.x0 ≤ x ∧ x < r.x1) ∧ i = y * w + x := by
  unfold posR
  simp only [List.mem_flatMap, rngI_mem, rowP_mem]
  exact ⟨fun ⟨y, h1, x, h2, h3⟩ => ⟨y, x, h1, h2, h3⟩, fun ⟨y, x, h1, h2, h3⟩ => ⟨y, h1, x, h2, h3⟩⟩
def InFr (w h : Int) (l : List R) : Prop := ∀ r ∈ l, (0 ≤ r.x0 ∧ r.x1 ≤ w) ∧ 0 ≤ r.y0 ∧ r.y1 ≤ h
theorem co_eq {w x y : Int} (h0 : 0 ≤ x) (h1 : x < w) : (y * w + x) / w = y ∧ (y * w + x) % w = x := by
  have e : (y * w + x) / w = y := by
    rw [Int.add_comm, Int.add_mul_ediv_right _ _ (by omega), Int.ediv_eq_zero_of_lt h0 h1, Int.zero_add]
  refine ⟨e, ?_⟩
  rw [Int.emod_def, e, Int.mul_comm w y]
  omega
theorem co_rng {w h x y : Int} (x0 : 0 ≤ x) (x1 : x < w) (y0 : 0 ≤ y) (y1 : y < h) : 0 ≤ y * w + x ∧ y * w + x < w * h := by
  have a1 : 0 ≤ y * w := Int.mul_nonneg y0 (by omega)
  have a2 : y * w ≤ (h - 1) * w := Int.mul_le_mul_of_nonneg_right (by omega) (by omega)
  have a3 : (h - 1) * w = w * h - w := by rw [Int.sub_mul, Int.mul_comm h w]; omega
  omega
theorem posF_mem {w h i : Int} {l : List R} (hf : InFr w h l) : i ∈ posF l w ↔ (0 ≤ i ∧ i < w * h) ∧ ptF l (i % w) (i / w) = true := by
  unfold posF
  simp only [List.mem_flatMap]
  constructor
  · rintro ⟨r, hr, hi⟩
    obtain ⟨y, x, hy, hx, rfl⟩ := posR_mem.1 hi
    have hf := hf r hr
    have hc := co_eq (w := w) (x := x) (y := y) (by omega) (by omega)
    refine ⟨co_rng (by omega) (by omega) (by omega) (by omega), ?_⟩
    rw [hc.1, hc.2, ptF_iff]
    exact ⟨r, hr, hx, hy⟩
  · rintro ⟨⟨h0, h1⟩, hp⟩
    obtain ⟨r, hr, hx, hy⟩ := ptF_iff.1 hp
    refine ⟨r, hr, posR_mem.2 ⟨_, _, hy, hx, ?_⟩⟩
    have := Int.emod_def i w
    rw [Int.mul_comm] at this
    omega
theorem posF_in {w h i : Int} {l : List R} (hf : InFr w h l) (hi : i ∈ posF l w) : 0 ≤ i ∧ i < w * h := ((posF_mem hf).1 hi).1
theorem flat_len_const {α β : Type} (f : α → List β) (n : Nat) : ∀ l : List α, (∀ a ∈ l, (f a).length = n) → (l.flatMap f).length = l.length * n
  | [], _ => by simp
  | a :: l, h => by
    rw [List.flatMap_cons, List.length_append, h a (by simp), flat_len_const f n l fun b hb => h b (by simp [hb]), List.length_cons, Nat.succ_mul]
    omega
theorem posR_len {w : Int} {r : R} (h1 : r.x0 ≤ r.x1) (h2 : r.y0 ≤ r.y1) : ((posR w r).length : Int) = areaR r := by
  unfold posR
  rw [flat_len_const _ (r.x1 - r.x0).toNat _ fun y _ => by simp [rowP, rngI_len], rngI_len, Int.natCast_mul, Int.toNat_of_nonneg (by omega), Int.toNat_of_nonneg (by omega), Int.mul_comm]
  rfl
theorem posF_len {w : Int} : ∀ {l : List R}, (∀ r ∈ l, rempty r = false) → ((posF l w).length : Int) = areaF l
  | [], _ => rfl
  | r :: l, h => by
    have hr := rempty_ok r (h r (by simp))
    have ih := posF_len (w := w) (l := l) fun s hs => h s (by simp [hs])
    have e2 : areaF (r :: l) = areaR r + areaF l := by simp [areaF]
    rw [posF_cons, List.length_append, e2, ← ih, ← posR_len (w := w) (by omega) (by omega)]
    simp
theorem posF_nodup {w h : Int} {l : List R} (hf : InFr w h l) (ha : l.Pairwise Apart) : (posF l w).Nodup := by
  unfold posF
  refine List.pairwise_flatMap.2 ⟨fun r hr => ?_, ?_⟩
  · have hf := hf r hr
    unfold posR
    refine List.pairwise_flatMap.2 ⟨fun y _ => ?_, ?_⟩
    · unfold rowP
      rw [List.pairwise_map]
      exact (rngI_pw _ _).imp fun h => by omega
    · refine (rngI_pw r.y0 r.y1).imp fun {a b} hab i hi j hj => ?_
      obtain ⟨x, hx, rfl⟩ := rowP_mem.1 hi
      obtain ⟨z, hz, rfl⟩ := rowP_mem.1 hj
      intro e
      have h1 := co_eq (w := w) (x := x) (y := a) (by omega) (by omega)
      have h2 := co_eq (w := w) (x := z) (y := b) (by omega) (by omega)
      rw [e, h2.1] at h1
      omega
  · have : l.Pairwise (fun a b => Apart a b ∧ a ∈ l ∧ b ∈ l) := by
      refine List.Pairwise.imp_of_mem (fun {a b} ha hb h => ⟨h, ha, hb⟩) ha
    refine this.imp fun {a b} ⟨hab, ma, mb⟩ i hi j hj => ?_
    obtain ⟨y, x, hy, hx, rfl⟩ := posR_mem.1 hi
    obtain ⟨v, u, hv, hu, rfl⟩ := posR_mem.1 hj
    have fa := hf a ma
    have fb := hf b mb
    intro e
    have h1 := co_eq (w := w) (x := x) (y := y) (by omega) (by omega)
    have h2 := co_eq (w := w) (x := u) (y := v) (by omega) (by omega)
    rw [e, h2.1, h2.2] at h1
    obtain ⟨rfl, rfl⟩ := h1
    exact hab _ _ ⟨inn_iff.2 ⟨hx, hy⟩, inn_iff.2 ⟨hu, hv⟩⟩
/-! ### What is read and written at positions -/
def getP (l : List Px) (i : Int) : Px := l.getD i.toNat ⟨0, 0, 0, 0⟩
def diffF (o n : List Px) (ps : List Int) : List Int := ps.map fun i => xorI (packF (getP o i)) (packF (getP n i))
def putF (n : List Px) (out : List Px) (ps : List Int) : List Px := ps.foldl (fun out i => out.set i.toNat (getP n i)) out
def applyF (o : List Px) : List Int → List Int → List Px → Option (List Px)
  | [], _, out => some out
  | i :: ps, v :: d, out => if packF (unpF (xorI (packF (getP o i)) v)) = xorI (packF (getP o i)) v then applyF o ps d (out.set i.toNat (unpF (xorI (packF (getP o i)) v))) else none
  | _ :: _, [], _ => none
def PxsOk (l : List Px) : Prop := ∀ p ∈ l, pxOk p = true ∧ PB8 p
theorem zero_ok : pxOk ⟨0, 0, 0, 0⟩ = true ∧ PB8 ⟨0, 0, 0, 0⟩ := ⟨rfl, by unfold PB8 U8; simp⟩
theorem getP_ok {l : List Px} (h : PxsOk l) (i : Int) : pxOk (getP l i) = true ∧ PB8 (getP l i) := by
  unfold getP
  rw [List.getD_eq_getElem?_getD]
  cases e : l[i.toNat]? with
  | none => exact zero_ok
  | some p => exact h p (List.mem_of_getElem? e)
theorem apply_diff {o n : List Px} (hn : PxsOk n) : ∀ (ps : List Int) (out : List Px), applyF o ps (diffF o n ps) out = some (putF n out ps)
  | [], out => rfl
  | i :: ps, out => by
    have h := getP_ok hn i
    show (if packF (unpF (xorI _ (xorI _ _))) = xorI _ (xorI _ _) then _ else none) = _
    rw [xor_xor (pack_u32 h.2), unp_pack h.1 h.2, if_pos rfl]
    exact apply_diff hn ps _
theorem put_len (n : List Px) : ∀ (ps : List Int) (out : List Px), (putF n out ps).length = out.length
  | [], _ => rfl
  | i :: ps, out => by
    show (putF n (out.set _ _) ps).length = _
    rw [put_len n ps, List.length_set]
theorem put_get (n : List Px) : ∀ (ps : List Int) (out : List Px) (k : Nat), (∀ i ∈ ps, 0 ≤ i) → k < out.length → (putF n out ps)[k]? = if (k : Int) ∈ ps then some (getP n k) else out[k]?
  | [], out, k, _, _ => by simp [putF]
  | i :: ps, out, k, h0, hk => by
    show (putF n (out.set _ _) ps)[k]? = _
    rw [put_get n ps _ k (fun j hj => h0 j (by simp [hj])) (by rw [List.length_set]; exact hk)]
    have hi := h0 i (by simp)
    by_cases hm : (k : Int) ∈ ps
    · rw [if_pos hm, if_pos (by simp [hm])]
    · rw [if_neg hm]
      by_cases he : (k : Int) = i
      · subst he
        rw [if_pos (by simp)]
        have : (k : Int).toNat = k := by omega
        rw [this, List.getElem?_set_self hk]
      · rw [if_neg (by simp [hm, he]), List.getElem?_set_ne (by omega)]
theorem put_all {o n : List Px} {ps : List Int} (hl : o.length = n.length) (h0 : ∀ i ∈ ps, 0 ≤ i) (hc : ∀ k : Nat, k < o.length → ¬ (k : Int) ∈ ps → o[k]? = n[k]?) : putF n o ps = n := by
  refine List.ext_getElem? fun k => ?_
  by_cases hk : k < o.length
  · rw [put_get n ps o k h0 hk]
    by_cases hm : (k : Int) ∈ ps
    · rw [if_pos hm]
      have : (k : Int).toNat = k := by omega
      unfold getP
      rw [this, List.getD_eq_getElem?_getD, List.getElem?_eq_getElem (by omega)]
      rfl
    · rw [if_neg hm, hc k hk hm]
  · rw [List.getElem?_eq_none (by rw [put_len]; omega), List.getElem?_eq_none (by omega)]
theorem apply_inv {o : List Px} : ∀ (ps d : List Int) (out out' : List Px), applyF o ps d out = some out' → ps.Nodup → (∀ i ∈ ps, 0 ≤ i ∧ i < out.length) → d.length = ps.length → (∀ v ∈ d, U32 v) →
    diffF o out' ps = d ∧ out'.length = out.length ∧ (PxsOk out → PxsOk out') ∧ ∀ k : Nat, ¬ (k : Int) ∈ ps → out'[k]? = out[k]?
  | [], d, out, out', h, _, _, hd, _ => by
    obtain rfl := Option.some.inj h
    have : d = [] := List.length_eq_zero_iff.1 hd
    subst this
    exact ⟨rfl, rfl, id, fun _ _ => rfl⟩
  | i :: ps, [], out, out', h, _, _, hd, _ => by simp at hd
  | i :: ps, v :: d, out, out', h, hn, hr, hd, hu => by
    rw [applyF] at h
    split at h
    · rename_i hp
      obtain ⟨n1, n2⟩ := List.nodup_cons.1 hn
      have hri := hr i (by simp)
      obtain ⟨h1, h2, h3, h4⟩ := apply_inv ps d _ _ h n2 (fun j hj => by rw [List.length_set]; exact hr j (by simp [hj])) (by simpa using hd) (fun w hw => hu w (by simp [hw]))
      have hi : (i.toNat : Int) = i := by omega
      have hg : getP out' i = unpF (xorI (packF (getP o i)) v) := by
        have := h4 i.toNat (by rw [hi]; exact n1)
        unfold getP at this ⊢
        rw [List.getD_eq_getElem?_getD, this, List.getElem?_set_self (by omega)]
        rfl
      refine ⟨?_, by rw [h2, List.length_set], fun ho => h3 fun p hp => ?_, fun k hk => ?_⟩
      · unfold diffF at h1 ⊢
        rw [List.map_cons, h1, hg, hp, xor_xor (hu v (by simp))]
      · rcases List.mem_or_eq_of_mem_set hp with hp | rfl
        · exact ho p hp
        · exact ⟨unpF_ok _, unpF_b8 _⟩
      · rw [h4 k (fun h => hk (by simp [h])), List.getElem?_set_ne (by intro e; exact hk (by simp [← e, hi]))]
    · cases h
end Go.Proofs.YtkjkolacnpknoaaGreat
end

/-! What encoding and decoding compute, and their laws. No program in sight; conditions: as each lemma states them. -/
section
namespace Go.Proofs.YtkjkolacnpknoaaGreat
open Go Go.Ab Go.RowKit
set_option linter.unusedSimpArgs false
set_option linter.unusedVariables false
set_option linter.unnecessarySimpa false


instance : DecidableEq R := fun a b => if h : a.x0 = b.x0 ∧ a.y0 = b.y0 ∧ a.x1 = b.x1 ∧ a.y1 = b.y1 then isTrue (by obtain ⟨a0, a1, a2, a3⟩ := a; obtain ⟨b0, b1, b2, b3⟩ := b; simp only at h; obtain ⟨rfl, rfl, rfl, rfl⟩ := h; rfl) else isFalse (by rintro rfl; exact h ⟨rfl, rfl, rfl, rfl⟩)
structure Bf where
  w : Int
  h : Int
  px : List Px
def bOk (b : Bf) : Bool := bufOk b.w b.h b.px
def zB : Bf := ⟨0, 0, []⟩
def fr (w h : Int) : R := ⟨0, 0, w, h⟩
def le2 (n : Int) : List Int := [n % 256, n / 256 % 256]
def rb (r : R) : List Int := le2 r.x0 ++ (le2 r.y0 ++ (le2 r.x1 ++ le2 r.y1))
def hdr (l : List R) : List Int := le2 l.length ++ l.flatMap rb
def v2 (a b : Int) : Int := a + 256 * b
def parseR : Nat → List Int → List R
  | n + 1, a :: a' :: b :: b' :: c :: c' :: d :: d' :: t => ⟨v2 a a', v2 b b', v2 c c', v2 d d'⟩ :: parseR n t
  | _, _ => []
def okL (w h : Int) (l : List R) : Bool := decide (canonF l = l) && l.all fun r => decide (r.x1 ≤ w) && decide (r.y1 ≤ h)
def rectsM (w h : Int) : List Int → (List R × List Int) × Int
  | a :: c :: t => if 256 < v2 a c then (([], []), 3) else if t.length < 8 * (v2 a c).toNat then (([], []), 4)
    else if okL w h (parseR (v2 a c).toNat t) = true then ((parseR (v2 a c).toNat t, t.drop (8 * (v2 a c).toNat)), 0) else (([], []), 3)
  | _ => (([], []), 4)
def decR (o : Bf) (l : List R) (rest : List Int) : Bf × Int :=
  if (unrF (areaF l) rest 0 255 []).2 = 5 then (zB, 3) else if (unrF (areaF l) rest 0 255 []).2 ≠ 0 then (zB, (unrF (areaF l) rest 0 255 []).2)
  else if ((unrF (areaF l) rest 0 255 []).1.length : Int) < areaF l then (zB, 4)
  else match applyF o.px (posF l o.w) (unrF (areaF l) rest 0 255 []).1 o.px with
    | some px => (⟨o.w, o.h, px⟩, 0)
    | none => (zB, 15)
def decM (o : Bf) (b : List Int) : Bf × Int :=
  if bOk o = true then (if (rectsM o.w o.h b).2 ≠ 0 then (zB, (rectsM o.w o.h b).2) else decR o (rectsM o.w o.h b).1.1 (rectsM o.w o.h b).1.2) else (zB, 15)
def covB (o n : Bf) (l : List R) : Bool := (List.range o.px.length).all fun k => decide ((k : Int) ∈ posF l o.w) || decide (o.px[k]? = n.px[k]?)
def encL (o n : Bf) (l : List R) : List Int := hdr l ++ encR (runsF (diffF o.px n.px (posF l o.w)))
def encM (o n : Bf) (dam : List R) : List Int × Int :=
  if (bOk o && bOk n) = true then (if o.w = n.w ∧ o.h = n.h then
    (if 256 < (modF 2 dam [fr o.w o.h]).length then ([], 5) else if covB o n (modF 2 dam [fr o.w o.h]) = true then (encL o n (modF 2 dam [fr o.w o.h]), 0) else ([], 2))
  else ([], 2)) else ([], 15)
theorem km2 : kM 2 false false = false := rfl
theorem km2' (x y : Bool) : kM 2 x y = (x && y) := by unfold kM; simp
/-! ### The region -/
theorem rects_canon {bs : List Bd} (h : CanB bs) (hc : ∀ r ∈ rectsF bs, rempty r = false) : canonF (rectsF bs) = rectsF bs := by
  have e : bandsF orF (rectsF bs) [] = bs := canb_uniq (canon_can _) h fun x y => by
    rw [canon_inB, cl_self hc, pt_rects]
  show rectsF (bandsF orF (rectsF bs) []) = _
  rw [e]
theorem fr_clean {w h : Int} (hw : 1 ≤ w ∧ w ≤ 256) (hh : 1 ≤ h ∧ h ≤ 256) : cl [fr w h] = [fr w h] := by
  refine cl_self fun r hr => ?_
  rw [List.mem_singleton] at hr
  subst hr
  have e : fr w h = ⟨0, 0, w, h⟩ := rfl
  rw [e]
  simp [rempty, rvalid, okc]
  omega
theorem fr_pt {w h x y : Int} : ptF [fr w h] x y = true ↔ (0 ≤ x ∧ x < w) ∧ 0 ≤ y ∧ y < h := by
  rw [ptF_iff]
  simp [fr]
/-- A region that is cut with an area. -/
structure Cut (w h : Int) (dam l : List R) : Prop where
  can : canonF l = l
  ne : ∀ r ∈ l, rempty r = false
  fr : InFr w h l
  ap : l.Pairwise Apart
  pt : ∀ x y, ptF l x y = true ↔ ptF (cl dam) x y = true ∧ (0 ≤ x ∧ x < w) ∧ 0 ≤ y ∧ y < h
theorem mod_cut {w h : Int} (hw : 1 ≤ w ∧ w ≤ 256) (hh : 1 ≤ h ∧ h ≤ 256) (dam : List R) : Cut w h dam (modF 2 dam [fr w h]) := by
  obtain ⟨hb, hp⟩ := bands_can (kf := kM 2) rfl dam [fr w h]
  have hpt : ∀ x y, InB (bandsF (kM 2) dam [fr w h]) x y ↔ ptF (cl dam) x y = true ∧ (0 ≤ x ∧ x < w) ∧ 0 ≤ y ∧ y < h := fun x y => by
    rw [hp, km2', Bool.and_eq_true, fr_clean hw hh, fr_pt]
  have hne : ∀ r ∈ modF 2 dam [fr w h], rempty r = false := rects_clean hb fun x y hxy => by
    have := ((hpt x y).1 hxy).2
    omega
  have hpt2 : ∀ x y, ptF (modF 2 dam [fr w h]) x y = true ↔ ptF (cl dam) x y = true ∧ (0 ≤ x ∧ x < w) ∧ 0 ≤ y ∧ y < h := fun x y => pt_rects.trans (hpt x y)
  refine ⟨rects_canon hb hne, hne, fun r hr => ?_, rects_apart hb, hpt2⟩
  have h0 := rempty_ok r (hne r hr)
  have k1 := ((hpt2 r.x0 r.y0).1 (ptF_iff.2 ⟨r, hr, by omega, by omega⟩)).2
  have k2 := ((hpt2 (r.x1 - 1) (r.y1 - 1)).1 (ptF_iff.2 ⟨r, hr, by omega, by omega⟩)).2
  omega
theorem canon_apart {l : List R} (h : canonF l = l) : l.Pairwise Apart := by
  have := rects_apart (canon_can l)
  rw [show rectsF (bandsF orF l []) = l from h] at this
  exact this
theorem canon_nemp {l : List R} (h : canonF l = l) : ∀ r ∈ l, rempty r = false := by
  have := canon_clean l
  rw [h] at this
  exact this
theorem mod_self {w h : Int} (hw : 1 ≤ w ∧ w ≤ 256) (hh : 1 ≤ h ∧ h ≤ 256) {l : List R} (hc : canonF l = l) (hf : InFr w h l) : modF 2 l [fr w h] = l := by
  obtain ⟨hb, hp⟩ := bands_can (kf := kM 2) rfl l [fr w h]
  have e : bandsF (kM 2) l [fr w h] = bandsF orF l [] := canb_uniq hb (canon_can l) fun x y => by
    rw [hp, km2', Bool.and_eq_true, fr_clean hw hh, fr_pt, canon_inB, cl_self (canon_nemp hc)]
    constructor
    · exact fun h => h.1
    · intro h
      refine ⟨h, ?_⟩
      obtain ⟨r, hr, h1, h2⟩ := ptF_iff.1 h
      have := hf r hr
      omega
  show rectsF (bandsF (kM 2) l [fr w h]) = l
  rw [e]
  exact hc
/-! ### The head of an encoding -/
def W16 (n : Int) : Prop := 0 ≤ n ∧ n < 65536
theorem v2_le2 {n : Int} (h : W16 n) : v2 (n % 256) (n / 256 % 256) = n := by unfold v2 W16 at *; omega
theorem le2_v2 {a b : Int} (ha : U8 a) (hb : U8 b) : le2 (v2 a b) = [a, b] ∧ W16 (v2 a b) := by
  unfold U8 at *
  have h : v2 a b % 256 = a ∧ v2 a b / 256 % 256 = b ∧ W16 (v2 a b) := by unfold v2 W16; omega
  unfold le2
  rw [h.1, h.2.1]
  exact ⟨rfl, h.2.2⟩
theorem le2_u8 (n : Int) : ∀ x ∈ le2 n, U8 x := by
  intro x hx
  unfold le2 at hx
  simp at hx
  unfold U8
  omega
theorem rb_len (r : R) : (rb r).length = 8 := rfl
theorem rbs_len : ∀ l : List R, (l.flatMap rb).length = 8 * l.length
  | [] => rfl
  | r :: l => by rw [List.flatMap_cons, List.length_append, rb_len, rbs_len l, List.length_cons]; omega
theorem hdr_len (l : List R) : (hdr l).length = 2 + 8 * l.length := by
  unfold hdr
  rw [List.length_append, rbs_len]; rfl
theorem parse_rbs : ∀ (l : List R) (t : List Int), (∀ r ∈ l, W16 r.x0 ∧ W16 r.y0 ∧ W16 r.x1 ∧ W16 r.y1) → parseR l.length (l.flatMap rb ++ t) = l
  | [], t, _ => by unfold parseR; rfl
  | r :: l, t, h => by
    obtain ⟨h0, h1, h2, h3⟩ := h r (by simp)
    have ih := parse_rbs l t fun s hs => h s (by simp [hs])
    show parseR (l.length + 1) ((r.x0 % 256) :: (r.x0 / 256 % 256) :: (r.y0 % 256) :: (r.y0 / 256 % 256) :: (r.x1 % 256) :: (r.x1 / 256 % 256) :: (r.y1 % 256) :: (r.y1 / 256 % 256) :: (l.flatMap rb ++ t)) = _
    rw [parseR, ih, v2_le2 h0, v2_le2 h1, v2_le2 h2, v2_le2 h3]
theorem parse_len : ∀ (n : Nat) (t : List Int), 8 * n ≤ t.length → (parseR n t).length = n
  | 0, t, _ => by unfold parseR; rfl
  | n + 1, t, h => by
    match t, h with
    | a :: a' :: b :: b' :: c :: c' :: d :: d' :: t, h => rw [parseR, List.length_cons, parse_len n t (by simp at h; omega)]
    | [], h => simp at h
    | [a], h => simp at h; omega
    | [a, b], h => simp at h; omega
    | [a, b, c], h => simp at h; omega
    | [a, b, c, d], h => simp at h; omega
    | [a, b, c, d, e], h => simp at h; omega
    | [a, b, c, d, e, f], h => simp at h; omega
    | [a, b, c, d, e, f, g], h => simp at h; omega
def at2 (b : List Int) (i : Nat) : Int := v2 (b.getD i 0) (b.getD (i + 1) 0)
theorem parse_get : ∀ (n : Nat) (t : List Int) (i : Nat), 8 * n ≤ t.length → i < n → (parseR n t)[i]? = some ⟨at2 t (8 * i), at2 t (8 * i + 2), at2 t (8 * i + 4), at2 t (8 * i + 6)⟩
  | 0, t, i, _, h => by omega
  | n + 1, t, i, h, hi => by
    match t, h with
    | a :: a' :: b :: b' :: c :: c' :: d :: d' :: t, h =>
      rw [parseR]
      cases i with
      | zero => rfl
      | succ i =>
        rw [List.getElem?_cons_succ, parse_get n t i (by simp at h; omega) (by omega)]
        have e : ∀ k, at2 (a :: a' :: b :: b' :: c :: c' :: d :: d' :: t) (8 * (i + 1) + k) = at2 t (8 * i + k) := fun k => by
          unfold at2
          have e1 : 8 * (i + 1) + k = (8 * i + k) + 8 := by omega
          rw [e1]
          rfl
        have e0 := e 0
        simp only [Nat.add_zero] at e0
        rw [e0, e 2, e 4, e 6]
    | [], h => simp at h
    | [a], h => simp at h; omega
    | [a, b], h => simp at h; omega
    | [a, b, c], h => simp at h; omega
    | [a, b, c, d], h => simp at h; omega
    | [a, b, c, d, e], h => simp at h; omega
    | [a, b, c, d, e, f], h => simp at h; omega
    | [a, b, c, d, e, f, g], h => simp at h; omega
theorem rbs_parse : ∀ (n : Nat) (t : List Int), 8 * n ≤ t.length → (∀ x ∈ t, U8 x) → (parseR n t).flatMap rb ++ t.drop (8 * n) = t ∧ ∀ r ∈ parseR n t, W16 r.x0 ∧ W16 r.y0 ∧ W16 r.x1 ∧ W16 r.y1
  | 0, t, _, _ => by unfold parseR; exact ⟨rfl, fun _ h => by cases h⟩
  | n + 1, t, h, hu => by
    match t, h, hu with
    | a :: a' :: b :: b' :: c :: c' :: d :: d' :: t, h, hu =>
      obtain ⟨h1, h2⟩ := rbs_parse n t (by simp at h; omega) fun x hx => hu x (by simp [hx])
      have g0 := le2_v2 (hu a (by simp)) (hu a' (by simp))
      have g1 := le2_v2 (hu b (by simp)) (hu b' (by simp))
      have g2 := le2_v2 (hu c (by simp)) (hu c' (by simp))
      have g3 := le2_v2 (hu d (by simp)) (hu d' (by simp))
      rw [parseR]
      refine ⟨?_, fun r hr => ?_⟩
      · rw [List.flatMap_cons]
        have e : 8 * (n + 1) = 8 * n + 8 := by omega
        rw [e, List.append_assoc]
        simp only [List.drop_succ_cons]
        rw [h1]
        unfold rb
        simp only
        rw [g0.1, g1.1, g2.1, g3.1]
        rfl
      · rcases List.mem_cons.1 hr with rfl | hr
        · exact ⟨g0.2, g1.2, g2.2, g3.2⟩
        · exact h2 r hr
    | [], h, _ => simp at h
    | [a], h, _ => simp at h; omega
    | [a, b], h, _ => simp at h; omega
    | [a, b, c], h, _ => simp at h; omega
    | [a, b, c, d], h, _ => simp at h; omega
    | [a, b, c, d, e], h, _ => simp at h; omega
    | [a, b, c, d, e, f], h, _ => simp at h; omega
    | [a, b, c, d, e, f, g], h, _ => simp at h; omega
theorem okL_iff {w h : Int} {l : List R} (h0 : ∀ r ∈ l, 0 ≤ r.x0 ∧ 0 ≤ r.y0) : okL w h l = true ↔ canonF l = l ∧ InFr w h l := by
  unfold okL
  simp only [Bool.and_eq_true, decide_eq_true_eq, List.all_eq_true]
  refine and_congr Iff.rfl ⟨fun g r hr => ?_, fun g r hr => ?_⟩
  · have := g r hr; have := h0 r hr; omega
  · have := g r hr; omega
theorem fr16 {w h : Int} {l : List R} (hw : w ≤ 256) (hh : h ≤ 256) (hne : ∀ r ∈ l, rempty r = false) (hf : InFr w h l) : ∀ r ∈ l, W16 r.x0 ∧ W16 r.y0 ∧ W16 r.x1 ∧ W16 r.y1 := fun r hr => by
  have := hf r hr
  have := rempty_ok r (hne r hr)
  unfold W16
  omega
theorem rects_hdr {w h : Int} {l : List R} {t : List Int} (hw : w ≤ 256) (hh : h ≤ 256) (hc : canonF l = l) (hf : InFr w h l) (hl : l.length ≤ 256) : rectsM w h (hdr l ++ t) = ((l, t), 0) := by
  have h16 := fr16 hw hh (canon_nemp hc) hf
  have hn : W16 (l.length : Int) := ⟨by omega, by omega⟩
  have hp := parse_rbs l t h16
  show rectsM w h (((l.length : Int) % 256) :: ((l.length : Int) / 256 % 256) :: (l.flatMap rb ++ t)) = _
  rw [rectsM, v2_le2 hn]
  have e : ((l.length : Int)).toNat = l.length := by omega
  rw [e, hp, if_neg (by omega), if_neg (by rw [List.length_append, rbs_len]; omega), if_pos ((okL_iff fun r hr => by have := hf r hr; omega).2 ⟨hc, hf⟩)]
  rw [List.drop_left' (rbs_len l)]
theorem rects_short {w h : Int} {l : List R} {t : List Int} (hl : l.length ≤ 256) {k : Nat} (hk : k < (hdr l).length) : rectsM w h ((hdr l ++ t).take k) = (([], []), 4) := by
  rw [hdr_len] at hk
  have hn : W16 (l.length : Int) := ⟨by omega, by omega⟩
  show rectsM w h ((((l.length : Int) % 256) :: ((l.length : Int) / 256 % 256) :: (l.flatMap rb ++ t)).take k) = _
  match k, hk with
  | 0, _ => rfl
  | 1, _ => rfl
  | k + 2, hk =>
    rw [List.take_succ_cons, List.take_succ_cons, rectsM, v2_le2 hn]
    have e : ((l.length : Int)).toNat = l.length := by omega
    rw [e, if_neg (by omega), if_pos (by rw [List.length_take]; omega)]
theorem rects_inv {w h : Int} {b rest : List Int} {l : List R} (hb : ∀ x ∈ b, U8 x) (h0 : rectsM w h b = ((l, rest), 0)) : b = hdr l ++ rest ∧ canonF l = l ∧ InFr w h l ∧ l.length ≤ 256 ∧
    ∃ a c t, b = a :: c :: t ∧ l = parseR (v2 a c).toNat t ∧ l.length = (v2 a c).toNat ∧ 8 * (v2 a c).toNat ≤ t.length := by
  match b, hb, h0 with
  | [], _, h0 => rw [rectsM] at h0; injection h0 with _ h; cases h; simp
  | [a], _, h0 => rw [rectsM] at h0; injection h0 with _ h; cases h; simp
  | a :: c :: t, hb, h0 =>
    rw [rectsM] at h0
    split at h0
    · injection h0 with _ h; cases h
    · rename_i g1
      split at h0
      · injection h0 with _ h; cases h
      · rename_i g2
        split at h0
        · rename_i g3
          injection h0 with h1 _
          injection h1 with h1 h2
          have g4 := le2_v2 (hb a (by simp)) (hb c (by simp))
          have hlen := parse_len (v2 a c).toNat t (by omega)
          obtain ⟨g5, g6⟩ := rbs_parse (v2 a c).toNat t (by omega) fun x hx => hb x (by simp [hx])
          have hv := g4.2
          unfold W16 at hv
          obtain ⟨g7, g8⟩ := (okL_iff fun r hr => by have := g6 r hr; unfold W16 at this; omega).1 g3
          rw [h1] at hlen g5 g7 g8
          rw [h2] at g5
          refine ⟨?_, g7, g8, by omega, a, c, t, rfl, h1.symm, hlen, by omega⟩
          unfold hdr
          rw [hlen]
          have e : (((v2 a c).toNat : Nat) : Int) = v2 a c := by omega
          rw [e, g4.1, ← g5]
          rfl
        · injection h0 with _ h; cases h
end Go.Proofs.YtkjkolacnpknoaaGreat
end

/-! Laws of encoding and decoding. No program in sight; conditions: as each lemma states them. -/
section
namespace Go.Proofs.YtkjkolacnpknoaaGreat
open Go Go.Ab Go.RowKit
set_option linter.unusedSimpArgs false
set_option linter.unusedVariables false
set_option linter.unnecessarySimpa false


theorem diff_u32 (o n : List Px) (ps : List Int) : ∀ v ∈ diffF o n ps, U32 v := by
  intro v hv
  obtain ⟨i, _, rfl⟩ := List.mem_map.1 hv
  exact xor_u32 _ _
theorem diff_len (o n : List Px) (ps : List Int) : (diffF o n ps).length = ps.length := by simp [diffF]
theorem runs0 {d : List Int} (h : ∀ v ∈ d, U32 v) : ROk 0 255 (runsF d) := runs_ok d 0 255 h fun h => absurd h (by decide)
theorem bOk_iff {b : Bf} : bOk b = true ↔ (1 ≤ b.w ∧ b.w ≤ 256) ∧ (1 ≤ b.h ∧ b.h ≤ 256) ∧ (b.px.length : Int) = b.w * b.h ∧ ∀ p ∈ b.px, pxOk p = true := bufOk_iff
def BB (b : Bf) : Prop := ∀ p ∈ b.px, PB8 p
theorem pxs_of {b : Bf} (h : bOk b = true) (hb : BB b) : PxsOk b.px := fun p hp => ⟨(bOk_iff.1 h).2.2.2 p hp, hb p hp⟩
theorem cov_iff {o n : Bf} {l : List R} : covB o n l = true ↔ ∀ k : Nat, k < o.px.length → (k : Int) ∈ posF l o.w ∨ o.px[k]? = n.px[k]? := by
  unfold covB
  simp only [List.all_eq_true, List.mem_range, Bool.or_eq_true, decide_eq_true_eq]
/-- What is read back. -/
theorem unr_runs {d : List Int} {most : Int} (h : ∀ v ∈ d, U32 v) (hm : (d.length : Int) ≤ most) : unrF most (encR (runsF d)) 0 255 [] = (d, 0) := by
  have := unr_enc most (runsF d) 0 255 [] [] (runs0 h) (by rw [exp_runs]; simpa using hm)
  rw [List.append_nil, exp_runs] at this
  rw [this, unrF]; simp
theorem dec_enc {o n : Bf} {l : List R} (ho : bOk o = true) (hn : bOk n = true) (bn : BB n) (hwh : o.w = n.w ∧ o.h = n.h) (hc : canonF l = l) (hf : InFr o.w o.h l) (hl : l.length ≤ 256) (hcov : covB o n l = true) :
    decM o (encL o n l) = (n, 0) := by
  obtain ⟨hw, hh, hpl, _⟩ := bOk_iff.1 ho
  obtain ⟨_, _, hpl2, _⟩ := bOk_iff.1 hn
  have hlen : o.px.length = n.px.length := by rw [← hwh.1, ← hwh.2] at hpl2; omega
  unfold decM encL
  rw [if_pos ho, rects_hdr hw.2 hh.2 hc hf hl, if_neg (by simp)]
  have har := posF_len (w := o.w) (canon_nemp hc)
  have hd := diff_len o.px n.px (posF l o.w)
  have hu := unr_runs (diff_u32 o.px n.px (posF l o.w)) (most := areaF l) (by omega)
  unfold decR
  simp only
  rw [hu]
  simp only
  rw [if_neg (by decide), if_neg (by decide), if_neg (by omega), apply_diff (pxs_of hn bn)]
  have h0 : ∀ i ∈ posF l o.w, 0 ≤ i := fun i hi => (posF_in hf hi).1
  rw [put_all hlen h0 fun k hk hm => ((cov_iff.1 hcov) k hk).resolve_left hm]
  obtain ⟨w, h, px⟩ := n
  simp only at hwh ⊢
  rw [hwh.1, hwh.2]
/-! ### Encodings that end too early, or too late -/
theorem unr_prefix (most : Int) : ∀ (rs : List (Nat × Int)) (last size : Int) (out : List Int) (j : Nat), ROk last size rs → (out.length : Int) + (expR rs).length ≤ most → j < (encR rs).length →
    unrF most ((encR rs).take j) last size out = ([], 4) ∨ ∃ u, unrF most ((encR rs).take j) last size out = (u, 0) ∧ u.length < out.length + (expR rs).length
  | [], _, _, _, _, _, _, h => by simp [encR] at h
  | (n, v) :: r, last, size, out, j, h, hm, hj => by
    obtain ⟨h1, h2, h3, h4, h5⟩ := h
    have hv := val_b4 h3
    rw [encR_len, List.length_cons] at hj
    rw [expR_cons] at hm ⊢
    simp only [List.length_append, List.length_replicate] at hm ⊢
    have e : encR ((n, v) :: r) = (n : Int) :: (v % 256) :: (v / 256 % 256) :: (v / 65536 % 256) :: (v / 16777216 % 256) :: encR r := rfl
    rw [e]
    match j, hj with
    | 0, _ => exact .inr ⟨out, by rw [List.take_zero, unrF], by omega⟩
    | 1, _ => exact .inl (unr_short (by simp) (by simp))
    | 2, _ => exact .inl (unr_short (by simp) (by simp))
    | 3, _ => exact .inl (unr_short (by simp) (by simp))
    | 4, _ => exact .inl (unr_short (by simp) (by simp))
    | j + 5, hj =>
      simp only [List.take_succ_cons]
      rw [unr_step (by omega) (by rw [hv]; exact h4) (by omega), hv]
      have ih := unr_prefix most r v n (out ++ List.replicate (n : Int).toNat v) j h5 (by simp; omega) (by rw [encR_len]; omega)
      rcases ih with ih | ⟨u, g1, g2⟩
      · exact .inl ih
      · exact .inr ⟨u, g1, by simp at g2; omega⟩
structure EncOk (o n : Bf) (l : List R) : Prop where
  ok : bOk o = true
  can : canonF l = l
  fr : InFr o.w o.h l
  len : l.length ≤ 256
theorem dec_rest {o n : Bf} {l : List R} (h : EncOk o n l) (t : List Int) : decM o (hdr l ++ t) = decR o l t := by
  obtain ⟨hw, hh, hpl, _⟩ := bOk_iff.1 h.ok
  unfold decM
  rw [if_pos h.ok, rects_hdr hw.2 hh.2 h.can h.fr h.len, if_neg (by simp)]
theorem enc_area {o n : Bf} {l : List R} (h : EncOk o n l) : ((expR (runsF (diffF o.px n.px (posF l o.w)))).length : Int) = areaF l := by
  rw [exp_runs, diff_len, posF_len (canon_nemp h.can)]
theorem enc_cut {o n : Bf} {l : List R} (h : EncOk o n l) {k : Nat} (hk : k < (encL o n l).length) : decM o ((encL o n l).take k) = (zB, 4) := by
  have ha := enc_area h
  unfold encL at *
  by_cases hh : k < (hdr l).length
  · unfold decM
    rw [if_pos h.ok, rects_short h.len hh, if_pos (by simp)]
  · rw [List.take_append, List.take_of_length_le (by omega), dec_rest h]
    rw [List.length_append] at hk
    have hp := unr_prefix (areaF l) (runsF (diffF o.px n.px (posF l o.w))) 0 255 [] (k - (hdr l).length) (runs0 (diff_u32 _ _ _)) (by simp; omega) (by omega)
    unfold decR
    rcases hp with hp | ⟨u, g1, g2⟩
    · rw [hp, if_neg (by decide), if_pos (by decide)]
    · rw [g1, if_neg (by simp), if_neg (by simp), if_pos (by simp at g2; simp only; omega)]
theorem enc_one {o n : Bf} {l : List R} (h : EncOk o n l) (m : Int) : decM o (encL o n l ++ [m]) = (zB, 4) := by
  have ha := enc_area h
  unfold encL
  rw [List.append_assoc, dec_rest h]
  unfold decR
  rw [unr_enc (areaF l) _ 0 255 [] [m] (runs0 (diff_u32 _ _ _)) (by simp; omega), unr_short (by simp) (by simp), if_neg (by decide), if_pos (by decide)]
theorem enc_five {o n : Bf} {l : List R} (h : EncOk o n l) (m : Int) : decM o (encL o n l ++ [1, m, 0, 0, 0]) = (zB, 3) := by
  have ha := enc_area h
  unfold encL
  rw [List.append_assoc, dec_rest h]
  unfold decR
  rw [unr_enc (areaF l) _ 0 255 [] _ (runs0 (diff_u32 _ _ _)) (by simp; omega), unrF]
  by_cases hc : (1 : Int) = 0 ∨ ((lastR (runsF (diffF o.px n.px (posF l o.w))) 0 255).2 < 255 ∧ val4 m 0 0 0 = (lastR (runsF (diffF o.px n.px (posF l o.w))) 0 255).1)
  · rw [if_pos hc, if_neg (by decide), if_pos (by decide)]
  · have h1 : areaF l - (([] ++ expR (runsF (diffF o.px n.px (posF l o.w)))).length : Int) < 1 := by simp; omega
    rw [if_neg hc, if_pos h1]
    rfl
/-! ### The only encoding -/
theorem unr_len (most : Int) : ∀ (b : List Int) (last size : Int) (out u : List Int), (out.length : Int) ≤ most → unrF most b last size out = (u, 0) → (∀ x ∈ b, U8 x) → (u.length : Int) ≤ most
  | [], _, _, out, u, ho, h, _ => by rw [unrF] at h; injection h with h1 _; subst h1; exact ho
  | [a], _, _, _, _, _, h, _ => by rw [unr_short (by simp) (by simp)] at h; injection h with h1 h2; cases h2
  | [a, b], _, _, _, _, _, h, _ => by rw [unr_short (by simp) (by simp)] at h; injection h with h1 h2; cases h2
  | [a, b, c], _, _, _, _, _, h, _ => by rw [unr_short (by simp) (by simp)] at h; injection h with h1 h2; cases h2
  | [a, b, c, d], _, _, _, _, _, h, _ => by rw [unr_short (by simp) (by simp)] at h; injection h with h1 h2; cases h2
  | n :: a :: b :: c :: d :: r, last, size, out, u, ho, h, hb => by
    rw [unrF] at h
    split at h
    · injection h with h1 h2; cases h2
    · split at h
      · injection h with h1 h2; cases h2
      · rename_i hl
        have hn : U8 n := hb n (by simp)
        unfold U8 at hn
        exact unr_len most r _ _ _ _ (by simp; omega) h fun x hx => hb x (by simp [hx])
theorem dec_inv {o n : Bf} {b : List Int} (hb : ∀ x ∈ b, U8 x) (bo : BB o) (h : decM o b = (n, 0)) : bOk o = true ∧ ∃ l rest, rectsM o.w o.h b = ((l, rest), 0) ∧ (canonF l = l ∧ InFr o.w o.h l ∧ l.length ≤ 256) ∧
    b = encL o n l ∧ bOk n = true ∧ BB n ∧ (o.w = n.w ∧ o.h = n.h) ∧ covB o n l = true := by
  unfold decM at h
  split at h
  · rename_i ho
    refine ⟨ho, ?_⟩
    split at h
    · rename_i hr; injection h with _ h2; exact absurd h2 hr
    · rename_i hr
      obtain ⟨⟨⟨l, rest⟩, e⟩, hre⟩ : ∃ q, rectsM o.w o.h b = q := ⟨_, rfl⟩
      rw [hre] at h hr
      simp only at h hr
      have he : e = 0 := Classical.not_not.1 hr
      subst he
      obtain ⟨r1, r2, r3, r4, _⟩ := rects_inv hb hre
      obtain ⟨⟨d, e⟩, hu⟩ : ∃ q, unrF (areaF l) rest 0 255 [] = q := ⟨_, rfl⟩
      unfold decR at h
      rw [hu] at h
      simp only at h
      split at h
      · injection h with _ h2; cases h2
      · split at h
        · rename_i g; injection h with _ h2; exact absurd h2 g
        · rename_i g1 g2
          have he : e = 0 := Classical.not_not.1 g2
          subst he
          split at h
          · injection h with _ h2; cases h2
          · rename_i g3
            split at h
            · rename_i px hap
              injection h with h1 _
              have hne := canon_nemp r2
              have har := posF_len (w := o.w) hne
              have hrest : ∀ x ∈ rest, U8 x := fun x hx => hb x (by rw [r1]; exact List.mem_append_right _ hx)
              obtain ⟨rs, q1, q2, q3⟩ := unr_inv _ _ _ _ _ _ hrest hu
              rw [List.nil_append] at q3
              have hdl := unr_len (areaF l) rest 0 255 [] d (by simp; omega) hu hrest
              obtain ⟨hw, hh, hpl, _⟩ := bOk_iff.1 ho
              have hdu : ∀ v ∈ d, U32 v := by
                rw [q3]
                intro v hv
                unfold expR at hv
                obtain ⟨r, hr, hv⟩ := List.mem_flatMap.1 hv
                obtain rfl := List.eq_of_mem_replicate hv
                have key : ∀ (rs : List (Nat × Int)) (la si : Int), ROk la si rs → ∀ r ∈ rs, U32 r.2 := by
                  intro rs
                  induction rs with
                  | nil => intro _ _ _ r hr; cases hr
                  | cons q rs ih =>
                    intro la si hh r hr
                    obtain ⟨n, v⟩ := q
                    rcases List.mem_cons.1 hr with rfl | hr
                    · exact hh.2.2.1
                    · exact ih _ _ hh.2.2.2.2 r hr
                exact key rs _ _ q2 r hr
              obtain ⟨a1, a2, a3, a4⟩ := apply_inv _ _ _ _ hap (posF_nodup r3 (canon_apart r2)) (fun i hi => by have := posF_in r3 hi; omega) (by omega) hdu
              have hpx := a3 (pxs_of ho bo)
              subst h1
              refine ⟨l, rest, hre, ⟨r2, r3, r4⟩, ?_, ?_, fun p hp => (hpx p hp).2, ⟨rfl, rfl⟩, ?_⟩
              · unfold encL
                simp only
                rw [a1, r1, q1, q3, runs_exp _ _ _ q2]
              · rw [bOk_iff]
                exact ⟨hw, hh, by simp only; rw [a2]; exact hpl, fun p hp => (hpx p hp).1⟩
              · rw [cov_iff]
                intro k hk
                by_cases hm : (k : Int) ∈ posF l o.w
                · exact .inl hm
                · exact .inr (a4 k hm).symm
            · injection h with _ h2; cases h2
  · injection h with _ h2; cases h2
theorem enc_again {o n : Bf} {l : List R} (ho : bOk o = true) (hn : bOk n = true) (hwh : o.w = n.w ∧ o.h = n.h) (hc : canonF l = l) (hf : InFr o.w o.h l) (hl : l.length ≤ 256) (hcov : covB o n l = true) : encM o n l = (encL o n l, 0) := by
  obtain ⟨hw, hh, _, _⟩ := bOk_iff.1 ho
  unfold encM
  rw [if_pos (by rw [ho, hn]; rfl), if_pos hwh, mod_self hw hh hc hf, if_neg (by omega), if_pos hcov]
theorem enc_inv {o n : Bf} {dam : List R} {b : List Int} (h : encM o n dam = (b, 0)) : bOk o = true ∧ bOk n = true ∧ (o.w = n.w ∧ o.h = n.h) ∧ ∃ l, l = modF 2 dam [fr o.w o.h] ∧ EncOk o n l ∧ covB o n l = true ∧ b = encL o n l := by
  unfold encM at h
  split at h
  · rename_i g
    have g := (Bool.and_eq_true _ _).mp g
    split at h
    · rename_i g2
      split at h
      · injection h with _ h2; cases h2
      · rename_i g3
        split at h
        · rename_i g4
          injection h with h1 _
          obtain ⟨hw, hh, _, _⟩ := bOk_iff.1 g.1
          have hcut := mod_cut hw hh dam
          exact ⟨g.1, g.2, g2, _, rfl, ⟨g.1, hcut.can, hcut.fr, by omega⟩, g4, h1.symm⟩
        · injection h with _ h2; cases h2
    · injection h with _ h2; cases h2
  · injection h with _ h2; cases h2
/-- What must be covered. -/
theorem cov_dam {o n : Bf} {dam : List R} (ho : bOk o = true) : covB o n (modF 2 dam [fr o.w o.h]) = true ↔ ∀ k : Nat, k < o.px.length → ptF (cl dam) ((k : Int) % o.w) ((k : Int) / o.w) = true ∨ o.px[k]? = n.px[k]? := by
  obtain ⟨hw, hh, hpl, _⟩ := bOk_iff.1 ho
  have hcut := mod_cut hw hh dam
  rw [cov_iff]
  refine forall_congr' fun k => forall_congr' fun hk => or_congr ?_ Iff.rfl
  rw [posF_mem hcut.fr, hcut.pt]
  have m0 := Int.emod_nonneg (k : Int) (b := o.w) (by omega)
  have m1 := Int.emod_lt_of_pos (k : Int) (b := o.w) (by omega)
  have d0 : 0 ≤ (k : Int) / o.w := Int.ediv_nonneg (by omega) (by omega)
  have d1 : (k : Int) / o.w < o.h := Int.ediv_lt_of_lt_mul (by omega) (by rw [Int.mul_comm]; omega)
  constructor
  · exact fun h => h.2.1
  · exact fun h => ⟨⟨by omega, by omega⟩, h, ⟨m0, m1⟩, d0, d1⟩
end Go.Proofs.YtkjkolacnpknoaaGreat
end

/-! Numbers and runs as bytes, walked. Conditions: as each lemma states them. -/
section
namespace Go.Proofs.YtkjkolacnpknoaaGreat
open Go Go.Ab Go.RowKit
set_option linter.unusedSimpArgs false
set_option linter.unusedVariables false
set_option linter.unnecessarySimpa false

attribute [local simp] condK_true condK_false condK_not wpc_skip wpc_ret wpc_exit wpc_seq wpc_reg wpc_regD testA_bool wpc_cond wpc_block thenA_normal thenA_ret thenA_exit blockA_normal blockA_ret blockA_exit blockA_other endA_normal endA_ret ev_tmp' ev_const ev_func ev_global cv_int cv_bool cv_string cv_pointer cv_slice cv_agg cv_map put_some put_none wH_s setE_apply setE_env less_eq env_cons env_nil upd_upd upd_apply del_apply startA_eq cells_ag cells_sl one_sl cells_vs one_vs cells_ep one_ep cells_fn one_fn cells_int one_int cells_bool one_bool cells_string one_string cells_pointer one_pointer cells_slice one_slice cells_map one_map cells_agg resK_one resK_nil resK_two rvK_t rvK_c rvsK_nil rvsK_cons iseq_nil iseq_cons gdA_true gdA_false gdA_undef istep_free istep_guard istepV_free istepV_guard dseq_nil dseq_pu dseq_rd dseq_ef wpc_regT dtree_nil dtree_pu dtree_rd dtree_ef dtree_br chkAll_nil chkAll_cons andK_true pickK_true pickK_false pickK_tb pickK_fb bin2K_pl eqbK_eq eqbK_ne eqpK_eq eqpK_ne eqmK_eq eqmK_ne eqzK_eq eqzK_ne eqzK_sl eqzK_vs un1K_pl convK_int fillK_some fillA_cons fillA_nil cellsK_some needK_true needK_ok seeK_ep seeK_ptr oneK_agg oneK_one nilcK_ptr nilcK_ep fadrK_ptr fadrK_ep fldK_ag iadAK_ptr iadAK_ep iadSK_sl iadSK_vs extK_0 extK_1 extK_2 extK_3 lenK_pl lenK_sl lenK_vs lensK_pl boxK_some minmax1K_int storeK_ptr callvK_fn callvK_pl newsK_nil newsK_vs newsK_sl appK_nil appK_nil0 appK_sl appK_vs bnd1K_int bndK_none bndK_some slsK_vs slsK_nil slsK_sl0 slsK_sl slstrK_pl boolK_some eqsK_ag iop_eqs iop_sls iop_slstr seesK_some seesK_ro mapsK_some MAP_some findK_some findK_none plK_pl nmapK_none nmapK_some iop_mlook iop_mlen iop_mmk iop_mupd iop_mdel iop_mrng itK_none itK_some ptr0K_ptr iop_mnxt iop_ment it1K_some entK_some iop_mov iop_pick iop_bin iop_eqb iop_eqp iop_eqm iop_eqz iop_un capK_pl capK_sl capK_vs iop_cap iop_b2s b2sK_nil b2sK_sl b2sK_vs strK_some iop_idxv idxvK_ag atK_some apzK_nil iop_apz mksK_int iop_mks clrK_sl clrK_vs clrK_nil iop_clr iop_conv iop_build iop_load iop_nilc iop_fadr iop_fld iop_iadA iop_iadS iop_ext iop_mkf iop_len iop_lens iop_minmax iop_al iop_box iop_bsl iop_store iop_call iop_callv iop_app BIN_add BIN_sub BIN_mul BIN_and BIN_or BIN_xor BIN_andNot BIN_eql BIN_neq BIN_lss BIN_leq BIN_gtr BIN_geq BIN_quo BIN_rem BIN_shl BIN_shr BIN_sadd BIN_seql BIN_sneq BIN_slss BIN_sleq BIN_sgtr BIN_sgeq UN_neg UN_xor UN_not MM_nil MM_cons partsA argsA ptrA lessL eqL min2I slotN_int slotP_int slotI_int

theorem fd8 (x : Int) : x.fdiv (2 ^ min 8 IntKind.u32.bits) = x / 256 := by
  have : (2 : Int) ^ min 8 IntKind.u32.bits = 256 := by decide
  rw [this, Int.fdiv_eq_ediv_of_nonneg _ (by decide)]
theorem m8 (x : Int) : IntKind.u8.wrap x = x % 256 := u8_wrap x
theorem sh8 (x : Int) : x * 2 ^ min 8 IntKind.u32.bits = x * 256 := by
  have : (2 : Int) ^ min 8 IntKind.u32.bits = 256 := by decide
  rw [this]
/-- A call needs only a part of the view. -/
theorem ACall.weak {P : Program} {f : FuncId} {args : List AV} {H0 H : AH} {K : AV → AH → Prop} (hs : Sub H0 H) (h : ACall P f args H0 K) : ACall P f args H K := by
  intro S W0 w cs hr ha
  have hR : RH S W0 H0 w := ⟨hr.below, hr.sub, hr.bound, fun k o hk => hr.lt k o (hs k o hk), fun k hk => hr.free k (by
    cases e : H0 k with
    | none => rw [e] at hk; cases hk
    | some o => rw [hs k o e, ← e]; exact hk), fun k o hk => hr.obj k o (hs k o hk)⟩
  have kdle : ∀ b, kd (H0 b) ≠ 0 → kd (H b) = kd (H0 b) := by
    intro b hb
    cases e : H0 b with
    | none => rw [e] at hb; exact absurd rfl hb
    | some o => rw [hs b o e]
  refine (h S W0 w cs hR ha).mono ?_
  rintro e w' ⟨u, S', x, H', rfl, he, hR', hx, hk⟩
  refine ⟨u, S', x, H', rfl, ⟨he.size, fun b hb hn => he.same b hb (fun (e : kd (H0 b) = 2) => hn (by rw [kdle b (by rw [e]; decide), e])), he.cells, he.up, fun b hb => ?_, fun b => ?_⟩, hR', hx, hk⟩
  · rcases he.new b hb with h1 | h1 | h1
    · exact .inl h1
    · have h1 : kd (H0 b) = 2 := h1
      exact .inr (.inl (by rw [kdle b (by rw [h1]; decide), h1]))
    · exact .inr (.inr h1)
  · rcases he.dom b with h1 | h1 | h1
    · exact .inl h1
    · have h1 : kd (H' b) = kd (H0 b) := h1
      by_cases h2 : kd (H0 b) = 0
      · exact .inl (h1.trans h2)
      · exact .inr (.inl (by rw [kdle b h2]; exact h1))
    · exact .inr (.inr h1)
theorem AC.weak {P : Program} {f : FuncId} {args : List AV} {H0 H : AH} {K : AV → AH → Prop} (hs : Sub H0 H) (h : @AC P f args H0 ⟨K⟩) : @AC P f args H ⟨K⟩ := AC_of (ACall.weak hs h)
theorem or_nf (x y : Int) : IntKind.u32.wrap ((((x % 2 ^ IntKind.u32.bits).toNat ||| (y % 2 ^ IntKind.u32.bits).toNat : Nat) : Int)) = orI x y := by
  unfold orI
  rw [BitVec.toNat_or, BitVec.toNat_ofInt, BitVec.toNat_ofInt]
  rfl
theorem xor_nf (x y : Int) : IntKind.u32.wrap ((((x % 2 ^ IntKind.u32.bits).toNat ^^^ (y % 2 ^ IntKind.u32.bits).toNat : Nat) : Int)) = xorI x y := by
  unfold xorI
  rw [BitVec.toNat_xor, BitVec.toNat_ofInt, BitVec.toNat_ofInt]
  rfl
attribute [local simp] fd8 m8 sh8 or_nf xor_nf
section
variable {H : AH} {a : AV}
theorem Rw.at1 {f : Int → AV} {l : List Int} (h : Rw H a (l.map f) l.length 1) {i : Nat} (hi : i < l.length) : ∃ p, (∀ k : AV → Prop, @iadSK 1 a (vi i) ⟨k⟩ = k p) ∧ ∀ H', Sub H H' → ∀ k : List AV → Prop, @SEE H' p 1 ⟨k⟩ = k [f l[i]] := by
  obtain ⟨p, h1, h2⟩ := Rw.see h hi
  refine ⟨p, h1, fun H' hs k => ?_⟩
  rw [h2 H' hs, Nat.mul_one, ← List.map_drop, List.drop_eq_getElem_cons hi]
  rfl
/-- A part of a row. -/
theorem Rw.slice {H0 : AH} {ρ : Operand → AV} {lo hi : Option Operand} {cs : List AV} {n sz l u : Nat} {k : AV → AH → Prop} (h : Rw H0 a cs n sz) (h1 : l ≤ u) (h2 : u ≤ n) (hlo : ∀ k : Int → Prop, @BND ρ lo 0 ⟨k⟩ = k l) (hhi : ∀ k : Int → Prop, @BND ρ hi n ⟨k⟩ = k u)
    (hk : ∀ a', Rw H0 a' ((cs.drop (l * sz)).take ((u - l) * sz)) (u - l) sz → k a' H) : @slsK ρ H sz a lo hi none ⟨k⟩ := by
  have e1 : ((u : Int) - (l : Int)).toNat = u - l := by omega
  have e2 : ((l : Nat) : Int).toNat = l := by omega
  have e3 : ((u : Nat) : Int).toNat = u := by omega
  have hm : ∀ k : Int → Prop, @BND ρ none (u : Int) ⟨k⟩ = k u := fun k => bndK_none
  have hul : (u - l) * sz ≤ n * sz - l * sz := by rw [← Nat.sub_mul]; exact Nat.mul_le_mul_right _ (by omega)
  have hln : l * sz ≤ n * sz := Nat.mul_le_mul_right _ (by omega)
  rcases h with ⟨hl, ⟨f, rfl⟩ | ⟨rfl, rfl⟩ | ⟨b, o, f, C, rfl, g2, r, g3, g4⟩⟩
  · rw [slsK_vs]
    rw [hhi, hm, hlo, needK_ok ⟨by omega, by omega, by omega, rfl⟩, e1, e2]
    exact hk _ (Rw.vs _ (by rw [List.length_take, List.length_drop, hl]; omega))
  · have hu : u = 0 := by omega
    have hl0 : l = 0 := by omega
    subst hu; subst hl0
    rw [slsK_nil]
    have hhi' : ∀ k : Int → Prop, @BND ρ hi 0 ⟨k⟩ = k 0 := fun k => by have := hhi k; simpa using this
    have hlo' : ∀ k : Int → Prop, @BND ρ lo 0 ⟨k⟩ = k 0 := fun k => by have := hlo k; simpa using this
    rw [hhi', bndK_none, hlo', needK_ok ⟨rfl, rfl, rfl⟩]
    have hc : cs = [] := by simpa using hl
    subst hc
    exact hk _ (by simpa using Rw.nil H0 sz)
  · have key : ∀ o' f', o' = o + l * sz → Rw H0 (.sl b o' (u - l) sz f') ((cs.drop (l * sz)).take ((u - l) * sz)) (u - l) sz := by
      rintro o' f' rfl
      refine ⟨by rw [List.length_take, List.length_drop, hl]; omega, .inr (.inr ⟨b, _, f', C, rfl, g2, (cs.drop (l * sz)).drop ((u - l) * sz) ++ r, ?_, ?_⟩)⟩
      · rw [← List.drop_drop, g3, List.drop_append_of_le_length (by omega), ← List.append_assoc, List.take_append_drop]
      · have := congrArg List.length g3
        simp at this; omega
    cases lo with
    | none =>
      have hl0 : l = 0 := by
        have := hlo (fun j => j = 0)
        rw [bndK_none] at this
        have : (l : Int) = 0 := by rw [← this]
        omega
      subst hl0
      rw [slsK_sl0, needK_ok rfl, hhi, hm, needK_ok ⟨by omega, by omega, rfl⟩, e3]
      exact hk _ (key o _ (by simp))
    | some lo =>
      rw [slsK_sl, needK_ok rfl, hhi, hm, hlo, needK_ok ⟨by omega, by omega, by omega, rfl⟩]
      refine condK_of (fun h0 => ?_) fun h0 => ?_
      · have h0 : (l : Int) = 0 := by simpa using h0
        have hl0 : l = 0 := by omega
        subst hl0
        rw [e3]
        exact hk _ (key o _ (by simp))
      · refine condK_of (fun h3 => ?_) fun h3 => ?_
        · rw [e1, e2]
          exact hk _ (key _ _ rfl)
        · have h3 : ¬ (l : Int) < u := by simpa using h3
          have hlu : l = u := by omega
          subst hlu
          rw [needK_ok rfl]
          have := Rw.vs H0 (n := 0) (sz := sz) (f := false) (cs := []) (by simp)
          exact hk _ (by simpa using this)
/-- The string of a row of bytes. -/
theorem bytesOf_map : ∀ l : List Int, bytesOf (l.map v8) = some l
  | [] => rfl
  | x :: l => by
    rw [List.map_cons]
    unfold bytesOf
    rw [bytesOf_map l]; rfl
theorem Rw.str {l : List Int} (h : Rw H a (l.map v8) l.length 1) {k : AV → Prop} : @b2sK H a ⟨k⟩ = k (.pl (.string (strB l))) := by
  have hn := fun k' => Rw.news h (k := k')
  rcases h with ⟨hl, ⟨f, rfl⟩ | ⟨h0, rfl⟩ | ⟨b, o, f, C, rfl, g2, r, g3, g4⟩⟩
  · rw [b2sK_vs, hn, bytesOf_map, strK_some]
  · have : l = [] := List.length_eq_zero_iff.1 h0
    subst this
    rw [b2sK_nil]; rfl
  · rw [b2sK_sl, hn, bytesOf_map, strK_some]
end
/-! ### Numbers as bytes -/
def shB (v : Int) : Nat → Int
  | 0 => v
  | i + 1 => shB v i / 256
def leB (v : Int) (k : Nat) : List Int := (List.range k).map fun j => shB v j % 256
theorem leB_snoc (v : Int) (k : Nat) : leB v (k + 1) = leB v k ++ [shB v k % 256] := by simp [leB, List.range_succ]
theorem leB_len (v : Int) (k : Nat) : (leB v k).length = k := by simp [leB]
theorem leB4 {v : Int} : leB v 4 = b4 v := by
  simp only [leB, List.range, List.range.loop, List.map_cons, List.map_nil, shB, b4]
  congr 1; congr 1
  · congr 1
    · omega
    · congr 1; omega
theorem leB2 {v : Int} : leB v 2 = [v % 256, v / 256 % 256] := by simp [leB, List.range, List.range.loop, shB]
theorem shB_nn {v : Int} (h : 0 ≤ v) : ∀ i, 0 ≤ shB v i
  | 0 => h
  | i + 1 => by have := shB_nn h i; unfold shB; omega
theorem c32 {B H : AH} {K : AV → AH → Prop} {a : AV} {cs : List AV} {n k : Nat} {v : Int} (hr : Row B H a cs n 1) (hl : cs.length = n) (hn : n ≤ 1000000000) (hk4 : k ≤ 4)
    (hk : ∀ out H', Row B H' out (cs ++ (leB v k).map v8) (n + k) 1 → K out H') : @AC Tryz.prog 32 [a, v32 v, vi k] H ⟨K⟩ := by
  refine AC_of (.forget ?_)
  refine call_c follows cf32_ok (by simp) ?_
  simp
  refine wpc_loop (fun s => ∃ (i : Nat) (o : AV), s.n = 19 ∧ s.t 0 = o ∧ s.t 1 = v32 (shB v i) ∧ s.t 7 = vi k ∧ s.t 8 = vi i ∧ i ≤ k ∧ Row B s.H o (cs ++ (leB v i).map v8) (n + i) 1) (fun s => k - slotN (s.t 8)) ?_ ?_
  · exact FgK.same ⟨0, a, by simp, by simp, by simp [shB], by simp, by simp, by omega, by simpa [leB] using hr⟩
  rintro s ⟨i, o, hg, e0, e1, e7, e8, hi, hrow⟩
  generalize hHeq : s.H = Hs at *
  have co := Row.one hrow
  by_cases hlt : i < k
  · have wr := IntWalk.i64_in ((i : Int) + 1) (by omega)
    have hlt' : (i : Int) < k := by omega
    simp (disch := omega) [hg, hHeq, e0, e1, e7, e8, hlt']
    refine newK_of fun y hy => ?_
    have hsy : Sub Hs (upd Hs y (.cells [v8 (shB v i % 256)])) := (Sub.refl Hs).upd hy
    generalize hx4 : AV.sl y 0 1 1 true = x4
    have hnw : ∀ k : Nat → List AV → Prop, @NEWS (upd Hs y (.cells [v8 (shB v i % 256)])) x4 1 ⟨k⟩ = k 1 [v8 (shB v i % 256)] := by intro k; rw [← hx4]; simp
    simp [hnw, e0]
    refine hrow.app hsy (by decide) rfl (by simp [leB_len, hl]) (by omega) fun q H' hq hsq => ?_
    simp (disch := omega) [e1, e8, wr]
    refine FgK.of _ hsq ⟨⟨i + 1, .sl q 0 (n + i + 1) 1 false, by simp, by simp, by simp [shB], by simp [e7], by simp, by omega, ?_⟩, by simp [e8]; omega⟩
    have := Row.mk (cs := cs ++ (leB v i).map v8 ++ [v8 (shB v i % 256)]) (n := n + (i + 1)) (sz := 1) hq
    rw [leB_snoc, List.map_append, ← List.append_assoc]
    exact this
  · have he : i = k := by omega
    subst he
    simp (disch := omega) [hg, hHeq, e0, e1, e7, e8]
    exact ⟨Hs, Sub.refl _, hk _ _ hrow⟩
/-- The number of some bytes. -/
def valI (l : List Int) : Int := l.foldr (fun b acc => b + 256 * acc) 0
theorem valI_rng : ∀ {l : List Int}, (∀ x ∈ l, U8 x) → 0 ≤ valI l ∧ valI l < 256 ^ l.length
  | [], _ => by decide
  | x :: l, h => by
    have ih := valI_rng (l := l) fun y hy => h y (by simp [hy])
    have hx := h x (by simp)
    unfold U8 at hx
    have e : valI (x :: l) = x + 256 * valI l := rfl
    rw [e, List.length_cons, Int.pow_succ]
    omega
theorem c41 {H : AH} {K : AV → AH → Prop} {a : AV} {l : List Int} (ha : Rw H a (l.map v8) l.length 1) (hl : l.length ≤ 4) (hu : ∀ x ∈ l, U8 x) (hk : K (v32 (valI l)) H) : @AC Tryz.prog 41 [a] H ⟨K⟩ := by
  have la := fun k => Rw.lenK ha (k := k)
  refine AC_of (.forget ?_)
  refine call_c follows cf41_ok (by simp) ?_
  have w0 := IntWalk.i64_in ((l.length : Int) - 1) (by omega)
  simp [la, w0]
  refine wpc_loop (fun s => ∃ (i : Nat), s.n = 21 ∧ s.H = H ∧ s.t 0 = a ∧ s.t 3 = v32 (valI (l.drop i)) ∧ s.t 4 = vi ((i : Int) - 1) ∧ i ≤ l.length) (fun s => slotP (s.t 4)) ?_ ?_
  · exact FgK.same ⟨l.length, by simp, by simp, by simp, by simp [valI], by simp, by omega⟩
  rintro s ⟨i, hg, hHeq, e0, e3, e4, hi⟩
  cases i with
  | zero =>
    simp (disch := omega) [hg, hHeq, e0, e3, e4]
    exact ⟨H, Sub.refl _, by simpa using hk⟩
  | succ i =>
    have hlt : i < l.length := by omega
    have hc : (0 : Int) ≤ ((i + 1 : Nat) : Int) - 1 := by omega
    have hc2 : ((i + 1 : Nat) : Int) - 1 = i := by omega
    rw [hc2] at e4
    obtain ⟨p, hp1, hp2⟩ := Rw.at1 ha hlt
    have wn := IntWalk.i64_in ((i : Int) - 1) (by omega)
    have hx := hu _ (List.getElem_mem hlt)
    have hd : l.drop i = l[i] :: l.drop (i + 1) := List.drop_eq_getElem_cons hlt
    have hv := valI_rng (l := l.drop (i + 1)) fun y hy => hu y (List.mem_of_mem_drop hy)
    have hpow : (256 : Int) ^ (l.drop (i + 1)).length ≤ 16777216 := by
      have h3 : (l.drop (i + 1)).length ≤ 3 := by rw [List.length_drop]; omega
      have : (l.drop (i + 1)).length = 0 ∨ (l.drop (i + 1)).length = 1 ∨ (l.drop (i + 1)).length = 2 ∨ (l.drop (i + 1)).length = 3 := by omega
      rcases this with h | h | h | h <;> rw [h] <;> decide
    have he : valI (l.drop i) = l[i] + 256 * valI (l.drop (i + 1)) := by rw [hd]; rfl
    generalize l[i] = x at *
    generalize valI (l.drop (i + 1)) = v at *
    unfold U8 at hx
    have hor := or_add (x := v) (y := x) 8 (by omega) (by omega) (by omega) (by omega)
    have w1 := u32_wrap (n := v * 256) ⟨by omega, by omega⟩
    have w2 := u32_wrap (n := x) ⟨by omega, by omega⟩
    have e8 : v * 2 ^ 8 = v * 256 := by omega
    rw [e8] at hor
    simp (disch := omega) [hg, hHeq, e0, e3, e4, hp1, hp2 _ (Sub.refl _), w1, w2, wn]
    have hres : orI (v * 256) x = valI (l.drop i) := by rw [hor, he]; omega
    rw [hres]
    exact FgK.same ⟨⟨i, by simp, by simp, by simp, by simp, by simp, by omega⟩, by simp [e4]⟩
end Go.Proofs.YtkjkolacnpknoaaGreat
end

/-! Pixels and buffers, walked: valid, packed, unpacked. Conditions: as each lemma states them. -/
section
namespace Go.Proofs.YtkjkolacnpknoaaGreat
open Go Go.Ab Go.RowKit
set_option linter.unusedSimpArgs false
set_option linter.unusedVariables false
set_option linter.unnecessarySimpa false

attribute [local simp] condK_true condK_false condK_not wpc_skip wpc_ret wpc_exit wpc_seq wpc_reg wpc_regD testA_bool wpc_cond wpc_block thenA_normal thenA_ret thenA_exit blockA_normal blockA_ret blockA_exit blockA_other endA_normal endA_ret ev_tmp' ev_const ev_func ev_global cv_int cv_bool cv_string cv_pointer cv_slice cv_agg cv_map put_some put_none wH_s setE_apply setE_env less_eq env_cons env_nil upd_upd upd_apply del_apply startA_eq cells_ag cells_sl one_sl cells_vs one_vs cells_ep one_ep cells_fn one_fn cells_int one_int cells_bool one_bool cells_string one_string cells_pointer one_pointer cells_slice one_slice cells_map one_map cells_agg resK_one resK_nil resK_two rvK_t rvK_c rvsK_nil rvsK_cons iseq_nil iseq_cons gdA_true gdA_false gdA_undef istep_free istep_guard istepV_free istepV_guard dseq_nil dseq_pu dseq_rd dseq_ef wpc_regT dtree_nil dtree_pu dtree_rd dtree_ef dtree_br chkAll_nil chkAll_cons andK_true pickK_true pickK_false pickK_tb pickK_fb bin2K_pl eqbK_eq eqbK_ne eqpK_eq eqpK_ne eqmK_eq eqmK_ne eqzK_eq eqzK_ne eqzK_sl eqzK_vs un1K_pl convK_int fillK_some fillA_cons fillA_nil cellsK_some needK_true needK_ok seeK_ep seeK_ptr oneK_agg oneK_one nilcK_ptr nilcK_ep fadrK_ptr fadrK_ep fldK_ag iadAK_ptr iadAK_ep iadSK_sl iadSK_vs extK_0 extK_1 extK_2 extK_3 lenK_pl lenK_sl lenK_vs lensK_pl boxK_some minmax1K_int storeK_ptr callvK_fn callvK_pl newsK_nil newsK_vs newsK_sl appK_nil appK_nil0 appK_sl appK_vs bnd1K_int bndK_none bndK_some slsK_vs slsK_nil slsK_sl0 slsK_sl slstrK_pl boolK_some eqsK_ag iop_eqs iop_sls iop_slstr seesK_some seesK_ro mapsK_some MAP_some findK_some findK_none plK_pl nmapK_none nmapK_some iop_mlook iop_mlen iop_mmk iop_mupd iop_mdel iop_mrng itK_none itK_some ptr0K_ptr iop_mnxt iop_ment it1K_some entK_some iop_mov iop_pick iop_bin iop_eqb iop_eqp iop_eqm iop_eqz iop_un capK_pl capK_sl capK_vs iop_cap iop_b2s b2sK_nil b2sK_sl b2sK_vs strK_some iop_idxv idxvK_ag atK_some apzK_nil iop_apz mksK_int iop_mks clrK_sl clrK_vs clrK_nil iop_clr iop_conv iop_build iop_load iop_nilc iop_fadr iop_fld iop_iadA iop_iadS iop_ext iop_mkf iop_len iop_lens iop_minmax iop_al iop_box iop_bsl iop_store iop_call iop_callv iop_app BIN_add BIN_sub BIN_mul BIN_and BIN_or BIN_xor BIN_andNot BIN_eql BIN_neq BIN_lss BIN_leq BIN_gtr BIN_geq BIN_quo BIN_rem BIN_shl BIN_shr BIN_sadd BIN_seql BIN_sneq BIN_slss BIN_sleq BIN_sgtr BIN_sgeq UN_neg UN_xor UN_not MM_nil MM_cons partsA argsA ptrA lessL eqL min2I slotN_int slotP_int slotI_int
attribute [local simp] rc_len rc_t4 rc_t1 rc_t2 rc_t3 rc_d1 rc_d2 rc_d3 rc_d4 rc_ag rc_one rc_eq min2_t min2_f

theorem c37 (n : Int) : PC Tryz.prog 37 [vi n] (vb (szOk n)) := by
  refine .tell fun H => ?_
  refine call_c follows cf37_ok (by simp) ?_
  repeat' (first | simp [*] | (with_reducible (refine newK_of fun _ h_ => ?_); have hn_ := free_ne h_; (try simp only [upd_none', ne_eq] at h_)) | (with_reducible (refine condK_of (fun h_ => ?_) (fun h_ => ?_))))
  all_goals ((try with_reducible refine And.intro ?_ ?_) <;> (try (repeat' (first | with_reducible exact Sub.refl _ | with_reducible refine Sub.of_upd (by simp [*]) ?_))))
  all_goals (simp_all [szOk] <;> omega)
theorem c48 (p : Px) : PC Tryz.prog 48 [.ag (pxc p)] (.ag (pxc ⟨min p.r p.a, min p.g p.a, min p.b p.a, p.a⟩)) := by
  refine .tell fun H => ?_
  refine call_c follows cf48_ok (by simp) ?_
  repeat' (first | simp [*, pxc, v8] | (with_reducible (refine newK_of fun _ h_ => ?_); have hn_ := free_ne h_; (try simp only [upd_none', ne_eq] at h_)) | (with_reducible (refine condK_of (fun h_ => ?_) (fun h_ => ?_))))
  all_goals ((try with_reducible refine And.intro ?_ ?_) <;> (try (repeat' (first | with_reducible exact Sub.refl _ | with_reducible refine Sub.of_upd (by simp [*]) ?_))))
theorem pxMin_iff (p : Px) : (min p.r p.a = p.r ∧ min p.g p.a = p.g ∧ min p.b p.a = p.b) ↔ pxOk p = true := by
  simp [pxOk]; omega
theorem c40 (p : Px) : PC Tryz.prog 40 [.ag (pxc p)] (vb (pxOk p)) := by
  refine .tell fun H => ?_
  refine call_c follows cf40_ok (by simp) ?_
  have he : eqL [1, 1, 1, 1] (pxc ⟨min p.r p.a, min p.g p.a, min p.b p.a, p.a⟩) (pxc p) = some (pxOk p) := by
    have := pxMin_iff p
    simp only [pxc, v8, eqL, if_true, Option.map_some, Option.some.injEq, beq_self_eq_true, Bool.and_true]
    show (min p.r p.a == p.r && (min p.g p.a == p.g && min p.b p.a == p.b)) = pxOk p
    cases h : pxOk p with
    | true => rw [h] at this; simp [this.2 rfl]
    | false =>
      rw [h] at this
      cases hh : (min p.r p.a == p.r && (min p.g p.a == p.g && min p.b p.a == p.b)) with
      | false => rfl
      | true => simp only [Bool.and_eq_true, beq_iff_eq] at hh; exact absurd (this.1 hh) (by simp)
  have hl : (pxc p).length = 4 := rfl
  have ht : (pxc p).take 4 = pxc p := rfl
  have ho : (pxc p).all AV.one = true := rfl
  generalize hq : (⟨min p.r p.a, min p.g p.a, min p.b p.a, p.a⟩ : Px) = q at he
  have hcl := c48 p
  rw [hq] at hcl
  repeat' (first | simp [hl, ht, ho, he] | simp [*] | (with_reducible (refine newK_of fun _ h_ => ?_); have hn_ := free_ne h_; (try simp only [upd_none', ne_eq] at h_)) | (with_reducible (refine condK_of (fun h_ => ?_) (fun h_ => ?_))) | with_reducible (refine hcl.ac ?_))
  all_goals ((try with_reducible refine And.intro ?_ ?_) <;> (try (repeat' (first | with_reducible exact Sub.refl _ | with_reducible refine Sub.of_upd (by simp [*]) ?_))))
theorem c39 (p : Px) : PC Tryz.prog 39 [.ag (pxc p)] (vb (!pxOk p)) := by
  refine .tell fun H => ?_
  refine call_c follows cf39_ok (by simp) ?_
  have hl : (pxc p).length = 4 := rfl
  have ht : (pxc p).take 4 = pxc p := rfl
  repeat' (first | simp [hl, ht] | simp [*] | (with_reducible (refine newK_of fun _ h_ => ?_); have hn_ := free_ne h_; (try simp only [upd_none', ne_eq] at h_)) | (with_reducible (refine condK_of (fun h_ => ?_) (fun h_ => ?_))) | with_reducible (refine (c40 p).ac ?_))
  all_goals ((try with_reducible refine And.intro ?_ ?_) <;> (try (repeat' (first | with_reducible exact Sub.refl _ | with_reducible refine Sub.of_upd (by simp [*]) ?_))))
theorem good_v1 : goodCallee Tryz.prog 39 = true := by kernel_rfl
theorem c61 {H : AH} {K : AV → AH → Prop} {a : AV} {l : List Px} (ha : Rw H a (flat pxc l) l.length 4) (hl : l.length ≤ 10000000) (hk : ∀ i : Int, (0 ≤ i ↔ l.all pxOk = false) → K (vi i) H) :
    @AC Tryz.prog 61 [a, .pl (.func (.func 39) #[] #[])] H ⟨K⟩ := by
  have la := fun k => Rw.lenK ha (k := k)
  have g1 := good_v1
  refine AC_of (.forget ?_)
  refine call_c follows cf61_ok (by simp) ?_
  simp [la]
  refine wpc_loop (fun s => ∃ (i : Nat), s.n = 19 ∧ s.H = H ∧ s.t 0 = a ∧ s.t 1 = .pl (.func (.func 39) #[] #[]) ∧ s.t 7 = vi l.length ∧ s.t 8 = vi i ∧ i ≤ l.length ∧ (l.take i).all pxOk = true) (fun s => l.length - slotN (s.t 8)) ?_ ?_
  · exact FgK.same ⟨0, by simp, by simp, by simp, by simp, by simp, by simp, by omega, by simp⟩
  rintro s ⟨i, hn, hH, e0, e1, e7, e8, hi, hc⟩
  by_cases hlt : i < l.length
  · have wr := IntWalk.i64_in ((i : Int) + 1) (by omega)
    obtain ⟨p, hp1, hp2⟩ := fsee pxc_l ha hlt
    have et := take_snoc' hlt
    have hcp : (l.take (i + 1)).all pxOk = pxOk l[i] := by rw [et, List.all_append, hc]; simp
    have hall : pxOk l[i] = false → l.all pxOk = false := fun h => by
      cases e : l.all pxOk with
      | false => rfl
      | true => rw [List.all_eq_true] at e; rw [e _ (List.getElem_mem hlt)] at h; cases h
    generalize l[i] = r at *
    simp (disch := omega) [hn, hH, e0, e1, e7, e8, hlt, hp1, hp2 _ (Sub.refl _), g1]
    refine (c39 r).ac ?_
    cases h : pxOk r with
    | false =>
      simp
      exact ⟨H, Sub.refl _, hk _ (by simp [hall h])⟩
    | true =>
      simp (disch := omega) [hn, wr]
      exact FgK.same ⟨⟨i + 1, by simp, by simp, by simp [e0], by simp [e1], by simp [e7], by simp, by omega, by rw [hcp, h]⟩, by simp [e8]; omega⟩
  · rw [List.take_of_length_le (by omega)] at hc
    simp (disch := omega) [hn, hH, e0, e1, e7, e8, hlt]
    exact ⟨H, Sub.refl _, hk _ (by simp [hc])⟩
theorem c38 {H : AH} {K : AV → AH → Prop} {a : AV} {l : List Px} (ha : Rw H a (flat pxc l) l.length 4) (hl : l.length ≤ 10000000) (hk : K (vb (!l.all pxOk)) H) :
    @AC Tryz.prog 38 [a, .pl (.func (.func 39) #[] #[])] H ⟨K⟩ := by
  refine call_c follows cf38_ok (by simp) ?_
  simp
  refine c61 ha hl fun i hi => ?_
  cases h : l.all pxOk with
  | false => rw [h] at hk hi; have : 0 ≤ i := hi.2 rfl; simp [this] at hk ⊢; exact hk
  | true => rw [h] at hk hi; have : ¬ 0 ≤ i := fun g => by simpa using hi.1 g
            simp [this] at hk ⊢; exact hk
def bfc (w h : Int) (a : AV) : List AV := [vi w, vi h, a]
theorem c15 {H : AH} {K : AV → AH → Prop} {a : AV} {w h : Int} {l : List Px} (ha : Rw H a (flat pxc l) l.length 4) (hl : l.length ≤ 10000000) (hk : K (vb (bufOk w h l)) H) : @AC Tryz.prog 15 [.ag (bfc w h a)] H ⟨K⟩ := by
  have oa := Rw.one ha
  refine AC_of (.forget ?_)
  refine call_c follows cf15_ok (by simp) ?_
  simp [bfc]
  refine newK_of fun b hb => ?_
  have hS : Sub H (upd H b (.cells [vi w, vi h, a])) := (Sub.refl H).upd hb
  have ha' := Rw.sub ha hS
  have la := fun k => Rw.lenK ha' (k := k)
  have hbb : upd H b (.cells [vi w, vi h, a]) b = some (.cells [vi w, vi h, a]) := by simp [upd_apply]
  simp
  generalize upd H b (.cells [vi w, vi h, a]) = G at *
  refine (c37 w).ac ?_
  cases h1 : szOk w with
  | false =>
    have e : bufOk w h l = false := by simp [bufOk, h1]
    rw [e] at hk
    simp
    exact ⟨H, hS, hk⟩
  | true =>
    simp [hbb]
    refine (c37 h).ac ?_
    cases h2 : szOk h with
    | false =>
      have e : bufOk w h l = false := by simp [bufOk, h2]
      rw [e] at hk
      simp
      exact ⟨H, hS, hk⟩
    | true =>
      have hw : IntKind.i64.wrap (w * h) = w * h := by
        simp [szOk] at h1 h2
        have g1 : 0 ≤ w * h := Int.mul_nonneg (by omega) (by omega)
        have g2 : w * h ≤ 256 * 256 := Int.mul_le_mul (by omega) (by omega) (by omega) (by omega)
        exact IntWalk.i64_in _ (by omega)
      by_cases h3 : (l.length : Int) = w * h
      · have e : bufOk w h l = l.all pxOk := by simp [bufOk, h1, h2, h3]
        rw [e] at hk
        simp [hbb, la, hw, h3]
        refine c38 ha' hl ?_
        simp
        exact ⟨H, hS, hk⟩
      · have e : bufOk w h l = false := by simp [bufOk, h3]
        rw [e] at hk
        simp [hbb, la, hw, h3]
        exact ⟨H, hS, hk⟩

theorem clp_eq (p : Px) : (⟨min p.r p.a, min p.g p.a, min p.b p.a, p.a⟩ : Px) = clp p := rfl
theorem sh16 (x : Int) : x * 2 ^ min 16 IntKind.u32.bits = x * 65536 := by
  have : (2 : Int) ^ min 16 IntKind.u32.bits = 65536 := by decide
  rw [this]
theorem sh24 (x : Int) : x * 2 ^ min 24 IntKind.u32.bits = x * 16777216 := by
  have : (2 : Int) ^ min 24 IntKind.u32.bits = 16777216 := by decide
  rw [this]
theorem fd16 (x : Int) : x.fdiv (2 ^ min 16 IntKind.u32.bits) = x / 65536 := by
  have : (2 : Int) ^ min 16 IntKind.u32.bits = 65536 := by decide
  rw [this, Int.fdiv_eq_ediv_of_nonneg _ (by decide)]
theorem fd24 (x : Int) : x.fdiv (2 ^ min 24 IntKind.u32.bits) = x / 16777216 := by
  have : (2 : Int) ^ min 24 IntKind.u32.bits = 16777216 := by decide
  rw [this, Int.fdiv_eq_ediv_of_nonneg _ (by decide)]
attribute [local simp] fd8 m8 sh8 sh16 sh24 fd16 fd24
theorem c21 (p : Px) (hp : PB8 p) : PC Tryz.prog 21 [.ag (pxc p)] (v32 (packF p)) := by
  refine .tell fun H => ?_
  refine call_c follows cf21_ok (by simp) ?_
  have hl : (pxc p).length = 4 := rfl
  have ht : (pxc p).take 4 = pxc p := rfl
  have ho : (pxc p).all AV.one = true := rfl
  simp [hl, ht, ho]
  refine newK_of fun y hy => ?_
  simp [hl, ht, ho]
  refine (c48 p).ac ?_
  rw [clp_eq]
  have hq := clp_b8 hp
  have hb := pack_bits hq
  unfold packF
  generalize clp p = q at *
  have hql : (pxc q).length = 4 := rfl
  have hqo : (pxc q).all AV.one = true := rfl
  have hqt : (pxc q).take 4 = pxc q := rfl
  have hqs : pxc q = [v8 q.r, v8 q.g, v8 q.b, v8 q.a] := rfl
  have hq' := hq
  unfold PB8 U8 at hq'
  have w1 := u32_wrap (n := q.a * 16777216) ⟨by omega, by omega⟩
  have w2 := u32_wrap (n := q.r * 65536) ⟨by omega, by omega⟩
  have w3 := u32_wrap (n := q.g * 256) ⟨by omega, by omega⟩
  have w4 := u32_wrap (n := q.a) ⟨by omega, by omega⟩
  have w5 := u32_wrap (n := q.r) ⟨by omega, by omega⟩
  have w6 := u32_wrap (n := q.g) ⟨by omega, by omega⟩
  have w7 := u32_wrap (n := q.b) ⟨by omega, by omega⟩
  simp [hl, hql, hqt, hqo, hqs, w1, w2, w3, w4, w5, w6, w7, or_nf, hb]
  exact (Sub.refl H).upd hy
theorem c22 (v : Int) (hv : U32 v) : PC Tryz.prog 22 [v32 v] (.ag (pxc (unpF v))) := by
  refine .tell fun H => ?_
  refine call_c follows cf22_ok (by simp) ?_
  simp
  refine newK_of fun y hy => ?_
  simp
  have hcl := c48 ⟨v / 65536 % 256, v / 256 % 256, v % 256, v / 16777216 % 256⟩
  refine hcl.ac ?_
  rw [clp_eq]
  unfold unpF unpR
  generalize clp _ = q at *
  have hql : (pxc q).length = 4 := rfl
  have hqo : (pxc q).all AV.one = true := rfl
  have hqt : (pxc q).take 4 = pxc q := rfl
  have hqs : pxc q = [v8 q.r, v8 q.g, v8 q.b, v8 q.a] := rfl
  simp [hql, hqo, hqt]
  exact (Sub.refl H).upd hy
end Go.Proofs.YtkjkolacnpknoaaGreat
end

/-! Runs, walked. Conditions: as each lemma states them. -/
section
namespace Go.Proofs.YtkjkolacnpknoaaGreat
open Go Go.Ab Go.RowKit
set_option linter.unusedSimpArgs false
set_option linter.unusedVariables false
set_option linter.unnecessarySimpa false

attribute [local simp] condK_true condK_false condK_not wpc_skip wpc_ret wpc_exit wpc_seq wpc_reg wpc_regD testA_bool wpc_cond wpc_block thenA_normal thenA_ret thenA_exit blockA_normal blockA_ret blockA_exit blockA_other endA_normal endA_ret ev_tmp' ev_const ev_func ev_global cv_int cv_bool cv_string cv_pointer cv_slice cv_agg cv_map put_some put_none wH_s setE_apply setE_env less_eq env_cons env_nil upd_upd upd_apply del_apply startA_eq cells_ag cells_sl one_sl cells_vs one_vs cells_ep one_ep cells_fn one_fn cells_int one_int cells_bool one_bool cells_string one_string cells_pointer one_pointer cells_slice one_slice cells_map one_map cells_agg resK_one resK_nil resK_two rvK_t rvK_c rvsK_nil rvsK_cons iseq_nil iseq_cons gdA_true gdA_false gdA_undef istep_free istep_guard istepV_free istepV_guard dseq_nil dseq_pu dseq_rd dseq_ef wpc_regT dtree_nil dtree_pu dtree_rd dtree_ef dtree_br chkAll_nil chkAll_cons andK_true pickK_true pickK_false pickK_tb pickK_fb bin2K_pl eqbK_eq eqbK_ne eqpK_eq eqpK_ne eqmK_eq eqmK_ne eqzK_eq eqzK_ne eqzK_sl eqzK_vs un1K_pl convK_int fillK_some fillA_cons fillA_nil cellsK_some needK_true needK_ok seeK_ep seeK_ptr oneK_agg oneK_one nilcK_ptr nilcK_ep fadrK_ptr fadrK_ep fldK_ag iadAK_ptr iadAK_ep iadSK_sl iadSK_vs extK_0 extK_1 extK_2 extK_3 lenK_pl lenK_sl lenK_vs lensK_pl boxK_some minmax1K_int storeK_ptr callvK_fn callvK_pl newsK_nil newsK_vs newsK_sl appK_nil appK_nil0 appK_sl appK_vs bnd1K_int bndK_none bndK_some slsK_vs slsK_nil slsK_sl0 slsK_sl slstrK_pl boolK_some eqsK_ag iop_eqs iop_sls iop_slstr seesK_some seesK_ro mapsK_some MAP_some findK_some findK_none plK_pl nmapK_none nmapK_some iop_mlook iop_mlen iop_mmk iop_mupd iop_mdel iop_mrng itK_none itK_some ptr0K_ptr iop_mnxt iop_ment it1K_some entK_some iop_mov iop_pick iop_bin iop_eqb iop_eqp iop_eqm iop_eqz iop_un capK_pl capK_sl capK_vs iop_cap iop_b2s b2sK_nil b2sK_sl b2sK_vs strK_some iop_idxv idxvK_ag atK_some apzK_nil iop_apz mksK_int iop_mks clrK_sl clrK_vs clrK_nil iop_clr iop_conv iop_build iop_load iop_nilc iop_fadr iop_fld iop_iadA iop_iadS iop_ext iop_mkf iop_len iop_lens iop_minmax iop_al iop_box iop_bsl iop_store iop_call iop_callv iop_app BIN_add BIN_sub BIN_mul BIN_and BIN_or BIN_xor BIN_andNot BIN_eql BIN_neq BIN_lss BIN_leq BIN_gtr BIN_geq BIN_quo BIN_rem BIN_shl BIN_shr BIN_sadd BIN_seql BIN_sneq BIN_slss BIN_sleq BIN_sgtr BIN_sgeq UN_neg UN_xor UN_not MM_nil MM_cons partsA argsA ptrA lessL eqL min2I slotN_int slotP_int slotI_int
attribute [local simp] fd8 m8 sh8 or_nf xor_nf

theorem c14 {H : AH} {K : AV → AH → Prop} {a : AV} {l : List Int} (ha : Rw H a (l.map v32) l.length 1) (hl : l.length ≤ 1000000)
    (hk : ∀ out H', Row H H' out ((encR (runsF l)).map v8) (encR (runsF l)).length 1 → K out H') : @AC Tryz.prog 14 [a] H ⟨K⟩ := by
  have la := fun k => Rw.lenK ha (k := k)
  refine AC_of (.forget ?_)
  refine call_c follows cf14_ok (by simp) ?_
  simp
  refine wpc_loop (fun s => ∃ (i : Nat) (o : AV) (done : List (Nat × Int)), s.n = 49 ∧ s.t 0 = a ∧ s.t 3 = o ∧ s.t 4 = vi i ∧ i ≤ l.length ∧ done.length ≤ i ∧ runsF l = done ++ runsF (l.drop i) ∧ Row H s.H o ((encR done).map v8) (encR done).length 1) (fun s => l.length - slotN (s.t 4)) ?_ ?_
  · exact FgK.same ⟨0, vnil, [], by simp, by simp, by simp, by simp, by omega, by simp, by simp, by simpa [encR] using Row.nil H 1⟩
  rintro s ⟨i, o, done, hg, e0, e3, e4, hi, hdl, hd, hrow⟩
  generalize hHeq : s.H = Hs at *
  by_cases hlt : i < l.length
  · have hlt' : (i : Int) < l.length := by omega
    simp (disch := omega) [hg, hHeq, e0, e3, e4, la, hlt']
    have hrl := rlen_le l[i] (l.drop (i + 1)) 254
    rw [List.length_drop] at hrl
    have hHs := hrow.sub
    obtain ⟨p, hp1, hp2⟩ := Rw.at1 ha hlt
    have hdr : l.drop i = l[i] :: l.drop (i + 1) := List.drop_eq_getElem_cons hlt
    have hstop := rlen_stop l[i] (l.drop (i + 1)) 254
    have htake := rlen_take l[i] (l.drop (i + 1)) 254
    have hruns : runsF (l.drop i) = (rlen l[i] (l.drop (i + 1)) 254 + 1, l[i]) :: runsF (l.drop (i + (rlen l[i] (l.drop (i + 1)) 254 + 1))) := by
      have e : i + (rlen l[i] (l.drop (i + 1)) 254 + 1) = (i + 1) + rlen l[i] (l.drop (i + 1)) 254 := by omega
      rw [e, hdr]
      generalize l[i] = x
      conv => lhs; unfold runsF
      rw [List.drop_drop]
    generalize hm : rlen l[i] (l.drop (i + 1)) 254 = m at *
    generalize hx : l[i] = x at *
    refine wpc_loop (fun s2 => ∃ (j : Nat), s2.n = 49 ∧ s2.H = Hs ∧ s2.t 0 = a ∧ s2.t 3 = o ∧ s2.t 4 = vi i ∧ s2.t 5 = vi ((j : Int) + 1) ∧ j ≤ m) (fun s2 => 300 - slotN (s2.t 5)) ?_ ?_
    · exact FgK.same ⟨0, by simp [hg], by simp [hHeq], by simp [e0], by simp [e3], by simp [e4], by simp, by omega⟩
    rintro s2 ⟨j, hg2, hH2, f0, f3, f4, f5, hj⟩
    have w1 := IntWalk.i64_in ((i : Int) + ((j : Int) + 1)) (by omega)
    have w2 := IntWalk.i64_in ((j : Int) + 1 + 1) (by omega)
    by_cases hjm : j < m
    · -- one more
      have hin : i + (j + 1) < l.length := by omega
      have hin' : (i : Int) + ((j : Int) + 1) < l.length := by omega
      have h255 : (j : Int) + 1 < 255 := by omega
      obtain ⟨q, hq1, hq2⟩ := Rw.at1 (ha.sub hrow.sub) hin
      have hq1 : ∀ k : AV → Prop, @iadSK 1 a (vi ((i : Int) + ((j : Int) + 1))) ⟨k⟩ = k q := fun k => by have := hq1 k; push_cast at this; exact this
      have hjx : l[i + (j + 1)] = x := by
        have h1 : (l.drop (i + 1))[j]? = some x := by
          have := congrArg (·[j]?) htake
          simp only [List.getElem?_take] at this
          rw [if_pos hjm, List.getElem?_replicate, if_pos hjm] at this
          exact this
        rw [List.getElem?_drop, List.getElem?_eq_some_iff] at h1
        obtain ⟨_, h1⟩ := h1
        rw [← h1]
        congr 1; omega
      rw [hjx] at hq2
      simp (disch := omega) [hg2, hH2, f0, f3, f4, f5, la, w1, hin', h255, hp1, hp2 _ hHs, hq1, hq2 _ (Sub.refl _), w2]
      exact FgK.same ⟨⟨j + 1, by simp [hg2], by simp [hH2], by simp [f0], by simp [f3], by simp [f4], by simp, by omega⟩, by simp [f5]; omega⟩
    · have hje : j = m := by omega
      subst hje
      have hm8 : ((j : Int) + 1) % 256 = j + 1 := Int.emod_eq_of_lt (by omega) (by omega)
      have wv := IntWalk.i64_in ((i : Int) + ((j : Int) + 1)) (by omega)
      have hcase : ¬ (i : Int) + ((j : Int) + 1) < l.length ∨ ((i : Int) + ((j : Int) + 1) < l.length ∧ ¬ (j : Int) + 1 < 255) ∨ ((i : Int) + ((j : Int) + 1) < l.length ∧ (j : Int) + 1 < 255) := by omega
      rcases hcase with c1 | ⟨c1, c2⟩ | ⟨c1, c2⟩
      case' inl => simp (disch := omega) [hg2, hH2, f0, f3, f4, f5, la, w1, c1, hm8, hp1, hp2 _ hHs]
      case' inr.inl => simp (disch := omega) [hg2, hH2, f0, f3, f4, f5, la, w1, c1, c2, hm8, hp1, hp2 _ hHs]
      case' inr.inr =>
        have hin : i + (j + 1) < l.length := by omega
        obtain ⟨q, hq1, hq2⟩ := Rw.at1 (ha.sub hrow.sub) hin
        have hq1 : ∀ k : AV → Prop, @iadSK 1 a (vi ((i : Int) + ((j : Int) + 1))) ⟨k⟩ = k q := fun k => by have := hq1 k; push_cast at this; exact this
        have hjx : ¬ l[i + (j + 1)] = x := by
          refine hstop (by omega) _ ?_
          rw [List.getElem?_drop]
          exact List.getElem?_eq_some_iff.2 ⟨by omega, by congr 1; omega⟩
        generalize l[i + (j + 1)] = y at *
        simp (disch := omega) [hg2, hH2, f0, f3, f4, f5, la, w1, c1, c2, hp1, hp2 _ hHs, hq1, hq2 _ (Sub.refl _), hjx, hm8]
      all_goals
        refine newK_of fun y hy => ?_
        have hsy : Sub Hs (upd Hs y (.cells [v8 ((j : Int) + 1)])) := (Sub.refl Hs).upd hy
        generalize hx4 : AV.sl y 0 1 1 true = x4
        have hnw : ∀ k : Nat → List AV → Prop, @NEWS (upd Hs y (.cells [v8 ((j : Int) + 1)])) x4 1 ⟨k⟩ = k 1 [v8 ((j : Int) + 1)] := by intro k; rw [← hx4]; simp
        have hlen := encR_len done
        simp [hnw, f3, hp1, hp2 _ (hHs.trans hsy)]
        refine hrow.app hsy (by decide) rfl (by simp) (by omega) fun q2 H' hq hsq => ?_
        have hHH : Sub H H' := ((Sub.refl H).upd hq).trans hsq
        simp [hp1, hp2 _ hHH, f0, f4]
        refine AC.weak hsq (c32 (Row.mk hq) (by simp) (by omega) (by decide) fun out H2 hr2 => ?_)
        simp [f4, f5, w1]
        have hds : (encR (done ++ [(j + 1, x)])).map v8 = (encR done).map v8 ++ [v8 ((j : Int) + 1)] ++ (leB x 4).map v8 := by
          rw [encR_app, leB4]
          simp [encR]
        have hln : (encR (done ++ [(j + 1, x)])).length = (encR done).length + 1 + 4 := by rw [encR_len, encR_len, List.length_append]; simp; omega
        refine FgK.same ⟨⟨i + (j + 1), out, done ++ [(j + 1, x)], by simp, by simp [f0], by simp, by simp, by omega, by simp; omega, by rw [hd, hruns]; simp, ?_⟩, by simp [e4]; omega⟩
        rw [hds, hln]
        exact hr2
  · have he : i = l.length := by omega
    subst he
    rw [List.drop_length] at hd
    have hnil : runsF [] = [] := by unfold runsF; rfl
    rw [hnil, List.append_nil] at hd
    subst hd
    simp (disch := omega) [hg, hHeq, e0, e3, e4, la]
    exact ⟨Hs, Sub.refl _, hk _ _ hrow⟩
end Go.Proofs.YtkjkolacnpknoaaGreat
end

/-! Unruns, walked. Conditions: as each lemma states them. -/
section
namespace Go.Proofs.YtkjkolacnpknoaaGreat
open Go Go.Ab Go.RowKit
set_option linter.unusedSimpArgs false
set_option linter.unusedVariables false
set_option linter.unnecessarySimpa false

attribute [local simp] condK_true condK_false condK_not wpc_skip wpc_ret wpc_exit wpc_seq wpc_reg wpc_regD testA_bool wpc_cond wpc_block thenA_normal thenA_ret thenA_exit blockA_normal blockA_ret blockA_exit blockA_other endA_normal endA_ret ev_tmp' ev_const ev_func ev_global cv_int cv_bool cv_string cv_pointer cv_slice cv_agg cv_map put_some put_none wH_s setE_apply setE_env less_eq env_cons env_nil upd_upd upd_apply del_apply startA_eq cells_ag cells_sl one_sl cells_vs one_vs cells_ep one_ep cells_fn one_fn cells_int one_int cells_bool one_bool cells_string one_string cells_pointer one_pointer cells_slice one_slice cells_map one_map cells_agg resK_one resK_nil resK_two rvK_t rvK_c rvsK_nil rvsK_cons iseq_nil iseq_cons gdA_true gdA_false gdA_undef istep_free istep_guard istepV_free istepV_guard dseq_nil dseq_pu dseq_rd dseq_ef wpc_regT dtree_nil dtree_pu dtree_rd dtree_ef dtree_br chkAll_nil chkAll_cons andK_true pickK_true pickK_false pickK_tb pickK_fb bin2K_pl eqbK_eq eqbK_ne eqpK_eq eqpK_ne eqmK_eq eqmK_ne eqzK_eq eqzK_ne eqzK_sl eqzK_vs un1K_pl convK_int fillK_some fillA_cons fillA_nil cellsK_some needK_true needK_ok seeK_ep seeK_ptr oneK_agg oneK_one nilcK_ptr nilcK_ep fadrK_ptr fadrK_ep fldK_ag iadAK_ptr iadAK_ep iadSK_sl iadSK_vs extK_0 extK_1 extK_2 extK_3 lenK_pl lenK_sl lenK_vs lensK_pl boxK_some minmax1K_int storeK_ptr callvK_fn callvK_pl newsK_nil newsK_vs newsK_sl appK_nil appK_nil0 appK_sl appK_vs bnd1K_int bndK_none bndK_some slsK_vs slsK_nil slsK_sl0 slsK_sl slstrK_pl boolK_some eqsK_ag iop_eqs iop_sls iop_slstr seesK_some seesK_ro mapsK_some MAP_some findK_some findK_none plK_pl nmapK_none nmapK_some iop_mlook iop_mlen iop_mmk iop_mupd iop_mdel iop_mrng itK_none itK_some ptr0K_ptr iop_mnxt iop_ment it1K_some entK_some iop_mov iop_pick iop_bin iop_eqb iop_eqp iop_eqm iop_eqz iop_un capK_pl capK_sl capK_vs iop_cap iop_b2s b2sK_nil b2sK_sl b2sK_vs strK_some iop_idxv idxvK_ag atK_some apzK_nil iop_apz mksK_int iop_mks clrK_sl clrK_vs clrK_nil iop_clr iop_conv iop_build iop_load iop_nilc iop_fadr iop_fld iop_iadA iop_iadS iop_ext iop_mkf iop_len iop_lens iop_minmax iop_al iop_box iop_bsl iop_store iop_call iop_callv iop_app BIN_add BIN_sub BIN_mul BIN_and BIN_or BIN_xor BIN_andNot BIN_eql BIN_neq BIN_lss BIN_leq BIN_gtr BIN_geq BIN_quo BIN_rem BIN_shl BIN_shr BIN_sadd BIN_seql BIN_sneq BIN_slss BIN_sleq BIN_sgtr BIN_sgeq UN_neg UN_xor UN_not MM_nil MM_cons partsA argsA ptrA lessL eqL min2I slotN_int slotP_int slotI_int
attribute [local simp] fd8 m8 sh8 or_nf xor_nf

def slotL (a : AV) : Nat := match a with
  | .sl _ _ n _ _ => n
  | .vs n _ _ => n
  | _ => 0
theorem Rw.slotL {H : AH} {a : AV} {cs : List AV} {n sz : Nat} (h : Rw H a cs n sz) : slotL a = n := by
  rcases h with ⟨hl, ⟨f, rfl⟩ | ⟨rfl, rfl⟩ | ⟨b, o, f, C, rfl, _⟩⟩ <;> rfl
theorem len5 {r : List Int} (h : ¬ r.length < 5) : ∃ n a b c d t, r = n :: a :: b :: c :: d :: t := by
  match r, h with
  | n :: a :: b :: c :: d :: t, _ => exact ⟨n, a, b, c, d, t, rfl⟩
  | [], h => simp at h
  | [a], h => simp at h
  | [a, b], h => simp at h
  | [a, b, c], h => simp at h
  | [a, b, c, d], h => simp at h
theorem val4_eq (a b c d : Int) : valI [a, b, c, d] = val4 a b c d := by
  show a + 256 * (b + 256 * (c + 256 * (d + 256 * 0))) = a + 256 * (b + 256 * (c + 256 * d))
  omega
theorem rep_snoc {α : Type} (x : α) (k : Nat) : List.replicate (k + 1) x = List.replicate k x ++ [x] := List.replicate_succ'
set_option maxHeartbeats 1000000 in
theorem c19 {H : AH} {K : AV → AH → Prop} {a : AV} {l : List Int} {most : Int} (ha : Rw H a (l.map v8) l.length 1) (hl : l.length ≤ 1000000) (hu : ∀ x ∈ l, U8 x) (hm : -9223372036854775808 ≤ most) (hm2 : most ≤ 9223372036854775807)
    (hk : ∀ out H', Row H H' out ((unrF most l 0 255 []).1.map v32) (unrF most l 0 255 []).1.length 1 → K (.tp [out, vi (unrF most l 0 255 []).2]) H') : @AC Tryz.prog 19 [a, vi most] H ⟨K⟩ := by
  refine AC_of (.forget ?_)
  refine call_c follows cf19_ok (by simp) ?_
  simp
  refine wpc_loop (fun s => ∃ (b o : AV) (r out : List Int) (last size : Int), s.n = 54 ∧ s.t 0 = b ∧ s.t 1 = vi most ∧ s.t 6 = o ∧ s.t 7 = v32 last ∧ s.t 8 = vi size ∧ Rw H b (r.map v8) r.length 1 ∧ r.length ≤ l.length ∧ (∀ x ∈ r, U8 x) ∧
      out.length + 51 * r.length ≤ 51 * l.length ∧ (out = [] ∨ (out.length : Int) ≤ most) ∧ unrF most l 0 255 [] = unrF most r last size out ∧ Row H s.H o (out.map v32) out.length 1) (fun s => slotL (s.t 0)) ?_ ?_
  · exact FgK.same ⟨a, vnil, l, [], 0, 255, by simp, by simp, by simp, by simp, by simp, by simp, ha, Nat.le_refl _, hu, by simp, .inl rfl, rfl, by simpa using Row.nil H 1⟩
  rintro s ⟨b, o, r, out, last, size, hg, e0, e1, e6, e7, e8, hb, hrl, hur, hlen, hmo, hun, hrow⟩
  generalize hHeq : s.H = Hs at *
  have hHs := hrow.sub
  have lb := fun k => Rw.lenK hb (k := k)
  have lo := fun k => Rw.lenK (hrow.rin (by simp)).rd (k := k)
  by_cases h0 : r.length = 0
  · obtain rfl : r = [] := List.length_eq_zero_iff.1 h0
    rw [unrF] at hun
    rw [hun] at hk
    simp (disch := omega) [hg, hHeq, e0, e1, e6, e7, e8, lb]
    exact ⟨Hs, Sub.refl _, hk _ _ hrow⟩
  have h0' : (0 : Int) < r.length := by omega
  have h0n : 0 < r.length := by omega
  by_cases h5 : r.length < 5
  · have h5' : (r.length : Int) < 5 := by omega
    rw [unr_short (by rintro rfl; exact h0 rfl) h5] at hun
    rw [hun] at hk
    simp (disch := omega) [hg, hHeq, e0, e1, e6, e7, e8, lb, h0', h0n, h5']
    exact ⟨H, hHs, hk _ _ (by simpa using Row.nil H 1)⟩
  have h5' : ¬ (r.length : Int) < 5 := by omega
  obtain ⟨n, x1, x2, x3, x4, t, rfl⟩ := len5 h5
  obtain ⟨p, hp1, hp2⟩ := Rw.at1 hb (i := 0) (by simp)
  have hp1 : ∀ k : AV → Prop, @iadSK 1 b (vi 0) ⟨k⟩ = k p := hp1
  have hp2 : ∀ H', Sub H H' → ∀ k : List AV → Prop, @SEE H' p 1 ⟨k⟩ = k [v8 n] := hp2
  have hn8 := hur n (by simp)
  have h18 := hur x1 (by simp)
  have h28 := hur x2 (by simp)
  have h38 := hur x3 (by simp)
  have h48 := hur x4 (by simp)
  have hv32 := (b4_val h18 h28 h38 h48).2
  unfold U8 at hn8
  have wn := IntWalk.i64_in n (by omega)
  have lb : ∀ k : AV → Prop, @lenK b ⟨k⟩ = k (vi ((t.length : Int) + 5)) := fun k => by rw [lb]; congr 2
  have h0' : (0 : Int) < (t.length : Int) + 5 := by omega
  have h5' : ¬ (t.length : Int) + 5 < 5 := by omega
  simp only [List.length_cons] at hrl hlen
  simp (disch := omega) [hg, hHeq, e0, e1, e6, e7, e8, lb, h0', h5', hp1, hp2 _ hHs, wn]
  refine Rw.slice hb (l := 1) (u := 5) (by omega) (by simp) (fun k => by simp) (fun k => by simp) fun b2 hb2 => ?_
  have hb2 : Rw H b2 ([x1, x2, x3, x4].map v8) [x1, x2, x3, x4].length 1 := by simpa using hb2
  have hb2 := hb2.sub hHs
  have cb2 := Rw.cells hb2
  simp [cb2]
  refine c41 hb2 (by simp) (by intro x hx; simp at hx; rcases hx with rfl | rfl | rfl | rfl <;> assumption) ?_
  rw [val4_eq]
  generalize hV : val4 x1 x2 x3 x4 = V at *
  simp [hp1, hp2 _ hHs, e0, wn]
  have hcase : n = 0 ∨ (n ≠ 0 ∧ size < 255 ∧ V = last) ∨ (n ≠ 0 ∧ size < 255 ∧ V ≠ last) ∨ (n ≠ 0 ∧ ¬ size < 255) := by omega
  have hbad : (n = 0 ∨ (size < 255 ∧ V = last)) → ∀ k, K (.tp [vnil, vi 3]) k ∨ True := fun _ _ => .inr trivial
  rcases hcase with c1 | ⟨c1, c2, c3⟩ | ⟨c1, c2, c3⟩ | ⟨c1, c2⟩
  · rw [unrF, if_pos (.inl c1)] at hun
    rw [hun] at hk
    simp [c1]
    exact ⟨H, hHs, hk _ _ (by simpa using Row.nil H 1)⟩
  · rw [unrF, hV, if_pos (.inr ⟨c2, c3⟩)] at hun
    rw [hun] at hk
    simp [c1, c2, c3, e7, e8]
    exact ⟨H, hHs, hk _ _ (by simpa using Row.nil H 1)⟩
  all_goals
    rw [unrF, hV, if_neg (fun h => h.elim c1 (fun h => by first | exact c2 h.1 | exact c3 h.2))] at hun
    have wm := IntWalk.i64_in (most - (out.length : Int)) (by rcases hmo with h | h; rw [h]; simp; omega; omega)
  case' inr.inr.inl =>
    simp [c1, c2, c3, e7, e8, e1, e6, lo, wm]
  case' inr.inr.inr =>
    simp [c1, c2, e7, e8, e1, e6, lo, wm]
  all_goals
    by_cases hlim : most - out.length < n
    · rw [if_pos hlim] at hun
      rw [hun] at hk
      simp [hlim]
      exact ⟨H, hHs, hk _ _ (by simpa using Row.nil H 1)⟩
    · rw [if_neg hlim] at hun
      simp [hlim]
      have hrel : Row H Hs o ((out ++ List.replicate 0 V).map v32) (out.length + 0) 1 := by simpa using hrow
      refine wpc_loop (fun s2 => ∃ (j : Nat) (o2 : AV), s2.n = 54 ∧ s2.t 0 = b ∧ s2.t 1 = vi most ∧ s2.t 6 = o2 ∧ s2.t 9 = vi n ∧ s2.t 10 = v32 V ∧ s2.t 41 = vi n ∧ s2.t 42 = vi j ∧ j ≤ n.toNat ∧ Row H s2.H o2 ((out ++ List.replicate j V).map v32) (out.length + j) 1) (fun s2 => n.toNat - slotN (s2.t 42)) ?_ ?_
      · exact FgK.same ⟨0, o, by simp, by simp, by simp, by simp, by simp, by simp, by simp, by simp, by omega, hrel⟩
      rintro s2 ⟨j, o2, hg2, f0, f1, f6, f9, f10, f41, f42, hj, hrow2⟩
      generalize hHeq2 : s2.H = Hs2 at *
      by_cases hjn : j < n.toNat
      · have hjn' : (j : Int) < n := by omega
        have wj := IntWalk.i64_in ((j : Int) + 1) (by omega)
        simp (disch := omega) [hg2, hHeq2, f0, f1, f6, f9, f10, f41, f42, hjn']
        refine newK_of fun y hy => ?_
        have hsy : Sub Hs2 (upd Hs2 y (.cells [v32 V])) := (Sub.refl Hs2).upd hy
        generalize hx4 : AV.sl y 0 1 1 true = x4
        have hnw : ∀ k : Nat → List AV → Prop, @NEWS (upd Hs2 y (.cells [v32 V])) x4 1 ⟨k⟩ = k 1 [v32 V] := by intro k; rw [← hx4]; simp
        simp [hnw, f6]
        refine hrow2.app hsy (by decide) rfl (by simp) (by omega) fun q2 H' hq hsq => ?_
        simp [f42, wj]
        refine FgK.of _ hsq ⟨⟨j + 1, .sl q2 0 (out.length + j + 1) 1 false, by simp, by simp [f0], by simp [f1], by simp, by simp [f9], by simp [f10], by simp [f41], by simp, by omega, ?_⟩, by simp [f42]; omega⟩
        have := Row.mk (cs := out.map v32 ++ (List.replicate j V).map v32 ++ [v32 V]) (n := out.length + (j + 1)) (sz := 1) hq
        rw [rep_snoc, ← List.append_assoc]
        simp only [List.map_append, List.map_cons, List.map_nil]
        exact this
      · have hje : j = n.toNat := by omega
        subst hje
        have hnn : ((n.toNat : Nat) : Int) = n := by omega
        rw [hnn] at f42
        simp (disch := omega) [hg2, hHeq2, f0, f1, f6, f9, f10, f41, f42]
        refine Rw.slice hb (l := 5) (u := (n :: x1 :: x2 :: x3 :: x4 :: t).length) (by simp) (by simp) (fun k => by simp) (fun k => bndK_none) fun b3 hb3 => ?_
        have hb3' : Rw H b3 (t.map v8) t.length 1 := by
          have := hb3
          simp at this
          rw [List.take_of_length_le (by simp)] at this
          exact this
        have hs3 := Rw.slotL hb3'
        have hs0 := Rw.slotL hb
        have hsl : slotL b3 < slotL (s.t 0) := by rw [e0, hs3, hs0]; simp; omega
        simp
        refine FgK.same ⟨⟨b3, o2, t, out ++ List.replicate n.toNat V, V, n, by simp, by simp, by simp [f1], by simp [f6], by simp, by simp, ?_, by omega, fun x hx => hur x (by simp [hx]), ?_, .inr ?_, hun, ?_⟩, ?_⟩
        · exact hb3'
        · simp; omega
        · simp; omega
        · have := hrow2
          rw [List.length_append, List.length_replicate]
          exact this
        · simpa using hsl
end Go.Proofs.YtkjkolacnpknoaaGreat
end

/-! Regions of the program, walked: Intersect, IsCanonical, Area; one rectangle within another. Conditions: as each lemma states them. -/
section
namespace Go.Proofs.YtkjkolacnpknoaaGreat
open Go Go.Ab Go.RowKit
set_option linter.unusedSimpArgs false
set_option linter.unusedVariables false
set_option linter.unnecessarySimpa false

attribute [local simp] condK_true condK_false condK_not wpc_skip wpc_ret wpc_exit wpc_seq wpc_reg wpc_regD testA_bool wpc_cond wpc_block thenA_normal thenA_ret thenA_exit blockA_normal blockA_ret blockA_exit blockA_other endA_normal endA_ret ev_tmp' ev_const ev_func ev_global cv_int cv_bool cv_string cv_pointer cv_slice cv_agg cv_map put_some put_none wH_s setE_apply setE_env less_eq env_cons env_nil upd_upd upd_apply del_apply startA_eq cells_ag cells_sl one_sl cells_vs one_vs cells_ep one_ep cells_fn one_fn cells_int one_int cells_bool one_bool cells_string one_string cells_pointer one_pointer cells_slice one_slice cells_map one_map cells_agg resK_one resK_nil resK_two rvK_t rvK_c rvsK_nil rvsK_cons iseq_nil iseq_cons gdA_true gdA_false gdA_undef istep_free istep_guard istepV_free istepV_guard dseq_nil dseq_pu dseq_rd dseq_ef wpc_regT dtree_nil dtree_pu dtree_rd dtree_ef dtree_br chkAll_nil chkAll_cons andK_true pickK_true pickK_false pickK_tb pickK_fb bin2K_pl eqbK_eq eqbK_ne eqpK_eq eqpK_ne eqmK_eq eqmK_ne eqzK_eq eqzK_ne eqzK_sl eqzK_vs un1K_pl convK_int fillK_some fillA_cons fillA_nil cellsK_some needK_true needK_ok seeK_ep seeK_ptr oneK_agg oneK_one nilcK_ptr nilcK_ep fadrK_ptr fadrK_ep fldK_ag iadAK_ptr iadAK_ep iadSK_sl iadSK_vs extK_0 extK_1 extK_2 extK_3 lenK_pl lenK_sl lenK_vs lensK_pl boxK_some minmax1K_int storeK_ptr callvK_fn callvK_pl newsK_nil newsK_vs newsK_sl appK_nil appK_nil0 appK_sl appK_vs bnd1K_int bndK_none bndK_some slsK_vs slsK_nil slsK_sl0 slsK_sl slstrK_pl boolK_some eqsK_ag iop_eqs iop_sls iop_slstr seesK_some seesK_ro mapsK_some MAP_some findK_some findK_none plK_pl nmapK_none nmapK_some iop_mlook iop_mlen iop_mmk iop_mupd iop_mdel iop_mrng itK_none itK_some ptr0K_ptr iop_mnxt iop_ment it1K_some entK_some iop_mov iop_pick iop_bin iop_eqb iop_eqp iop_eqm iop_eqz iop_un capK_pl capK_sl capK_vs iop_cap iop_b2s b2sK_nil b2sK_sl b2sK_vs strK_some iop_idxv idxvK_ag atK_some apzK_nil iop_apz mksK_int iop_mks clrK_sl clrK_vs clrK_nil iop_clr iop_conv iop_build iop_load iop_nilc iop_fadr iop_fld iop_iadA iop_iadS iop_ext iop_mkf iop_len iop_lens iop_minmax iop_al iop_box iop_bsl iop_store iop_call iop_callv iop_app BIN_add BIN_sub BIN_mul BIN_and BIN_or BIN_xor BIN_andNot BIN_eql BIN_neq BIN_lss BIN_leq BIN_gtr BIN_geq BIN_quo BIN_rem BIN_shl BIN_shr BIN_sadd BIN_seql BIN_sneq BIN_slss BIN_sleq BIN_sgtr BIN_sgeq UN_neg UN_xor UN_not MM_nil MM_cons partsA argsA ptrA lessL eqL min2I slotN_int slotP_int slotI_int
attribute [local simp] rc_len rc_t4 rc_t1 rc_t2 rc_t3 rc_d1 rc_d2 rc_d3 rc_d4 rc_ag rc_one rc_eq min2_t min2_f

theorem c44 (a b : R) : PC Tryz.prog 44 [.ag (rc a), .ag (rc b)] (vb (req (rcan a) (rcap (rcan a) b))) := by
  refine .tell fun H => ?_
  refine call_c follows cf44_ok (by simp) ?_
  repeat' (first | simp [*] | (with_reducible (refine newK_of fun _ h_ => ?_); have hn_ := free_ne h_; (try simp only [upd_none', ne_eq] at h_)) | (with_reducible (refine condK_of (fun h_ => ?_) (fun h_ => ?_))) | with_reducible (refine (c63 ..).ac ?_) | with_reducible (refine (c64 ..).ac ?_))
  all_goals ((try with_reducible refine And.intro ?_ ?_) <;> (try (repeat' (first | with_reducible exact Sub.refl _ | with_reducible refine Sub.of_upd (by simp [*]) ?_))))
  all_goals (simp_all [Bool.and_true] <;> omega)
theorem within_fr {r : R} {w h : Int} (hr : rempty r = false) (h0 : 0 ≤ r.x0 ∧ 0 ≤ r.y0) (hw : 1 ≤ w ∧ w ≤ 256) (hh : 1 ≤ h ∧ h ≤ 256) : req (rcan r) (rcap (rcan r) (fr w h)) = (decide (r.x1 ≤ w) && decide (r.y1 ≤ h)) := by
  have hc : rcan r = r := by simp [rcan, hr]
  have hf : rempty (fr w h) = false := by
    have := fr_clean hw hh
    unfold cl at this
    cases e : rempty (fr w h) with
    | false => rfl
    | true => rw [List.filter_cons, e] at this; simp at this
  have ho := rempty_ok r hr
  rw [hc]
  unfold rcap
  rw [hr, hf]
  simp only [Bool.or_self, Bool.false_eq_true, if_false]
  unfold rcan
  have e : fr w h = ⟨0, 0, w, h⟩ := rfl
  rw [e]
  simp only
  refine bool_eq ?_
  rw [Bool.and_eq_true, decide_eq_true_eq, decide_eq_true_eq, req_iff]
  obtain ⟨x0, y0, x1, y1⟩ := r
  simp only at *
  constructor
  · intro h2
    split at h2
    · injection h2 with g1 g2 g3 g4; omega
    · injection h2 with g1 g2 g3 g4; omega
  · intro h2
    have g0 : max x0 0 = x0 := by omega
    have g1 : max y0 0 = y0 := by omega
    have g2 : min x1 w = x1 := by omega
    have g3 : min y1 h = y1 := by omega
    rw [g0, g1, g2, g3, if_neg (by simp [hr])]
theorem c46 (r : R) (h : rempty r = false) : PC Tryz.prog 46 [.ag (rc r)] (vi (areaR r)) := by
  have hr := rempty_ok r h
  have ha := areaR_rng h
  have hc : rcan r = r := by simp [rcan, h]
  have w1 := IntWalk.i64_in (r.x1 - r.x0) (by omega)
  have w2 := IntWalk.i64_in (r.y1 - r.y0) (by omega)
  have w3 : IntKind.i64.wrap ((r.x1 - r.x0) * (r.y1 - r.y0)) = areaR r := IntWalk.i64_in (areaR r) (by omega)
  refine .tell fun H => ?_
  refine call_c follows cf46_ok (by simp) ?_
  simp
  refine newK_of fun b hb => ?_
  simp
  refine (c63 r).ac ?_
  rw [hc]
  simp [w1, w2, w3]
  exact (Sub.refl H).upd hb
theorem good_and : goodCallee Tryz.prog 58 = true := by kernel_rfl
theorem c58 (x y : Bool) (H : AH) (K : AV → AH → Prop) (hk : K (vb (kM 2 x y)) H) : @AC Tryz.prog 58 [vb x, vb y] H ⟨K⟩ := by
  refine call_c follows cf58_ok (by simp) ?_
  rw [km2'] at hk
  cases x <;> simp at hk ⊢ <;> exact hk
theorem c31 {H : AH} {K : AV → AH → Prop} {a b : AV} {la lb : List R} (ha : Rr H a la) (hb : Rr H b lb) (hla : la.length ≤ 100000) (hlb : lb.length ≤ 100000)
    (h1 : (modF 2 la lb).length ≤ 256 → ∀ out H', Row H H' out (flat rc (modF 2 la lb)) (modF 2 la lb).length 4 → K (.tp [out, vi 0]) H') (h2 : 256 < (modF 2 la lb).length → K (.tp [vnil, vi 5]) H) : @AC Tryz.prog 31 [a, b] H ⟨K⟩ := by
  refine AC_of (.forget ?_)
  refine call_c follows cf31_ok (by simp) ?_
  simp
  refine c57 ha hb hla hlb good_and c58 fun out B H' zs hSB hz hzs hro => ?_
  simp
  refine rectsRow hla hlb hSB hz hzs hro fun out2 H0 H2 hs h2' => ?_
  have h2' : Row H H0 out2 (flat rc (modF 2 la lb)) (modF 2 la lb).length 4 := h2'
  have hr := ((h2'.rin (flat_len rc_l _)).rd).sub hs
  have cc := Rw.cells hr
  simp
  refine c55 (fun k => Rw.lenK hr) cc (fun h => ?_) fun h => ?_
  · simp [cc]
    exact ⟨H0, hs, h1 h _ _ h2'⟩
  · simp
    exact ⟨H, h2'.sub.trans hs, h2 h⟩
theorem c62 {H : AH} {K : AV → AH → Prop} {a b : AV} {la lb : List R} (ha : Rr H a la) (hb : Rr H b lb) (hl : la.length ≤ 10000000) (hl2 : lb.length ≤ 10000000) (hk : K (vb (decide (la = lb))) H) :
    @AC Tryz.prog 62 [a, b] H ⟨K⟩ := by
  have q1 := fun k => Rw.lenK ha (k := k)
  have q2 := fun k => Rw.lenK hb (k := k)
  refine AC_of (.forget ?_)
  refine call_c follows cf62_ok (by simp) ?_
  by_cases hlen : la.length = lb.length
  case neg =>
    have hne : ¬ la = lb := fun h => hlen (by rw [h])
    rw [decide_eq_false hne] at hk
    have hlen' : ¬ (la.length : Int) = lb.length := by omega
    simp [q1, q2, hlen, hlen']
    exact ⟨H, Sub.refl _, hk⟩
  case pos =>
    have hlen' : (la.length : Int) = lb.length := by omega
    simp [q1, q2, hlen']
    refine wpc_loop (fun s => ∃ (i : Nat), s.n = 26 ∧ s.H = H ∧ s.t 0 = a ∧ s.t 1 = b ∧ s.t 12 = vi la.length ∧ s.t 13 = vi i ∧ i ≤ la.length ∧ la.take i = lb.take i) (fun s => la.length - slotN (s.t 13)) ?_ ?_
    · exact FgK.same ⟨0, by simp, by simp, by simp, by simp, by simp [hlen'], by simp, by omega, by simp⟩
    rintro s ⟨i, hg, hH, e0, e1, e12, e13, hi, hpre⟩
    by_cases hlt : i < la.length
    · have hlt2 : i < lb.length := by omega
      have wr := IntWalk.i64_in ((i : Int) + 1) (by omega)
      obtain ⟨p, hp1, hp2⟩ := fsee rc_l ha hlt
      obtain ⟨q, hq1, hq2⟩ := fsee rc_l hb hlt2
      have ea := take_snoc' hlt
      have eb := take_snoc' hlt2
      have hne : la[i] ≠ lb[i] → ¬ la = lb := fun h e => h (by subst e; rfl)
      generalize la[i] = x at *
      generalize lb[i] = y at *
      cases hxy : req x y with
      | true =>
        have hxy' := (req_iff x y).1 hxy
        simp (disch := omega) [hg, hH, e0, e1, e12, e13, hlt, hp1, hp2 _ (Sub.refl _), hq1, hq2 _ (Sub.refl _), hxy, wr]
        exact FgK.same ⟨⟨i + 1, by simp, by simp, by simp, by simp, by simp, by simp, by omega, by rw [ea, eb, hpre, hxy']⟩, by simp [e13]; omega⟩
      | false =>
        have hxy' : x ≠ y := fun h => by rw [(req_iff x y).2 h] at hxy; cases hxy
        rw [decide_eq_false (hne hxy')] at hk
        simp (disch := omega) [hg, hH, e0, e1, e12, e13, hlt, hp1, hp2 _ (Sub.refl _), hq1, hq2 _ (Sub.refl _), hxy]
        exact ⟨H, Sub.refl _, hk⟩
    · have heq : la = lb := by
        rw [List.take_of_length_le (by omega), List.take_of_length_le (by omega)] at hpre
        exact hpre
      rw [decide_eq_true heq] at hk
      simp (disch := omega) [hg, hH, e0, e1, e12, e13, hlt]
      exact ⟨H, Sub.refl _, hk⟩
theorem flat_len_le {α β : Type} {f : α → List β} {n : Nat} : ∀ {l : List α}, (∀ a ∈ l, (f a).length ≤ n) → (l.flatMap f).length ≤ l.length * n
  | [], _ => by simp
  | a :: l, h => by
    have ih := flat_len_le (f := f) (n := n) (l := l) fun b hb => h b (by simp [hb])
    have h1 := h a (by simp)
    rw [List.flatMap_cons, List.length_append, List.length_cons, Nat.succ_mul]
    omega
theorem bstep_run {f : Int → List Rn} {N : Nat} (hf : ∀ y, (f y).length ≤ N) (o : List Bd) (c : Rn) (h : ∀ b ∈ o, b.2.2.length ≤ N) : ∀ b ∈ bstep f o c, b.2.2.length ≤ N := by
  intro b hb
  unfold bstep at hb
  split at hb
  · exact h b hb
  · split at hb
    · rename_i l hl
      have hlm := List.mem_of_getLast? hl
      split at hb
      · rcases List.mem_append.1 hb with hb | hb
        · exact h b (List.dropLast_subset _ hb)
        · rw [List.mem_singleton] at hb; subst hb; exact h l hlm
      · rcases List.mem_append.1 hb with hb | hb
        · exact h b hb
        · rw [List.mem_singleton] at hb; subst hb; exact hf _
    · rw [List.mem_singleton] at hb; subst hb; exact hf _
theorem bfold_run {f : Int → List Rn} {N : Nat} (hf : ∀ y, (f y).length ≤ N) : ∀ (l : List Rn) (o : List Bd), (∀ b ∈ o, b.2.2.length ≤ N) → ∀ b ∈ l.foldl (bstep f) o, b.2.2.length ≤ N
  | [], _, h => h
  | c :: l, o, h => bfold_run hf l _ (bstep_run hf o c h)
theorem rs_len (l : List R) (y : Int) : (sumF (rsF (cl l) y)).length ≤ l.length := by
  have h1 : (rsF (cl l) y).length ≤ l.length := by
    unfold rsF
    rw [List.length_map]
    exact Nat.le_trans (List.length_filter_le ..) (cl_len l)
  refine Nat.le_trans (sumF_len fun r hr => ?_) h1
  unfold rsF at hr
  obtain ⟨q, hq, rfl⟩ := List.mem_map.1 hr
  have := rempty_ok q (cl_ok l q (List.mem_filter.1 hq).1)
  simp only
  omega
theorem mod_len {kf : Bool → Bool → Bool} (la lb : List R) : (rectsF (bandsF kf la lb)).length ≤ (2 * (la.length + lb.length)) * (2 * (la.length + lb.length)) := by
  unfold rectsF
  refine Nat.le_trans (flat_len_le (n := 2 * (la.length + lb.length)) fun b hb => ?_) (Nat.mul_le_mul_right _ (bandsF_len kf la lb))
  rw [List.length_map]
  refine bfold_run (f := rowF kf (cl la) (cl lb)) (fun y => ?_) _ [] (fun b hb => by cases hb) b hb
  refine Nat.le_trans (combF_len kf _ _) ?_
  have h1 := rs_len la y
  have h2 := rs_len lb y
  have e1 : ∀ l : List R, cl (cl l) = cl l := fun l => cl_self (cl_ok l)
  have h1' := rs_len (cl la) y
  have h2' := rs_len (cl lb) y
  rw [e1] at h1' h2'
  omega
theorem canon_len (l : List R) (hl : l.length ≤ 256) : (canonF l).length ≤ 10000000 := by
  have h : (canonF l).length ≤ (2 * (l.length + 0)) * (2 * (l.length + 0)) := mod_len (kf := orF) l []
  have : (2 * (l.length + 0)) * (2 * (l.length + 0)) ≤ 512 * 512 := Nat.mul_le_mul (by omega) (by omega)
  omega
theorem c43 {H : AH} {K : AV → AH → Prop} {a : AV} {l : List R} (ha : Rr H a l) (hl : l.length ≤ 256) (hk : K (vb (decide (canonF l = l))) H) : @AC Tryz.prog 43 [a] H ⟨K⟩ := by
  have la := fun k => Rw.lenK ha (k := k)
  refine AC_of (.forget ?_)
  refine call_c follows cf43_ok (by simp) ?_
  have hl' : (l.length : Int) ≤ 256 := by omega
  have hcl := canon_len l hl
  simp [la, hl', hl]
  refine c45 ha (by omega) fun out H' hro => ?_
  have hr := (hro.rin (flat_len rc_l _)).rd
  have cc := Rw.cells hr
  simp [cc]
  refine c62 hr (ha.sub hro.sub) hcl (by omega) ?_
  simp
  exact ⟨H, hro.sub, hk⟩
theorem areaF_take {l : List R} (i : Nat) (h : i < l.length) : areaF (l.take (i + 1)) = areaF (l.take i) + areaR l[i] := by
  rw [take_snoc' h]
  exact areaF_snoc _ _
theorem c18 {H : AH} {K : AV → AH → Prop} {a : AV} {l : List R} (ha : Rr H a l) (hl : l.length ≤ 256) (hc : canonF l = l) (hk : K (vi (areaF l)) H) : @AC Tryz.prog 18 [a] H ⟨K⟩ := by
  refine AC_of (.forget ?_)
  refine call_c follows cf18_ok (by simp) ?_
  simp
  refine c45 ha (by omega) fun out H' hro => ?_
  rw [hc] at hro
  have hr := (hro.rin (flat_len rc_l _)).rd
  have q1 := fun k => Rw.lenK hr (k := k)
  have hne := canon_nemp hc
  have hS := hro.sub
  simp [q1]
  refine wpc_loop (fun s => ∃ (i : Nat) (Hs : AH), s.n = 19 ∧ s.H = Hs ∧ Sub H' Hs ∧ s.t 3 = vi (areaF (l.take i)) ∧ s.t 7 = out ∧ s.t 8 = vi l.length ∧ s.t 9 = vi i ∧ i ≤ l.length) (fun s => l.length - slotN (s.t 9)) ?_ ?_
  · exact FgK.same ⟨0, H', by simp, by simp, Sub.refl _, by simp [areaF], by simp, by simp, by simp, by omega⟩
  rintro s ⟨i, Hs, hg, hH, hs, e3, e7, e8, e9, hi⟩
  by_cases hlt : i < l.length
  · have wr := IntWalk.i64_in ((i : Int) + 1) (by omega)
    obtain ⟨p, hp1, hp2⟩ := fsee rc_l hr hlt
    have hrn := hne _ (List.getElem_mem hlt)
    have har := areaF_take i hlt
    have h1 := areaF_rng (l := l.take i) fun r hr => hne r (List.mem_of_mem_take hr)
    have h2 := areaR_rng hrn
    have hlt3 : (l.take i).length ≤ 256 := by rw [List.length_take]; omega
    generalize l[i] = r at *
    have wa := IntWalk.i64_in (areaF (l.take i) + areaR r) (by omega)
    simp (disch := omega) [hg, hH, e3, e7, e8, e9, hlt, hp1, hp2 _ hs]
    refine newK_of fun y hy => ?_
    have hsy0 : Sub Hs (upd Hs y (.cells [vi 0, vi 0, vi 0, vi 0])) := (Sub.refl Hs).upd hy
    simp
    refine (c46 r hrn).ac ?_
    simp [wr, wa]
    refine FgK.of Hs ((Sub.refl Hs).upd hy) ⟨⟨i + 1, Hs, by simp, by simp, hs, by simp [har], by simp [e7], by simp [e8], by simp, by omega⟩, by simp [e9]; omega⟩
  · have he : i = l.length := by omega
    subst he
    rw [List.take_length] at e3
    simp (disch := omega) [hg, hH, e3, e7, e8, e9]
    exact ⟨H, hS.trans hs, hk⟩
theorem c17 {w h : Int} {x : AV} (hx : x.one = true) : PC Tryz.prog 17 [.ag (bfc w h x)] (.ag (rc (fr w h))) := by
  refine .tell fun H => ?_
  refine call_c follows cf17_ok (by simp) ?_
  simp [bfc, hx]
  refine newK_of fun y hy => ?_
  simp
  refine newK_of fun z hz => ?_
  have nzy := free_ne hz y (by simp [upd_apply])
  simp [nzy, fr]
  exact ((Sub.refl H).upd hy).trans ((Sub.refl _).upd hz)
end Go.Proofs.YtkjkolacnpknoaaGreat
end

/-! The positions of a region, walked: a function that is ranged over. Conditions: as each lemma states them. -/
section
namespace Go.Proofs.YtkjkolacnpknoaaGreat
open Go Go.Ab Go.RowKit
set_option linter.unusedSimpArgs false
set_option linter.unusedVariables false
set_option linter.unnecessarySimpa false

attribute [local simp] condK_true condK_false condK_not wpc_skip wpc_ret wpc_exit wpc_seq wpc_reg wpc_regD testA_bool wpc_cond wpc_block thenA_normal thenA_ret thenA_exit blockA_normal blockA_ret blockA_exit blockA_other endA_normal endA_ret ev_tmp' ev_const ev_func ev_global cv_int cv_bool cv_string cv_pointer cv_slice cv_agg cv_map put_some put_none wH_s setE_apply setE_env less_eq env_cons env_nil upd_upd upd_apply del_apply startA_eq cells_ag cells_sl one_sl cells_vs one_vs cells_ep one_ep cells_fn one_fn cells_int one_int cells_bool one_bool cells_string one_string cells_pointer one_pointer cells_slice one_slice cells_map one_map cells_agg resK_one resK_nil resK_two rvK_t rvK_c rvsK_nil rvsK_cons iseq_nil iseq_cons gdA_true gdA_false gdA_undef istep_free istep_guard istepV_free istepV_guard dseq_nil dseq_pu dseq_rd dseq_ef wpc_regT dtree_nil dtree_pu dtree_rd dtree_ef dtree_br chkAll_nil chkAll_cons andK_true pickK_true pickK_false pickK_tb pickK_fb bin2K_pl eqbK_eq eqbK_ne eqpK_eq eqpK_ne eqmK_eq eqmK_ne eqzK_eq eqzK_ne eqzK_sl eqzK_vs un1K_pl convK_int fillK_some fillA_cons fillA_nil cellsK_some needK_true needK_ok seeK_ep seeK_ptr oneK_agg oneK_one nilcK_ptr nilcK_ep fadrK_ptr fadrK_ep fldK_ag iadAK_ptr iadAK_ep iadSK_sl iadSK_vs extK_0 extK_1 extK_2 extK_3 lenK_pl lenK_sl lenK_vs lensK_pl boxK_some minmax1K_int storeK_ptr callvK_fn callvK_pl newsK_nil newsK_vs newsK_sl appK_nil appK_nil0 appK_sl appK_vs bnd1K_int bndK_none bndK_some slsK_vs slsK_nil slsK_sl0 slsK_sl slstrK_pl boolK_some eqsK_ag iop_eqs iop_sls iop_slstr seesK_some seesK_ro mapsK_some MAP_some findK_some findK_none plK_pl nmapK_none nmapK_some iop_mlook iop_mlen iop_mmk iop_mupd iop_mdel iop_mrng itK_none itK_some ptr0K_ptr iop_mnxt iop_ment it1K_some entK_some iop_mov iop_pick iop_bin iop_eqb iop_eqp iop_eqm iop_eqz iop_un capK_pl capK_sl capK_vs iop_cap iop_b2s b2sK_nil b2sK_sl b2sK_vs strK_some iop_idxv idxvK_ag atK_some apzK_nil iop_apz mksK_int iop_mks clrK_sl clrK_vs clrK_nil iop_clr iop_conv iop_build iop_load iop_nilc iop_fadr iop_fld iop_iadA iop_iadS iop_ext iop_mkf iop_len iop_lens iop_minmax iop_al iop_box iop_bsl iop_store iop_call iop_callv iop_app BIN_add BIN_sub BIN_mul BIN_and BIN_or BIN_xor BIN_andNot BIN_eql BIN_neq BIN_lss BIN_leq BIN_gtr BIN_geq BIN_quo BIN_rem BIN_shl BIN_shr BIN_sadd BIN_seql BIN_sneq BIN_slss BIN_sleq BIN_sgtr BIN_sgeq UN_neg UN_xor UN_not MM_nil MM_cons partsA argsA ptrA lessL eqL min2I slotN_int slotP_int slotI_int
attribute [local simp] rc_len rc_t4 rc_t1 rc_t2 rc_t3 rc_d1 rc_d2 rc_d3 rc_d4 rc_ag rc_one rc_eq callvK_yl setAs_cons setAs_nil RQ_normal RQ_ret RQ_exit

theorem rowP_cons {w y x x1 : Int} (h : x < x1) : rowP w y x x1 = (y * w + x) :: rowP w y (x + 1) x1 := by
  unfold rowP
  rw [rngI_cons h]; rfl
theorem rowP_nil {w y x x1 : Int} (h : x1 ≤ x) : rowP w y x x1 = [] := by
  unfold rowP
  rw [rngI_nil h]; rfl
def rowsP (w : Int) (r : R) (y : Int) : List Int := (rngI y r.y1).flatMap fun y => rowP w y r.x0 r.x1
theorem rowsP_cons {w y : Int} {r : R} (h : y < r.y1) : rowsP w r y = rowP w y r.x0 r.x1 ++ rowsP w r (y + 1) := by
  unfold rowsP
  rw [rngI_cons h]; rfl
theorem rowsP_nil {w y : Int} {r : R} (h : r.y1 ≤ y) : rowsP w r y = [] := by
  unfold rowsP
  rw [rngI_nil h]; rfl
/-- What is held between two rounds: J of the positions left, of what stays, and of the view. -/
structure PosJ (b1 b2 : Nat) (a : AV) (l : List R) (w : Int) (J : List Int → AH → AH → Prop) : Prop where
  sub : ∀ {ps G H}, J ps G H → Sub G H
  add : ∀ {ps G H y}, J ps G H → H y = none → ∀ X, J ps (upd G y X) (upd H y X)
  b1 : ∀ {ps G H}, J ps G H → H b1 = some (.cells [a]) ∧ H b2 = some (.cells [vi w]) ∧ Rr H a l
set_option maxHeartbeats 1000000 in
theorem c47 {G0 H : AH} {K : AV → AH → Prop} {lid b1 b2 : Nat} {a : AV} {l : List R} {w : Int} (hl : l.length ≤ 10000000) (hw : 0 ≤ w ∧ w ≤ 40000) (hr : ∀ r ∈ l, (-40000 ≤ r.x0 ∧ r.x1 ≤ 40000) ∧ (-40000 ≤ r.y0 ∧ r.y1 ≤ 40000) ∧ r.x0 ≤ 40000 ∧ r.y0 ≤ 40000)
    (J : List Int → AH → AH → Prop) (Jx : AH → Prop) (hJ : PosJ b1 b2 a l w J)
    (hY : ∀ (p : Int) (ps : List Int) (G H : AH) (K' : AV → AH → Prop), Sub G0 G → J (p :: ps) G H → (∀ H', J ps G H' → K' (vb true) H') → (∀ H', Jx H' → K' (vb false) H') → @AY Tryz.prog lid [vi p] H ⟨K'⟩)
    (h0 : J (posF l w) G0 H) (hk1 : ∀ G H', Sub G0 G → J [] G H' → K (.tp []) H') (hk2 : ∀ H', Jx H' → K (.tp []) H') : @AC Tryz.prog 47 [.pl (.func (.yield lid) #[] #[]), pA b1, pA b2] H ⟨K⟩ := by
  refine call_c follows cf47_ok (by simp) ?_
  obtain ⟨g1, g2, g3⟩ := hJ.b1 h0
  have la := fun k => Rw.lenK g3 (k := k)
  simp [g1, la]
  refine wpc_loop (fun s => ∃ (i : Nat) (G : AH), s.n = 39 ∧ s.t 0 = .pl (.func (.yield lid) #[] #[]) ∧ s.t 1 = pA b1 ∧ s.t 2 = pA b2 ∧ s.t 8 = a ∧ s.t 9 = vi l.length ∧ s.t 10 = vi i ∧ i ≤ l.length ∧ Sub G0 G ∧ J (posF (l.drop i) w) G s.H) (fun s => l.length - slotN (s.t 10)) ?_ ?_
  · exact FgK.same ⟨0, G0, by simp, by simp, by simp, by simp, by simp, by simp, by simp, by omega, Sub.refl _, by simpa using h0⟩
  rintro s ⟨i, G, hg, e0, e1, e2, e8, e9, e10, hi, hG, hj⟩
  generalize hHeq : s.H = Hs at *
  by_cases hlt : i < l.length
  · obtain ⟨k1, k2, k3⟩ := hJ.b1 hj
    obtain ⟨p, hp1, hp2⟩ := fsee rc_l k3 hlt
    have hri := hr _ (List.getElem_mem hlt)
    have hdr : l.drop i = l[i] :: l.drop (i + 1) := List.drop_eq_getElem_cons hlt
    generalize l[i] = r at *
    have wi := IntWalk.i64_in ((i : Int) + 1) (by omega)
    simp (disch := omega) [hg, hHeq, e0, e1, e2, e8, e9, e10, hlt, hp1, hp2 _ (Sub.refl _)]
    refine newK_of fun y hy => ?_
    have hj2 := hJ.add hj hy (.cells (rc r))
    have hGy : upd G y (.cells (rc r)) y = some (.cells (rc r)) := by simp [upd_apply]
    have hG2 : Sub G0 (upd G y (.cells (rc r))) := by
      refine hG.upd ?_
      cases e : G0 y with
      | none => rfl
      | some o => rw [hJ.sub hj _ _ (hG _ _ e)] at hy; cases hy
    have hyy : upd Hs y (.cells (rc r)) y = some (.cells (rc r)) := by simp [upd_apply]
    rw [hdr, posF_cons] at hj2
    have hj2 : J (rowsP w r r.y0 ++ posF (l.drop (i + 1)) w) (upd G y (.cells (rc r))) (upd Hs y (.cells (rc r))) := hj2
    have d0 : ((rc r).drop 0).take 1 = [vi r.x0] := rfl
    have d1 : ((rc r).drop 1).take 1 = [vi r.y0] := rfl
    have d2 : ((rc r).drop 2).take 1 = [vi r.x1] := rfl
    have d3 : ((rc r).drop 3).take 1 = [vi r.y1] := rfl
    simp [d1]
    generalize upd Hs y (.cells (rc r)) = Hr at *
    generalize upd G y (.cells (rc r)) = Gr at *
    refine wpc_loop (fun s2 => ∃ (v : Int), s2.n = 39 ∧ s2.t 0 = .pl (.func (.yield lid) #[] #[]) ∧ s2.t 1 = pA b1 ∧ s2.t 2 = pA b2 ∧ s2.t 5 = pA y ∧ s2.t 6 = vi v ∧ s2.t 8 = a ∧ s2.t 9 = vi l.length ∧ s2.t 10 = vi i ∧ -40000 ≤ v ∧ v ≤ 40001 ∧ J (rowsP w r v ++ posF (l.drop (i + 1)) w) Gr s2.H) (fun s2 => (r.y1 - slotI (s2.t 6)).toNat) ?_ ?_
    · exact FgK.same ⟨r.y0, by simp, by simp, by simp, by simp, by simp, by simp, by simp, by simp, by simp, by omega, by omega, hj2⟩
    rintro s2 ⟨v, hg2, f0, f1, f2, f5, f6, f8, f9, f10, hv0, hv1, hj3⟩
    generalize hHeq2 : s2.H = H2 at *
    have hy2 := hJ.sub hj3 _ _ hGy
    by_cases hvy : v < r.y1
    · have wv := IntWalk.i64_in (v + 1) (by omega)
      rw [rowsP_cons hvy, List.append_assoc] at hj3
      simp (disch := omega) [hg2, hHeq2, f0, f1, f2, f5, f6, f8, f9, f10, hy2, d0, d3, hvy]
      refine wpc_loop (fun s3 => ∃ (u : Int), s3.n = 39 ∧ s3.t 0 = .pl (.func (.yield lid) #[] #[]) ∧ s3.t 1 = pA b1 ∧ s3.t 2 = pA b2 ∧ s3.t 5 = pA y ∧ s3.t 6 = vi v ∧ s3.t 7 = vi u ∧ s3.t 8 = a ∧ s3.t 9 = vi l.length ∧ s3.t 10 = vi i ∧ -40000 ≤ u ∧ u ≤ 40001 ∧ J (rowP w v u r.x1 ++ (rowsP w r (v + 1) ++ posF (l.drop (i + 1)) w)) Gr s3.H) (fun s3 => (r.x1 - slotI (s3.t 7)).toNat) ?_ ?_
      · exact FgK.same ⟨r.x0, by simp, by simp, by simp, by simp, by simp, by simp, by simp, by simp, by simp, by simp, by omega, by omega, hj3⟩
      rintro s3 ⟨u, hg3, h0', h1', h2', h5', h6', h7', h8', h9', h10', hu0, hu1, hj4⟩
      generalize hHeq3 : s3.H = H3 at *
      have hy3 := hJ.sub hj4 _ _ hGy
      obtain ⟨k1', k2', _⟩ := hJ.b1 hj4
      by_cases hux : u < r.x1
      · have wu := IntWalk.i64_in (u + 1) (by omega)
        have hm1 : v * w ≤ 1600000000 ∧ -1600000000 ≤ v * w := by
          have := Int.mul_le_mul_of_nonneg_right (show v ≤ 40000 by omega) hw.1
          have := Int.mul_le_mul_of_nonneg_right (show -40000 ≤ v by omega) hw.1
          omega
        have wm := IntWalk.i64_in (v * w) (by omega)
        have wa := IntWalk.i64_in (v * w + u) (by omega)
        rw [rowP_cons hux, List.cons_append] at hj4
        simp (disch := omega) [hg3, hHeq3, h0', h1', h2', h5', h6', h7', h8', h9', h10', hy3, d2, hux, k2', wm, wa]
        refine hY _ _ _ _ _ hG2 hj4 (fun H' hj5 => ?_) fun H' hj5 => ?_
        · simp [h7', wu]
          refine FgK.same ⟨⟨u + 1, by simp, by simp [h0'], by simp [h1'], by simp [h2'], by simp [h5'], by simp [h6'], by simp, by simp [h8'], by simp [h9'], by simp [h10'], by omega, by omega, hj5⟩, by simp [h7', slotI]; omega⟩
        · simp
          exact hk2 _ hj5
      · rw [rowP_nil (by omega), List.nil_append] at hj4
        simp (disch := omega) [hg3, hHeq3, h0', h1', h2', h5', h6', h7', h8', h9', h10', hy3, d2, hux, wv]
        refine FgK.same ⟨⟨v + 1, by simp, by simp, by simp, by simp, by simp, by simp, by simp, by simp, by simp, by omega, by omega, hj4⟩, by simp [f6, slotI]; omega⟩
    · rw [rowsP_nil (by omega), List.nil_append] at hj3
      simp (disch := omega) [hg2, hHeq2, f0, f1, f2, f5, f6, f8, f9, f10, hy2, d3, hvy, wi]
      refine FgK.same ⟨⟨i + 1, Gr, by simp, by simp, by simp, by simp, by simp, by simp, by simp, by omega, hG2, hj3⟩, by simp [e10]; omega⟩
  · have he : i = l.length := by omega
    subst he
    rw [List.drop_length] at hj
    simp (disch := omega) [hg, hHeq, e0, e1, e2, e8, e9, e10]
    exact hk1 _ _ hG hj
theorem good_pos : goodCallee Tryz.prog 47 = true := by kernel_rfl
theorem c20 {H : AH} {K : AV → AH → Prop} {a : AV} {w : Int} (ca : a.cells = some [a]) (hk : ∀ q1 q2, H q1 = none → H q2 = none → q1 ≠ q2 → K (.fn 47 [] [pA q1, pA q2]) (upd (upd H q1 (.cells [a])) q2 (.cells [vi w]))) : @AC Tryz.prog 20 [a, vi w] H ⟨K⟩ := by
  refine call_c follows cf20_ok (by simp) ?_
  simp [ca]
  refine newK_of fun q1 h1 => ?_
  simp
  refine newK_of fun q2 h2 => ?_
  have n12 := free_ne h2 q1 (by simp [upd_apply])
  have h2' : H q2 = none := by simpa [upd_apply, n12.2] using h2
  simp
  exact hk q1 q2 h1 h2' n12.1
end Go.Proofs.YtkjkolacnpknoaaGreat
end

/-! What is held while a difference is collected. Conditions: as each lemma states them. -/
section
namespace Go.Proofs.YtkjkolacnpknoaaGreat
open Go Go.Ab Go.RowKit
set_option linter.unusedSimpArgs false
set_option linter.unusedVariables false
set_option linter.unnecessarySimpa false

attribute [local simp] condK_true condK_false condK_not wpc_skip wpc_ret wpc_exit wpc_seq wpc_reg wpc_regD testA_bool wpc_cond wpc_block thenA_normal thenA_ret thenA_exit blockA_normal blockA_ret blockA_exit blockA_other endA_normal endA_ret ev_tmp' ev_const ev_func ev_global cv_int cv_bool cv_string cv_pointer cv_slice cv_agg cv_map put_some put_none wH_s setE_apply setE_env less_eq env_cons env_nil upd_upd upd_apply del_apply startA_eq cells_ag cells_sl one_sl cells_vs one_vs cells_ep one_ep cells_fn one_fn cells_int one_int cells_bool one_bool cells_string one_string cells_pointer one_pointer cells_slice one_slice cells_map one_map cells_agg resK_one resK_nil resK_two rvK_t rvK_c rvsK_nil rvsK_cons iseq_nil iseq_cons gdA_true gdA_false gdA_undef istep_free istep_guard istepV_free istepV_guard dseq_nil dseq_pu dseq_rd dseq_ef wpc_regT dtree_nil dtree_pu dtree_rd dtree_ef dtree_br chkAll_nil chkAll_cons andK_true pickK_true pickK_false pickK_tb pickK_fb bin2K_pl eqbK_eq eqbK_ne eqpK_eq eqpK_ne eqmK_eq eqmK_ne eqzK_eq eqzK_ne eqzK_sl eqzK_vs un1K_pl convK_int fillK_some fillA_cons fillA_nil cellsK_some needK_true needK_ok seeK_ep seeK_ptr oneK_agg oneK_one nilcK_ptr nilcK_ep fadrK_ptr fadrK_ep fldK_ag iadAK_ptr iadAK_ep iadSK_sl iadSK_vs extK_0 extK_1 extK_2 extK_3 lenK_pl lenK_sl lenK_vs lensK_pl boxK_some minmax1K_int storeK_ptr callvK_fn callvK_pl newsK_nil newsK_vs newsK_sl appK_nil appK_nil0 appK_sl appK_vs bnd1K_int bndK_none bndK_some slsK_vs slsK_nil slsK_sl0 slsK_sl slstrK_pl boolK_some eqsK_ag iop_eqs iop_sls iop_slstr seesK_some seesK_ro mapsK_some MAP_some findK_some findK_none plK_pl nmapK_none nmapK_some iop_mlook iop_mlen iop_mmk iop_mupd iop_mdel iop_mrng itK_none itK_some ptr0K_ptr iop_mnxt iop_ment it1K_some entK_some iop_mov iop_pick iop_bin iop_eqb iop_eqp iop_eqm iop_eqz iop_un capK_pl capK_sl capK_vs iop_cap iop_b2s b2sK_nil b2sK_sl b2sK_vs strK_some iop_idxv idxvK_ag atK_some apzK_nil iop_apz mksK_int iop_mks clrK_sl clrK_vs clrK_nil iop_clr iop_conv iop_build iop_load iop_nilc iop_fadr iop_fld iop_iadA iop_iadS iop_ext iop_mkf iop_len iop_lens iop_minmax iop_al iop_box iop_bsl iop_store iop_call iop_callv iop_app BIN_add BIN_sub BIN_mul BIN_and BIN_or BIN_xor BIN_andNot BIN_eql BIN_neq BIN_lss BIN_leq BIN_gtr BIN_geq BIN_quo BIN_rem BIN_shl BIN_shr BIN_sadd BIN_seql BIN_sneq BIN_slss BIN_sleq BIN_sgtr BIN_sgeq UN_neg UN_xor UN_not MM_nil MM_cons partsA argsA ptrA lessL eqL min2I slotN_int slotP_int slotI_int
attribute [local simp] rc_len rc_t4 rc_t1 rc_t2 rc_t3 rc_d1 rc_d2 rc_d3 rc_d4 rc_ag rc_one rc_eq

def insC (ps : List Int) (N : Nat) : List AV := (List.range N).map fun (k : Nat) => vb (decide ((k : Int) ∈ ps))
theorem insC_len (ps : List Int) (N : Nat) : (insC ps N).length = N := by simp [insC]
theorem insC_get {ps : List Int} {N k : Nat} (h : k < N) : (insC ps N)[k]? = some (vb (decide ((k : Int) ∈ ps))) := by
  unfold insC
  rw [List.getElem?_map, List.getElem?_range h]; rfl
theorem insC_nil (N : Nat) : (List.replicate N [vb false]).flatten = insC [] N := by
  refine List.ext_getElem? fun k => ?_
  have hf : (List.replicate N [vb false]).flatten = List.replicate N (vb false) := by
    induction N with
    | zero => rfl
    | succ n ih => rw [List.replicate_succ, List.flatten_cons, ih]; rfl
  rw [hf]
  by_cases hk : k < N
  · rw [insC_get hk, List.getElem?_replicate, if_pos hk]; simp
  · rw [List.getElem?_eq_none (by simp; omega), List.getElem?_eq_none (by rw [insC_len]; omega)]
theorem insC_set {ps : List Int} {N : Nat} {p : Int} (h0 : 0 ≤ p) (h1 : p < N) : (insC ps N).take p.toNat ++ [vb true] ++ (insC ps N).drop (p.toNat + 1) = insC (ps ++ [p]) N := by
  have hs : (insC ps N).take p.toNat ++ [vb true] ++ (insC ps N).drop (p.toNat + 1) = (insC ps N).set p.toNat (vb true) := by
    rw [List.set_eq_take_append_cons_drop, if_pos (by rw [insC_len]; omega)]; simp
  rw [hs]
  refine List.ext_getElem? fun k => ?_
  by_cases hk : k < N
  · rw [insC_get hk]
    by_cases he : k = p.toNat
    · subst he
      rw [List.getElem?_set_self (by rw [insC_len]; omega)]
      have : ((p.toNat : Nat) : Int) = p := by omega
      simp [this]
    · rw [List.getElem?_set_ne (by omega), insC_get hk]
      have : ¬ (k : Int) = p := by omega
      simp [this]
  · rw [List.getElem?_eq_none (by rw [List.length_set, insC_len]; omega), List.getElem?_eq_none (by rw [insC_len]; omega)]
/-- What is held: the marks at the positions seen, and the numbers collected. -/
structure EI (G H : AH) (ri b11 N : Nat) (ps D : List Int) : Prop where
  sub : Sub G H
  rc : H ri = some (.cells (insC ps N))
  gri : G ri = none
  gb : G b11 = none
  ne : ri ≠ b11
  row : ∃ o, H b11 = some (.cells [o]) ∧ ((D = [] ∧ o = vnil) ∨ ∃ q, o = .sl q 0 D.length 1 false ∧ H q = some (.cells (D.map v32)) ∧ G q = none ∧ q ≠ ri ∧ q ≠ b11)
section
variable {G H : AH} {ri b11 N : Nat} {ps D : List Int}
theorem EI.rw {o : AV} (h : EI G H ri b11 N ps D) (ho : H b11 = some (.cells [o])) : Rw H o (D.map v32) D.length 1 := by
  obtain ⟨o', h1, h2⟩ := h.row
  rw [ho] at h1
  injection h1 with h1; injection h1 with h1; injection h1 with h1 _
  subst h1
  rcases h2 with ⟨rfl, rfl⟩ | ⟨q, rfl, h3, _⟩
  · exact Rw.nil _ _
  · exact Rw.sl (by simp) h3
theorem EI.add (h : EI G H ri b11 N ps D) {y : Nat} (hy : H y = none) (X : AO) : EI (upd G y X) (upd H y X) ri b11 N ps D := by
  have n1 : ri ≠ y := ne_of_free h.rc hy
  obtain ⟨o, h1, h2⟩ := h.row
  have n2 : b11 ≠ y := ne_of_free h1 hy
  refine ⟨h.sub.cong, by simp [upd_apply, n1, h.rc], by simp [upd_apply, n1, h.gri], by simp [upd_apply, n2, h.gb], h.ne, o, by simp [upd_apply, n2, h1], ?_⟩
  rcases h2 with h2 | ⟨q, h3, h4, h5, h6, h7⟩
  · exact .inl h2
  · have n3 : q ≠ y := ne_of_free h4 hy
    exact .inr ⟨q, h3, by simp [upd_apply, n3, h4], by simp [upd_apply, n3, h5], h6, h7⟩
/-- Another mark. -/
theorem EI.mark (h : EI G H ri b11 N ps D) {p : Int} (h0 : 0 ≤ p) (h1 : p < N) : EI G (upd H ri (.cells ((insC ps N).take p.toNat ++ [vb true] ++ (insC ps N).drop (p.toNat + 1)))) ri b11 N (ps ++ [p]) D := by
  obtain ⟨o, h3, h4⟩ := h.row
  rw [insC_set h0 h1]
  refine ⟨h.sub.upd h.gri, by simp [upd_apply], h.gri, h.gb, h.ne, o, by simp [upd_apply, Ne.symm h.ne, h3], ?_⟩
  rcases h4 with h4 | ⟨q, g3, g4, g5, g6, g7⟩
  · exact .inl h4
  · exact .inr ⟨q, g3, by simp [upd_apply, g6, g4], g5, g6, g7⟩
/-- Another number. -/
theorem EI.app (h : EI G H ri b11 N ps D) {o : AV} (ho : H b11 = some (.cells [o])) {Hc : AH} (hs : Sub H Hc) {x : Int} (hD : D.length ≤ 100000000) {k : AV → AH → Prop}
    (hk : ∀ r H', H' b11 = some (.cells [o]) → EI G (upd H' b11 (.cells [.sl r 0 (D.length + 1) 1 false])) ri b11 N ps (D ++ [x]) → k (.sl r 0 (D.length + 1) 1 false) H') : @appK Hc 1 4 o 1 [v32 x] ⟨k⟩ := by
  obtain ⟨o', h1, h2⟩ := h.row
  rw [ho] at h1
  injection h1 with h1; injection h1 with h1; injection h1 with h1 _
  subst h1
  -- the view without the row
  obtain ⟨H3, h3, hG3, hr3, hb3⟩ : ∃ H3, Row H3 H o (D.map v32) D.length 1 ∧ Sub G H3 ∧ H3 ri = some (.cells (insC ps N)) ∧ H3 b11 = some (.cells [o]) := by
    rcases h2 with ⟨rfl, rfl⟩ | ⟨q, rfl, g3, g4, g5, g6⟩
    · exact ⟨H, by simpa using Row.nil H 1, h.sub, h.rc, ho⟩
    · refine ⟨del H q, .inr ⟨q, rfl, by simp [del_apply], ?_⟩, Sub.del h.sub g4, by simp [del_apply, Ne.symm g5, h.rc], by simp [del_apply, Ne.symm g6, ho]⟩
      funext j
      simp only [upd_apply, del_apply]
      by_cases e : j = q
      · subst e; simp [g3]
      · simp [e]
  refine h3.app hs (by decide) rfl (by simp) (by omega) fun r H' hr hsr => ?_
  have hrr : H' r = some (.cells (D.map v32 ++ [v32 x])) := hsr _ _ (by simp [upd_apply])
  have hsub3 : Sub H3 H' := ((Sub.refl H3).upd hr).trans hsr
  have n1 : r ≠ b11 := by rintro rfl; rw [hr] at hb3; cases hb3
  have n2 : r ≠ ri := by rintro rfl; rw [hr] at hr3; cases hr3
  refine hk r H' (hsub3 _ _ hb3) ⟨(hG3.trans hsub3).upd h.gb, by simp [upd_apply, h.ne, hsub3 _ _ hr3], h.gri, h.gb, h.ne, .sl r 0 (D.length + 1) 1 false, by simp [upd_apply], .inr ⟨r, by simp, by simp [upd_apply, n1, hrr], ?_, n2, n1⟩⟩
  cases e : G r with
  | none => rfl
  | some o => rw [hG3 _ _ e] at hr; cases hr
end
theorem diff_snoc (o n : List Px) (ps : List Int) (p : Int) : diffF o n (ps ++ [p]) = diffF o n ps ++ [xorI (packF (getP o p)) (packF (getP n p))] := by simp [diffF]
theorem getP_at {l : List Px} {p : Int} (h0 : 0 ≤ p) (h1 : p.toNat < l.length) : getP l p = l[p.toNat] := by
  unfold getP
  rw [List.getD_eq_getElem?_getD, List.getElem?_eq_getElem h1]; rfl
theorem pxc_one (p : Px) : (pxc p).all AV.one = true := rfl
theorem pxc_eqL (a b : Px) : eqL [1, 1, 1, 1] (pxc a) (pxc b) = some (decide (a = b)) := by
  obtain ⟨a0, a1, a2, a3⟩ := a
  obtain ⟨b0, b1, b2, b3⟩ := b
  simp [pxc, v8, eqL]
  rfl
end Go.Proofs.YtkjkolacnpknoaaGreat
end

/-! The head of an encoding, walked. Conditions: as each lemma states them. -/
section
namespace Go.Proofs.YtkjkolacnpknoaaGreat
open Go Go.Ab Go.RowKit
set_option linter.unusedSimpArgs false
set_option linter.unusedVariables false
set_option linter.unnecessarySimpa false

attribute [local simp] condK_true condK_false condK_not wpc_skip wpc_ret wpc_exit wpc_seq wpc_reg wpc_regD testA_bool wpc_cond wpc_block thenA_normal thenA_ret thenA_exit blockA_normal blockA_ret blockA_exit blockA_other endA_normal endA_ret ev_tmp' ev_const ev_func ev_global cv_int cv_bool cv_string cv_pointer cv_slice cv_agg cv_map put_some put_none wH_s setE_apply setE_env less_eq env_cons env_nil upd_upd upd_apply del_apply startA_eq cells_ag cells_sl one_sl cells_vs one_vs cells_ep one_ep cells_fn one_fn cells_int one_int cells_bool one_bool cells_string one_string cells_pointer one_pointer cells_slice one_slice cells_map one_map cells_agg resK_one resK_nil resK_two rvK_t rvK_c rvsK_nil rvsK_cons iseq_nil iseq_cons gdA_true gdA_false gdA_undef istep_free istep_guard istepV_free istepV_guard dseq_nil dseq_pu dseq_rd dseq_ef wpc_regT dtree_nil dtree_pu dtree_rd dtree_ef dtree_br chkAll_nil chkAll_cons andK_true pickK_true pickK_false pickK_tb pickK_fb bin2K_pl eqbK_eq eqbK_ne eqpK_eq eqpK_ne eqmK_eq eqmK_ne eqzK_eq eqzK_ne eqzK_sl eqzK_vs un1K_pl convK_int fillK_some fillA_cons fillA_nil cellsK_some needK_true needK_ok seeK_ep seeK_ptr oneK_agg oneK_one nilcK_ptr nilcK_ep fadrK_ptr fadrK_ep fldK_ag iadAK_ptr iadAK_ep iadSK_sl iadSK_vs extK_0 extK_1 extK_2 extK_3 lenK_pl lenK_sl lenK_vs lensK_pl boxK_some minmax1K_int storeK_ptr callvK_fn callvK_pl newsK_nil newsK_vs newsK_sl appK_nil appK_nil0 appK_sl appK_vs bnd1K_int bndK_none bndK_some slsK_vs slsK_nil slsK_sl0 slsK_sl slstrK_pl boolK_some eqsK_ag iop_eqs iop_sls iop_slstr seesK_some seesK_ro mapsK_some MAP_some findK_some findK_none plK_pl nmapK_none nmapK_some iop_mlook iop_mlen iop_mmk iop_mupd iop_mdel iop_mrng itK_none itK_some ptr0K_ptr iop_mnxt iop_ment it1K_some entK_some iop_mov iop_pick iop_bin iop_eqb iop_eqp iop_eqm iop_eqz iop_un capK_pl capK_sl capK_vs iop_cap iop_b2s b2sK_nil b2sK_sl b2sK_vs strK_some iop_idxv idxvK_ag atK_some apzK_nil iop_apz mksK_int iop_mks clrK_sl clrK_vs clrK_nil iop_clr iop_conv iop_build iop_load iop_nilc iop_fadr iop_fld iop_iadA iop_iadS iop_ext iop_mkf iop_len iop_lens iop_minmax iop_al iop_box iop_bsl iop_store iop_call iop_callv iop_app BIN_add BIN_sub BIN_mul BIN_and BIN_or BIN_xor BIN_andNot BIN_eql BIN_neq BIN_lss BIN_leq BIN_gtr BIN_geq BIN_quo BIN_rem BIN_shl BIN_shr BIN_sadd BIN_seql BIN_sneq BIN_slss BIN_sleq BIN_sgtr BIN_sgeq UN_neg UN_xor UN_not MM_nil MM_cons partsA argsA ptrA lessL eqL min2I slotN_int slotP_int slotI_int
attribute [local simp] rc_len rc_t4 rc_t1 rc_t2 rc_t3 rc_d1 rc_d2 rc_d3 rc_d4 rc_ag rc_one rc_eq fd8 m8 sh8 or_nf xor_nf

theorem two_at {l : List Int} {j : Nat} (h : j + 1 < l.length) : ((l.map v8).drop (j * 1)).take ((j + 2 - j) * 1) = [l.getD j 0, l.getD (j + 1) 0].map v8 := by
  have e : (j + 2 - j) * 1 = 2 := by omega
  rw [e, Nat.mul_one, ← List.map_drop, ← List.map_take, List.drop_eq_getElem_cons (by omega), List.take_succ_cons, List.drop_eq_getElem_cons h, List.take_succ_cons, List.take_zero]
  rw [List.getD_eq_getElem?_getD, List.getD_eq_getElem?_getD, List.getElem?_eq_getElem (by omega), List.getElem?_eq_getElem h]
  rfl
theorem val_two (a b : Int) : valI [a, b] = v2 a b := by
  show a + 256 * (b + 256 * 0) = a + 256 * b
  omega
theorem getD_u8 {l : List Int} (h : ∀ x ∈ l, U8 x) (j : Nat) : U8 (l.getD j 0) := by
  rw [List.getD_eq_getElem?_getD]
  cases e : l[j]? with
  | none => exact ⟨by decide, by decide⟩
  | some x => exact h x (List.mem_of_getElem? e)
theorem at2_rng {l : List Int} (h : ∀ x ∈ l, U8 x) (j : Nat) : 0 ≤ at2 l j ∧ at2 l j < 65536 := by
  have h1 := getD_u8 h j
  have h2 := getD_u8 h (j + 1)
  unfold at2 v2 U8 at *
  omega
theorem good_at : goodCallee Tryz.prog 42 = true := by kernel_rfl
theorem c42 {H : AH} {K : AV → AH → Prop} {z y i k : Nat} {a : AV} {t : List Int} (hz : H z = some (.cells [a])) (hy : H y = some (.cells [vi i])) (ha : Rw H a (t.map v8) t.length 1) (hu : ∀ x ∈ t, U8 x) (hk4 : k < 4) (hi : 8 * i + 8 ≤ t.length) (hl : t.length ≤ 10000000)
    (hk : K (vi (at2 t (8 * i + 2 * k))) H) : @AC Tryz.prog 42 [vi k, pA z, pA y] H ⟨K⟩ := by
  have w1 := IntWalk.i64_in (8 * (i : Int)) (by omega)
  have w2 := IntWalk.i64_in (2 * (k : Int)) (by omega)
  have w3 := IntWalk.i64_in (8 * (i : Int) + 2 * (k : Int)) (by omega)
  have w4 := IntWalk.i64_in (8 * (i : Int) + 2 * (k : Int) + 2) (by omega)
  refine AC_of (.forget ?_)
  refine call_c follows cf42_ok (by simp) ?_
  simp [hz, hy, w1, w2, w3, w4]
  refine Rw.slice ha (l := 8 * i + 2 * k) (u := 8 * i + 2 * k + 2) (by omega) (by omega) (fun k => by simp) (fun k => by simp) fun a2 ha2 => ?_
  rw [two_at (by omega), show 8 * i + 2 * k + 2 - (8 * i + 2 * k) = 2 by omega] at ha2
  have ha3 : Rw H a2 ([t.getD (8 * i + 2 * k) 0, t.getD (8 * i + 2 * k + 1) 0].map v8) [t.getD (8 * i + 2 * k) 0, t.getD (8 * i + 2 * k + 1) 0].length 1 := ha2
  have ca := Rw.cells ha3
  simp [ca]
  refine c41 ha3 (by simp) (by intro x hx; simp at hx; rcases hx with rfl | rfl <;> exact getD_u8 hu _) ?_
  rw [val_two]
  have hr := at2_rng hu (8 * i + 2 * k)
  have wv : IntKind.i64.wrap (v2 (t.getD (8 * i + 2 * k) 0) (t.getD (8 * i + 2 * k + 1) 0)) = at2 t (8 * i + 2 * k) := IntWalk.i64_in (at2 t (8 * i + 2 * k)) (by omega)
  simp only [List.getD_eq_getElem?_getD] at wv ⊢
  simp [wv]
  exact ⟨H, Sub.refl _, hk⟩
def inB (w h : Int) (r : R) : Bool := decide (r.x1 ≤ w) && decide (r.y1 ≤ h)
set_option maxHeartbeats 2000000 in
theorem c16 {H : AH} {K : AV → AH → Prop} {a : AV} {b : List Int} {w h : Int} (ha : Rw H a (b.map v8) b.length 1) (hu : ∀ x ∈ b, U8 x) (hl : b.length ≤ 1000000) (hw : 1 ≤ w ∧ w ≤ 256) (hh : 1 ≤ h ∧ h ≤ 256)
    (hok : ∀ l rest out out2 H', rectsM w h b = ((l, rest), 0) → Row H H' out (flat rc l) l.length 4 → Rw H out2 (rest.map v8) rest.length 1 → K (.tp [out, out2, vi 0]) H')
    (herr : ∀ e : Int, (rectsM w h b).2 = e → e ≠ 0 → K (.tp [vnil, vnil, vi e]) H) : @AC Tryz.prog 16 [a, .ag (rc (fr w h))] H ⟨K⟩ := by
  have la := fun k => Rw.lenK ha (k := k)
  have ca := Rw.cells ha
  have oa := Rw.one ha
  refine AC_of (.forget ?_)
  refine call_c follows cf16_ok (by simp) ?_
  simp [ca]
  refine newK_of fun z hz => ?_
  have hsz : Sub H (upd H z (.cells [a])) := (Sub.refl H).upd hz
  simp
  refine newK_of fun z3 hz3 => ?_
  obtain ⟨n3, n3', hz3H⟩ := upd_none'.1 hz3
  have hS0 : Sub H (upd (upd H z (.cells [a])) z3 (.cells (rc (fr w h)))) := hsz.upd hz3H
  have kz : upd (upd H z (.cells [a])) z3 (.cells (rc (fr w h))) z = some (.cells [a]) := by simp [upd_apply, n3, n3']
  have kz3 : upd (upd H z (.cells [a])) z3 (.cells (rc (fr w h))) z3 = some (.cells (rc (fr w h))) := by simp [upd_apply]
  generalize upd (upd H z (.cells [a])) z3 (.cells (rc (fr w h))) = G at *
  simp [kz, la, oa]
  by_cases h2 : b.length < 2
  · have h2' : (b.length : Int) < 2 := by omega
    have he : rectsM w h b = (([], []), 4) := by
      match b, h2 with
      | [], _ => rfl
      | [x], _ => rfl
      | _ :: _ :: _, h2 => simp at h2; omega
    simp [h2']
    exact ⟨H, hS0, herr 4 (by rw [he]) (by decide)⟩
  have h2' : ¬ (b.length : Int) < 2 := by omega
  obtain ⟨x, y, t, rfl⟩ : ∃ x y t, b = x :: y :: t := by
    match b, h2 with
    | x :: y :: t, _ => exact ⟨x, y, t, rfl⟩
    | [], h2 => simp at h2
    | [x], h2 => simp at h2
  have la : ∀ k : AV → Prop, @lenK a ⟨k⟩ = k (vi ((t.length : Int) + 2)) := fun k => by rw [la]; congr 2
  have h2' : ¬ (t.length : Int) + 2 < 2 := by omega
  simp only [List.length_cons] at hl
  have h2'' : ¬ (t.length : Int) + 1 + 1 < 2 := by omega
  simp (disch := omega) [la, h2', h2'', kz, oa, ca]
  refine Rw.slice ha (l := 0) (u := 2) (by omega) (by simp) (fun k => bndK_none) (fun k => by simp) fun a2 ha2 => ?_
  have ha2 : Rw H a2 ([x, y].map v8) [x, y].length 1 := by simpa using ha2
  have ca2 := Rw.cells ha2
  have hx8 := hu x (by simp)
  have hy8 := hu y (by simp)
  have hut : ∀ v ∈ t, U8 v := fun v hv => hu v (by simp [hv])
  simp [ca2]
  refine c41 (ha2.sub hS0) (by simp) (by intro v hv; simp at hv; rcases hv with rfl | rfl <;> assumption) ?_
  rw [val_two]
  have hvr : 0 ≤ v2 x y ∧ v2 x y < 65536 := by unfold v2 U8 at *; omega
  have hrm : rectsM w h (x :: y :: t) = if 256 < v2 x y then (([], []), 3) else if t.length < 8 * (v2 x y).toNat then (([], []), 4)
    else if okL w h (parseR (v2 x y).toNat t) = true then ((parseR (v2 x y).toNat t, t.drop (8 * (v2 x y).toNat)), 0) else (([], []), 3) := rfl
  have wv := IntWalk.i64_in (v2 x y) (by omega)
  generalize v2 x y = V at *
  simp [wv, kz]
  refine Rw.slice ha (l := 2) (u := (x :: y :: t).length) (by simp) (by omega) (fun k => by simp) (fun k => bndK_none) fun a3 ha3 => ?_
  have ha3 : Rw H a3 (t.map v8) t.length 1 := by
    have := ha3
    simp at this
    rw [List.take_of_length_le (by simp)] at this
    exact this
  have ca3 := Rw.cells ha3
  have oa3 := Rw.one ha3
  have la3 := fun k => Rw.lenK ha3 (k := k)
  obtain ⟨N, rfl⟩ : ∃ N : Nat, V = N := ⟨V.toNat, by omega⟩
  have hNN : ((N : Int)).toNat = N := by omega
  rw [hNN] at hrm
  simp [ca3, oa3, kz]
  have hS1 : Sub H (upd G z (.cells [a3])) := hS0.upd hz
  have kz' : upd G z (.cells [a3]) z = some (.cells [a3]) := by simp [upd_apply]
  have kz3' : upd G z (.cells [a3]) z3 = some (.cells (rc (fr w h))) := by simp [upd_apply, n3, kz3]
  generalize upd G z (.cells [a3]) = G2 at *
  by_cases h256 : (256 : Int) < N
  · rw [if_pos h256] at hrm
    simp [h256]
    exact ⟨H, hS1, herr 3 (by rw [hrm]) (by decide)⟩
  have h256' : ¬ 256 < N := by omega
  rw [if_neg h256] at hrm
  have w8 := IntWalk.i64_in (8 * (N : Int)) (by omega)
  by_cases h8 : t.length < 8 * N
  · have h8' : (t.length : Int) < 8 * N := by omega
    rw [if_pos h8] at hrm
    simp [h256, la3, w8, h8', h8, kz', oa3]
    exact ⟨H, hS1, herr 4 (by rw [hrm]) (by decide)⟩
  have h8' : ¬ (t.length : Int) < 8 * N := by omega
  rw [if_neg h8] at hrm
  simp [h256, la3, w8, h8', h8, kz', oa3]
  have h8n : 8 * N ≤ t.length := by omega
  have hplen := parse_len N t h8n
  have hpget := fun i hi => parse_get N t i h8n hi
  have hN : N ≤ 256 := by omega
  have hbs := rbs_parse N t h8n hut
  obtain ⟨l, hl2⟩ : ∃ l, parseR N t = l := ⟨_, rfl⟩
  rw [hl2] at hrm hplen hbs
  have hpget : ∀ i, i < N → l[i]? = some ⟨at2 t (8 * i), at2 t (8 * i + 2), at2 t (8 * i + 4), at2 t (8 * i + 6)⟩ := fun i hi => by rw [← hl2]; exact hpget i hi
  refine wpc_loop (fun s => ∃ (i : Nat) (o : AV), s.n = 70 ∧ s.t 2 = pA z ∧ s.t 3 = pA z3 ∧ s.t 7 = vi N ∧ s.t 8 = o ∧ s.t 30 = vi N ∧ s.t 31 = vi i ∧ i ≤ N ∧ Row G2 s.H o (flat rc (l.take i)) i 4) (fun s => N - slotN (s.t 31)) ?_ ?_
  · exact FgK.same ⟨0, vnil, by simp, by simp, by simp, by simp, by simp, by simp, by simp, by omega, by simpa [flat] using Row.nil G2 4⟩
  rintro s ⟨i, o, hg, e2, e3, e7, e8, e30, e31, hi, hrow⟩
  generalize hHeq : s.H = Hs at *
  have hsG := hrow.sub
  by_cases hlt : i < N
  · have hltl : i < l.length := by omega
    have hlt' : (i : Int) < N := by omega
    have wi := IntWalk.i64_in ((i : Int) + 1) (by omega)
    have hgi := hpget i hlt
    have et := take_snoc' hltl
    rw [List.getElem?_eq_getElem hltl] at hgi
    injection hgi with hgi
    simp (disch := omega) [hg, hHeq, e2, e3, e7, e8, e30, e31, hlt]
    refine newK_of fun y hy => ?_
    have hsy : Sub Hs (upd Hs y (.cells [vi (i : Int)])) := (Sub.refl Hs).upd hy
    have ky : upd Hs y (.cells [vi (i : Int)]) y = some (.cells [vi (i : Int)]) := by simp [upd_apply]
    have kzy := hsy _ _ (hsG _ _ kz')
    have hay := ha3.sub ((hS1.trans hsG).trans hsy)
    simp [good_at]
    generalize upd Hs y (.cells [vi (i : Int)]) = Hy at *
    refine c42 (k := 0) kzy ky hay hut (by decide) (by omega) (by omega) ?_
    simp [good_at]
    refine c42 (k := 1) kzy ky hay hut (by decide) (by omega) (by omega) ?_
    simp [good_at]
    refine c42 (k := 2) kzy ky hay hut (by decide) (by omega) (by omega) ?_
    simp [good_at]
    refine c42 (k := 3) kzy ky hay hut (by decide) (by omega) (by omega) ?_
    have f0 : 8 * i + 2 * 0 = 8 * i := by omega
    have f1 : 8 * i + 2 * 1 = 8 * i + 2 := by omega
    have f2 : 8 * i + 2 * 2 = 8 * i + 4 := by omega
    have f3 : 8 * i + 2 * 3 = 8 * i + 6 := by omega
    simp
    generalize l[i] = r at *
    refine newK_of fun y2 hy2 => ?_
    rw [← hgi]
    have hsy2 : Sub Hs (upd Hy y2 (.cells (rc r))) := hsy.trans ((Sub.refl Hy).upd hy2)
    generalize hx4 : AV.sl y2 0 1 4 true = x4
    have hnw : ∀ k : Nat → List AV → Prop, @NEWS (upd Hy y2 (.cells (rc r))) x4 4 ⟨k⟩ = k 1 (rc r) := by intro k; rw [← hx4]; simp
    simp [hnw]
    refine hrow.app hsy2 (by decide) rfl (by rw [flat_len rc_l, List.length_take]; omega) (by omega) fun q H' hq hsq => ?_
    simp (disch := omega) [e31, wi]
    refine FgK.of _ hsq ⟨⟨i + 1, .sl q 0 (i + 1) 4 false, by simp, by simp, by simp, by simp, by simp, by simp [e30], by simp, by omega, ?_⟩, by simp [e31]; omega⟩
    have := Row.mk (cs := flat rc (l.take i ++ [r])) (n := i + 1) (sz := 4) hq
    rw [et]
    rw [← flat_snoc] at this ⊢
    exact this
  · have he : i = N := by omega
    subst he
    rw [List.take_of_length_le (by omega)] at hrow
    have hr : Rr Hs o l := by
      have := (hrow.rin (by rw [flat_len rc_l, hplen])).rd
      unfold Rr
      rw [hplen]
      exact this
    have co := Rw.cells hr
    have lo := fun k => Rw.lenK hr (k := k)
    simp (disch := omega) [hg, hHeq, e2, e3, e7, e8, e30, e31, co]
    refine c43 hr (by omega) ?_
    simp [lo]
    have hne : canonF l = l → ∀ r ∈ l, rempty r = false := canon_nemp
    have hokl : okL w h l = (decide (canonF l = l) && l.all (inB w h)) := rfl
    refine wpc_loop (fun s2 => ∃ (j : Nat), s2.n = 70 ∧ s2.H = Hs ∧ s2.t 2 = pA z ∧ s2.t 3 = pA z3 ∧ s2.t 7 = vi i ∧ s2.t 8 = o ∧ s2.t 11 = vb (decide (canonF l = l) && (l.take j).all (inB w h)) ∧ s2.t 50 = o ∧ s2.t 51 = vi l.length ∧ s2.t 52 = vi j ∧ j ≤ l.length) (fun s2 => l.length - slotN (s2.t 52)) ?_ ?_
    · exact FgK.same ⟨0, by simp, by simp, by simp, by simp, by simp, by simp, by simp, by simp, by simp, by simp, by omega⟩
    rintro s2 ⟨j, hg2, hH2, f2, f3, f7, f8, f11, f50, f51, f52, hj⟩
    by_cases hjl : j < l.length
    · have wj := IntWalk.i64_in ((j : Int) + 1) (by omega)
      obtain ⟨p, hp1, hp2⟩ := fsee rc_l hr hjl
      have et := take_snoc' hjl
      have hall : (l.take (j + 1)).all (inB w h) = ((l.take j).all (inB w h) && inB w h l[j]) := by rw [et, List.all_append]; simp
      have hnr := fun hc => hne hc _ (List.getElem_mem hjl)
      have h16 := hbs.2 _ (List.getElem_mem hjl)
      generalize l[j] = r at *
      simp (disch := omega) [hg2, hH2, f2, f3, f7, f8, f50, f51, f52, hjl, hp1, hp2 _ (Sub.refl _)]
      refine newK_of fun y hy => ?_
      have hsy : ∀ X, Sub Hs (upd Hs y X) := fun X => (Sub.refl Hs).upd hy
      have k3y := fun X => hsy X _ _ (hsG _ _ kz3')
      cases hc : (decide (canonF l = l) && (l.take j).all (inB w h)) with
      | false =>
        rw [hc] at f11
        have hc2 : (decide (canonF l = l) && (l.take (j + 1)).all (inB w h)) = false := by
          rw [hall, ← Bool.and_assoc, hc]; rfl
        simp [f11, wj]
        refine FgK.of Hs (hsy _) ⟨⟨j + 1, by simp, by simp, by simp, by simp, by simp, by simp, by simp [hc2], by simp [f50], by simp [f51], by simp, by omega⟩, by simp [f52]; omega⟩
      | true =>
        rw [hc] at f11
        have hcan : canonF l = l := by
          have := (Bool.and_eq_true _ _ ▸ hc).1
          simpa using this
        have hrn := hnr hcan
        have hwf := within_fr (w := w) (h := h) hrn (by unfold W16 at h16; omega) hw hh
        have hc2 : (decide (canonF l = l) && (l.take (j + 1)).all (inB w h)) = inB w h r := by
          rw [hall, ← Bool.and_assoc, hc]; rfl
        have kz3s := hsG _ _ kz3'
        have n3y : ¬ z3 = y := ne_of_free kz3s hy
        simp [f11, n3y, kz3s]
        refine (c44 r (fr w h)).ac ?_
        rw [hwf]
        simp [wj]
        refine FgK.of Hs (hsy _) ⟨⟨j + 1, by simp, by simp, by simp, by simp, by simp, by simp, by simp only [hc2]; simp [inB], by simp [f50], by simp [f51], by simp, by omega⟩, by simp [f52]; omega⟩
    · have hje : j = l.length := by omega
      subst hje
      rw [List.take_length, ← hokl] at f11
      cases hok2 : okL w h l with
      | false =>
        rw [hok2] at f11
        rw [hok2, if_neg (by simp)] at hrm
        simp (disch := omega) [hg2, hH2, f2, f3, f7, f8, f11, f50, f51, f52]
        exact ⟨H, hS1.trans hsG, herr 3 (by rw [hrm]) (by decide)⟩
      | true =>
        rw [hok2] at f11
        rw [hok2, if_pos rfl] at hrm
        have kzs := hsG _ _ kz'
        simp (disch := omega) [hg2, hH2, f2, f3, f7, f8, f11, f50, f51, f52, kzs, w8, co, oa3]
        refine Rw.slice ha3 (l := 8 * i) (u := t.length) (by omega) (by omega) (fun k => by simp) (fun k => bndK_none) fun a4 ha4 => ?_
        have ha4 : Rw H a4 ((t.drop (8 * i)).map v8) (t.drop (8 * i)).length 1 := by
          have := ha4
          rw [Nat.mul_one, Nat.mul_one, ← List.map_drop, List.take_of_length_le (by simp)] at this
          rw [List.length_drop]
          exact this
        have ca4 := Rw.cells ha4
        obtain ⟨H5, h5, hrow5⟩ := hrow.out hS1
        simp [ca4, co]
        refine ⟨H5, h5, hok l _ o a4 H5 hrm ?_ ha4⟩
        rw [hplen]
        exact hrow5
end Go.Proofs.YtkjkolacnpknoaaGreat
end
