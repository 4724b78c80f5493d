/-
  Shared words for the walks: numbers and bools as abstract values, heaps that only grow, fresh blocks, tests that are decided.
-/
import Derived.Test.YtmpncpamndhmcaaGreatAbK
namespace Go.Ab
open Go.RowKit
set_option linter.unusedVariables false
set_option linter.unusedSimpArgs false

abbrev vi (n : Int) : AV := .pl (.int .i64 n)
abbrev vb (b : Bool) : AV := .pl (.bool b)
abbrev pA (p : Nat) : AV := .pl (.pointer (some ⟨p, 0, none⟩))
abbrev vnil : AV := .pl (.slice none 0 0)

def slotN (a : AV) : Nat := match a with
  | .pl (.int _ n) => n.toNat
  | _ => 0
theorem slotN_int {k : IntKind} {n : Int} : slotN (.pl (.int k n)) = n.toNat := rfl
def slotP (a : AV) : Nat := match a with
  | .pl (.int _ n) => (n + 1).toNat
  | _ => 0
theorem slotP_int {k : IntKind} {n : Int} : slotP (.pl (.int k n)) = (n + 1).toNat := rfl

/-- Only new blocks. -/
def Ext (H H' : AH) : Prop := ∀ j, H j ≠ none → H' j = H j
theorem Ext.refl (H : AH) : Ext H H := fun _ _ => rfl
theorem Ext.trans {H H1 H2 : AH} (h : Ext H H1) (k : Ext H1 H2) : Ext H H2 := fun j hj => by rw [k j (by rw [h j hj]; exact hj), h j hj]
theorem Ext.upd {H H1 : AH} {b : Nat} {o : AO} (h : Ext H H1) (hb : H b = none) : Ext H (upd H1 b o) := fun j hj => by
  simp only [upd_apply]; rw [if_neg (by rintro rfl; exact hj hb), h j hj]
theorem Ext.at {H H' : AH} {b : Nat} {o : AO} (h : Ext H H') (hb : H b = some o) : H' b = some o := by rw [h b (by rw [hb]; simp), hb]
theorem ne_of_free {H : AH} {b z : Nat} {o : AO} (hb : H b = some o) (hz : H z = none) : b ≠ z := by rintro rfl; rw [hb] at hz; cases hz

/-- A call that only adds blocks and answers v. -/
def PC (P : Program) (f : FuncId) (args : List AV) (v : AV) : Prop := ∀ (H : AH) (K : AV → AH → Prop), (∀ H', Ext H H' → K v H') → ACall P f args H K
theorem Ext.sub {H H' : AH} (h : Ext H H') : Sub H H' := fun j o hj => by rw [h j (by rw [hj]; simp), hj]

/-- Of the view behind a call a part may be forgotten. -/
theorem ACall.forget {P : Program} {f : FuncId} {args : List AV} {H : AH} {K : AV → AH → Prop} (h : ACall P f args H fun v H' => ∃ H0, Sub H0 H' ∧ K v H0) : ACall P f args H K := by
  intro S W0 w cs hr ha
  refine (h S W0 w cs hr ha).mono ?_
  rintro e w' ⟨u, S', x, H', rfl, hE, hR, hx, H0, hs, hk⟩
  refine ⟨u, S', x, H0, rfl, ⟨hE.size, hE.same, hE.cells, hE.up, hE.new, fun b => ?_⟩, ⟨hR.below, hR.sub, hR.bound, ?_, ?_, ?_⟩, hx, hk⟩
  · cases e : H0 b with
    | none => exact .inl rfl
    | some o => have := hE.dom b; rw [hs b o e] at this; exact this
  · exact fun k o h => hR.lt k o (hs k o h)
  · intro k h
    refine hR.free k ?_
    cases e : H0 k with
    | none => rw [e] at h; cases h
    | some o => rw [hs k o e, ← e]; exact h
  · exact fun k o h => hR.obj k o (hs k o h)

theorem PC.same {P : Program} {f : FuncId} {args : List AV} {v : AV} (h : PC P f args v) {H : AH} {K : AV → AH → Prop} (hk : K v H) : ACall P f args H K :=
  .forget (h H _ fun H' hE => ⟨H, hE.sub, hk⟩)
theorem PC.of {P : Program} {f : FuncId} {args : List AV} {v : AV} (h : ∀ (H : AH) (K : AV → AH → Prop), (∀ H', Sub H H' → K v H') → ACall P f args H K) : PC P f args v :=
  fun H K hk => h H (fun v H' => ∃ H0, Sub H0 H' ∧ K v H0) (fun H' hs => ⟨H, hs, hk H (.refl _)⟩) |>.forget
theorem upd_none' {H : AH} {k j : Nat} {o : AO} : upd H k o j = none ↔ j ≠ k ∧ k ≠ j ∧ H j = none := by rw [upd_none]; constructor <;> (rintro ⟨h1, h2⟩; simp_all [Ne.symm h1])
theorem free_ne {H : AH} {x : Nat} (h : H x = none) (j : Nat) (hj : (H j).isSome = true) : ¬ j = x ∧ ¬ x = j := by
  have : j ≠ x := by rintro rfl; rw [h] at hj; cases hj
  exact ⟨this, Ne.symm this⟩
theorem fin {K : AV → AH → Prop} {v v' : AV} {H : AH} (hk : K v H) (h : v' = v) : K v' H := h ▸ hk
theorem PC.tell {P : Program} {f : FuncId} {args : List AV} {v : AV} (h : ∀ (H : AH), ACall P f args H (fun v' H' => Sub H H' ∧ v' = v)) : PC P f args v :=
  .of fun H K hk => (h H).mono fun _ _ ⟨h1, h2⟩ => h2 ▸ hk _ h1
theorem Sub.of_upd {H H1 : AH} {b : Nat} {o : AO} (hb : H b = none) (h : Sub H H1) : Sub H (Ab.upd H1 b o) := h.upd hb
theorem PC.ac {P : Program} {f : FuncId} {args : List AV} {v : AV} (h : PC P f args v) {H : AH} {K : AV → AH → Prop} (hk : K v H) : @AC P f args H ⟨K⟩ := h.same hk
theorem AC_of {P : Program} {f : FuncId} {args : List AV} {H : AH} {K : AV → AH → Prop} (h : ACall P f args H K) : @AC P f args H ⟨K⟩ := h

/-! ### With cells that don't change in their place -/
def slotI (a : AV) : Int := match a with
  | .pl (.int _ n) => n
  | _ => 0
theorem slotI_int {k : IntKind} {n : Int} : slotI (.pl (.int k n)) = n := rfl

/-! ### What is handed in -/
theorem Fit.i_inv {k : IntKind} {a : AV} (h : Fit (.i k) a) : ∃ n : Int, a = .pl (.int k n) ∧ (Lit.int k n).wf = true := by cases h; exact ⟨_, rfl, by assumption⟩
theorem Fit.sl_inv {e : List Lf} {a : AV} (h : Fit (.sl e) a) : ∃ n cs, a = .vs n false cs ∧ n ≤ maxLen ∧ cs.length = n * e.length ∧
    ∀ (j : Nat) (l : Lf) (a : AV), cs[j]? = some a → e[j % e.length]? = some l → Fit l a := by cases h; exact ⟨_, _, rfl, by assumption, by assumption, by assumption⟩
theorem FitL.cons_inv {l : Lf} {ls : List Lf} {cs : List AV} (h : FitL (l :: ls) cs) : ∃ c r, cs = c :: r ∧ Fit l c ∧ FitL ls r := by
  obtain ⟨hl, hf⟩ := h
  cases cs with
  | nil => simp at hl
  | cons c r => exact ⟨c, r, rfl, hf 0 _ _ rfl rfl, by simpa using hl, fun j l' a ha hl' => hf (j + 1) l' a (by simpa using ha) (by simpa using hl')⟩
theorem FitL.nil_inv {cs : List AV} (h : FitL [] cs) : cs = [] := by simpa using h.1
theorem FitsT.one {b : Bool} {ls : List Lf} {xs : List AV} (h : FitsT [(b, ls)] xs) : ∃ a, xs = [a] ∧ FitT b ls a := by
  match xs, h with
  | [a], ⟨h, _⟩ => exact ⟨a, rfl, h⟩
/-- The elements of a slice, one after another. -/
theorem FitL.elems {E : Type} {e : List Lf} {enc : E → List AV} (h0 : 0 < e.length) (one : ∀ cs, FitL e cs → ∃ x, cs = enc x) : ∀ (n : Nat) (cs : List AV), cs.length = n * e.length →
    (∀ (j : Nat) (l : Lf) (a : AV), cs[j]? = some a → e[j % e.length]? = some l → Fit l a) → ∃ l : List E, l.length = n ∧ cs = (l.map enc).flatten
  | 0, cs, h, _ => ⟨[], rfl, by simpa using h⟩
  | n + 1, cs, h, hf => by
    have hlen : e.length ≤ cs.length := by rw [h, Nat.add_mul]; omega
    obtain ⟨x, hx⟩ := one (cs.take e.length) ⟨by simp; omega, fun j l a ha hl => by
      rw [List.getElem?_take] at ha
      split at ha
      · rename_i hj
        exact hf j l a ha (by rw [Nat.mod_eq_of_lt hj]; exact hl)
      · cases ha⟩
    obtain ⟨l, h1, h2⟩ := FitL.elems h0 one n (cs.drop e.length) (by simp [h, Nat.add_mul]) (fun j l a ha hl => by
      rw [List.getElem?_drop] at ha
      exact hf _ l a ha (by rw [Nat.add_comm, Nat.add_mod_right]; exact hl))
    refine ⟨x :: l, by simp [h1], ?_⟩
    rw [List.map_cons, List.flatten_cons, ← hx, ← h2, List.take_append_drop]
end Go.Ab
