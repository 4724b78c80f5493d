/-
  Abstract states over the model's worlds: values, a view of a part of the heap, and what an operation, a region, a piece of code and a call do to them.
-/
import Derived.Below
import Derived.Orders
import Derived.RowKit
import Derived.RangeFuncRecord
namespace Go.Ab
open Go.RowKit

/-- An abstract value. `pl`: that very value. `sl b o n sz x`: a slice of n elements of sz cells each, from cell o of block b on, a block that the view holds; x: it is full. `vs n x cs`: a slice whose cells will not change: they read as cs. `ep cs`: a pointer to cells that will not change. -/
inductive AV where
  | pl (v : Value)
  | sl (b o n sz : Nat) (x : Bool)
  | vs (n : Nat) (x : Bool) (cs : List AV)
  | ep (cs : List AV)
  | fn (f : FuncId) (first cap : List AV)
  | ag (cs : List AV)
  | tp (cs : List AV)
  | any
  deriving Inhabited

/-- An abstract object. `map`: the entries, when each was made, and the clock. `it`: an iterator over a map: which one, the clock at its start, the entries (by when they were made) that it has shown, the clock at its last step. `ro`: cells that don't change. `lp`: the record of a range over a function, and what its slots hold. -/
inductive AO where
  | cells (cs : List AV)
  | map (es : List (Value × AV)) (st : List Nat) (clock : Nat)
  | it (m since last : Nat) (seen : List Nat)
  | itn
  | ro (cs : List AV)
  | lp (r : Loop) (ts : List AV)

/-- What is held of a block: nothing, its reading, the block. -/
def kd : Option AO → Nat
  | none => 0
  | some (.ro _) => 1
  | some _ => 2

/-- The view of the heap: by block number. -/
abbrev AH := Nat → Option AO

def upd (H : AH) (k : Nat) (o : AO) : AH := fun j => if j = k then some o else H j
def del (H : AH) (k : Nat) : AH := fun j => if j = k then none else H j

/-- What a value is, for an abstract value. -/
inductive VR (S : Nat → Prop) (w : World) : AV → Value → Prop
  | pl (v : Value) : VR S w (.pl v) v
  | any (v : Value) : VR S w .any v
  | sl (b o n sz c : Nat) (x : Bool) (C : Array Value) (T : TypeId) (F : Nat × Nat) (h : w.heap[b]? = some (.cells C T F)) (hc : o + c * sz ≤ C.size) (hn : n ≤ c) (hx : x = true → c = n) :
      VR S w (.sl b o n sz x) (.slice (some ⟨b, o, none⟩) n c)
  | vnil (x : Bool) (a : Option Addr) (c : Nat) (hx : x = true → c = 0) : VR S w (.vs 0 x []) (.slice a 0 c)
  | vs (b o n c : Nat) (x : Bool) (cs : List AV) (f : Nat → Value) (hS : S b) (hn : n ≤ c) (hx : x = true → c = n) (hb : b < w.heap.size)
      (hc : ∀ (j : Nat) (a : AV), cs[j]? = some a → w.cell? ⟨b, o + j, none⟩ = some (f j)) (h : ∀ (j : Nat) (a : AV), cs[j]? = some a → VR S w a (f j)) :
      VR S w (.vs n x cs) (.slice (some ⟨b, o, none⟩) n c)
  | ep (b o : Nat) (cs : List AV) (f : Nat → Value) (hS : S b) (hb : b < w.heap.size)
      (hc : ∀ (j : Nat) (a : AV), cs[j]? = some a → w.cell? ⟨b, o + j, none⟩ = some (f j)) (h : ∀ (j : Nat) (a : AV), cs[j]? = some a → VR S w a (f j)) :
      VR S w (.ep cs) (.pointer (some ⟨b, o, none⟩))
  | fn (g : FuncId) (first cap : List AV) (fv cv : Array Value) (h1 : first.length = fv.size) (h2 : cap.length = cv.size)
      (h3 : ∀ (j : Nat) (a : AV) (v : Value), first[j]? = some a → fv[j]? = some v → VR S w a v) (h4 : ∀ (j : Nat) (a : AV) (v : Value), cap[j]? = some a → cv[j]? = some v → VR S w a v) :
      VR S w (.fn g first cap) (.func (.func g) fv cv)
  | ag (cs : List AV) (ds : Array Value) (h1 : cs.length = ds.size) (h : ∀ (j : Nat) (a : AV) (v : Value), cs[j]? = some a → ds[j]? = some v → VR S w a v) : VR S w (.ag cs) (.agg ds)
  | tp (cs : List AV) (ds : Array Value) (h1 : cs.length = ds.size) (h : ∀ (j : Nat) (a : AV) (v : Value), cs[j]? = some a → ds[j]? = some v → VR S w a v) : VR S w (.tp cs) (.tuple ds)

/-- Lists of values. -/
def VRs (S : Nat → Prop) (w : World) (cs : List AV) (ds : List Value) : Prop := cs.length = ds.length ∧ ∀ (j : Nat) (a : AV) (v : Value), cs[j]? = some a → ds[j]? = some v → VR S w a v

/-- An object of the view. -/
def OR (S : Nat → Prop) (w : World) (k : Nat) : AO → Prop
  | .cells cs => ∃ C T, w.heap[k]? = some (.cells C T (0, 0)) ∧ cs.length ≤ C.size ∧ ∀ (j : Nat) (a : AV) (v : Value), cs[j]? = some a → C[j]? = some v → VR S w a v
  | .map es st clock => ∃ entries : Array MapEntry, w.heap[k]? = some (.map entries clock) ∧ entries.size = es.length ∧ entries.size = st.length ∧
      (∀ (j : Nat) (e : MapEntry) (b : Nat), entries[j]? = some e → st[j]? = some b → e.born = b) ∧
      (∀ (j : Nat) (e : MapEntry) (p : Value × AV), entries[j]? = some e → es[j]? = some p → e.key = p.1 ∧ VR S w p.2 e.val)
  | .it m since last seen => ∃ sn : Array Nat, w.heap[k]? = some (.mapIter (some m) since sn last) ∧ sn.toList = seen.reverse
  | .itn => ∃ since sn last, w.heap[k]? = some (.mapIter none since sn last)
  | .lp r ts => w.heap[k]? = some (.loop r) ∧ ∀ (j : Nat) (a : AV) (v : Value), ts[j]? = some a → r.tmps[j]? = some v → VR S w a v
  | .ro cs => S k ∧ ∃ C T F, w.heap[k]? = some (.cells C T F) ∧ cs.length ≤ C.size ∧ ∀ (j : Nat) (a : AV) (v : Value), cs[j]? = some a → C[j]? = some v → VR S w a v

/-- The heap shows the view; what was there at the start is as it was. -/
structure RH (S : Nat → Prop) (W0 : World) (H : AH) (w : World) : Prop where
  below : Below W0.heap.size W0 w
  sub : ∀ b, b < W0.heap.size → S b
  bound : ∀ b, S b → b < w.heap.size
  lt : ∀ k o, H k = some o → k < w.heap.size
  free : ∀ k, kd (H k) = 2 → ¬ S k
  obj : ∀ k o, H k = some o → OR S w k o

/-- One step further: the world, the blocks that don't change any more, and the view. -/
structure Evo (S : Nat → Prop) (H : AH) (w : World) (S' : Nat → Prop) (H' : AH) (w' : World) : Prop where
  size : w.heap.size ≤ w'.heap.size
  same : ∀ b, b < w.heap.size → kd (H b) ≠ 2 → w'.heap[b]? = w.heap[b]?
  cells : ∀ (b : Nat) (C : Array Value) (T : TypeId) (F : Nat × Nat), w.heap[b]? = some (.cells C T F) → ∃ (C' : Array Value) (F' : Nat × Nat), w'.heap[b]? = some (.cells C' T F') ∧ C'.size = C.size
  up : ∀ b, S b → S' b
  new : ∀ b, S' b → S b ∨ kd (H b) = 2 ∨ w.heap.size ≤ b
  dom : ∀ b, kd (H' b) = 0 ∨ kd (H' b) = kd (H b) ∨ w.heap.size ≤ b

theorem Evo.refl (S : Nat → Prop) (H : AH) (w : World) : Evo S H w S H w :=
  ⟨Nat.le_refl _, fun _ _ _ => rfl, fun _ C _ F h => ⟨C, F, h, rfl⟩, fun _ h => h, fun _ h => .inl h, fun _ => .inr (.inl rfl)⟩

theorem Evo.trans {S S1 S2 : Nat → Prop} {H H1 H2 : AH} {w w1 w2 : World} (h : Evo S H w S1 H1 w1) (k : Evo S1 H1 w1 S2 H2 w2) : Evo S H w S2 H2 w2 := by
  have none1 : ∀ b, b < w.heap.size → kd (H b) ≠ 2 → kd (H1 b) ≠ 2 := by
    intro b hb hn e
    rcases h.dom b with h1 | h1 | h1
    · omega
    · omega
    · omega
  refine ⟨Nat.le_trans h.size k.size, ?_, ?_, fun b hb => k.up b (h.up b hb), ?_, ?_⟩
  · intro b hb hn
    rw [k.same b (Nat.lt_of_lt_of_le hb h.size) (none1 b hb hn), h.same b hb hn]
  · intro b C T F hc
    obtain ⟨C', F', h1, h2⟩ := h.cells b C T F hc
    obtain ⟨C'', F'', h3, h4⟩ := k.cells b C' T F' h1
    exact ⟨C'', F'', h3, h4.trans h2⟩
  · intro b hb
    rcases k.new b hb with h1 | h1 | h1
    · exact h.new b h1
    · rcases h.dom b with h2 | h2 | h2
      · omega
      · exact .inr (.inl (by omega))
      · exact .inr (.inr h2)
    · exact .inr (.inr (Nat.le_trans h.size h1))
  · intro b
    rcases k.dom b with h1 | h1 | h1
    · exact .inl h1
    · rcases h.dom b with h2 | h2 | h2
      · exact .inl (by omega)
      · exact .inr (.inl (by omega))
      · exact .inr (.inr h2)
    · exact .inr (.inr (Nat.le_trans h.size h1))

theorem cell_lt {w : World} {a : Addr} {v : Value} (h : w.cell? a = some v) : a.block < w.heap.size := by
  unfold World.cell? at h
  cases hh : w.heap[a.block]? with
  | none => rw [hh] at h; cases h
  | some o =>
    rcases Nat.lt_or_ge a.block w.heap.size with hl | hl
    · exact hl
    · rw [Array.getElem?_eq_none hl] at hh; cases hh

/-- What a value is stays so, as long as the blocks that it reads don't change. -/
theorem VR.mono {S S' : Nat → Prop} {w w' : World} (hs : ∀ b, S b → b < w.heap.size → w'.heap[b]? = w.heap[b]?) (hz : w.heap.size ≤ w'.heap.size)
    (hc : ∀ (b : Nat) (C : Array Value) (T : TypeId) (F : Nat × Nat), w.heap[b]? = some (.cells C T F) → ∃ (C' : Array Value) (F' : Nat × Nat), w'.heap[b]? = some (.cells C' T F') ∧ C'.size = C.size)
    (hu : ∀ b, S b → S' b) {a : AV} {v : Value} (h : VR S w a v) : VR S' w' a v := by
  induction h with
  | pl v => exact .pl v
  | any v => exact .any v
  | sl b o n sz c x C T F h hcc hn hx =>
    obtain ⟨C', F', h1, h2⟩ := hc b C T F h
    exact .sl b o n sz c x C' T F' h1 (by rw [h2]; exact hcc) hn hx
  | vnil x a c hx => exact .vnil x a c hx
  | vs b o n c x cs f hS hn hx hb hcc _ ih =>
    exact .vs b o n c x cs f (hu b hS) hn hx (Nat.lt_of_lt_of_le hb hz) (fun j a hj => by rw [World.cell?_of_block (w := w) (hs b hS hb)]; exact hcc j a hj) ih
  | ep b o cs f hS hb hcc _ ih =>
    exact .ep b o cs f (hu b hS) (Nat.lt_of_lt_of_le hb hz) (fun j a hj => by rw [World.cell?_of_block (w := w) (hs b hS hb)]; exact hcc j a hj) ih
  | fn g first cap fv cv h1 h2 _ _ ih1 ih2 => exact .fn g first cap fv cv h1 h2 ih1 ih2
  | ag cs ds h1 _ ih => exact .ag cs ds h1 ih
  | tp cs ds h1 _ ih => exact .tp cs ds h1 ih

theorem VR.evo {S S' : Nat → Prop} {W0 w w' : World} {H H' : AH} (hr : RH S W0 H w) (he : Evo S H w S' H' w') {a : AV} {v : Value} (h : VR S w a v) : VR S' w' a v :=
  h.mono (fun b hS hb => he.same b hb (fun e => hr.free b e hS)) he.size he.cells he.up

theorem OR.mono {S S' : Nat → Prop} {w w' : World} (hv : ∀ (a : AV) (v : Value), VR S w a v → VR S' w' a v) (hu : ∀ b, S b → S' b) {k : Nat} {o : AO} (hb : w'.heap[k]? = w.heap[k]?) (h : OR S w k o) : OR S' w' k o := by
  cases o with
  | cells cs =>
    obtain ⟨C, T, h1, h2, h3⟩ := h
    exact ⟨C, T, hb.trans h1, h2, fun j a v ha hv' => hv _ _ (h3 j a v ha hv')⟩
  | map es st cl =>
    obtain ⟨en, h1, h2, h3, h4, h5⟩ := h
    refine ⟨en, hb.trans h1, h2, h3, h4, fun j e p hj hp => ?_⟩
    obtain ⟨h6, h7⟩ := h5 j e p hj hp
    exact ⟨h6, hv _ _ h7⟩
  | it m since last seen =>
    obtain ⟨sn, h1, h2⟩ := h
    exact ⟨sn, hb.trans h1, h2⟩
  | itn =>
    obtain ⟨a, b, c, h1⟩ := h
    exact ⟨a, b, c, hb.trans h1⟩
  | lp r ts => exact ⟨hb.trans h.1, fun j a v ha hv' => hv _ _ (h.2 j a v ha hv')⟩
  | ro cs =>
    obtain ⟨h0, C, T, F, h1, h2, h3⟩ := h
    exact ⟨hu _ h0, C, T, F, hb.trans h1, h2, fun j a v ha hv' => hv _ _ (h3 j a v ha hv')⟩
theorem OR.evo {S S' : Nat → Prop} {W0 w w' : World} {H H' : AH} (hr : RH S W0 H w) (he : Evo S H w S' H' w') {k : Nat} {o : AO} (hb : w'.heap[k]? = w.heap[k]?) (h : OR S w k o) : OR S' w' k o :=
  h.mono (fun _ _ hv => hv.evo hr he) he.up hb

theorem kd_none {o : Option AO} : kd o = 0 ↔ o = none := by
  cases o with
  | none => simp [kd]
  | some o => cases o <;> simp [kd]
theorem kd_upd {H : AH} {k j : Nat} {o : AO} : kd (upd H k o j) = if j = k then kd (some o) else kd (H j) := by
  unfold upd; split <;> rfl
theorem kd_del {H : AH} {k j : Nat} : kd (del H k j) = if j = k then 0 else kd (H j) := by
  unfold del; split <;> rfl

theorem kd_del_2 {H : AH} {k j : Nat} (h : kd (del H k j) = 2) : kd (H j) = 2 := by
  rw [kd_del] at h
  split at h
  · cases h
  · exact h

/-! ### Abstract states -/
/-- n slots, what they hold, and the view. -/
structure ASt where
  n : Nat
  t : Nat → AV
  H : AH

/-- A constant. -/
def cv : Value → AV
  | .agg cs => .ag (cs.toList.map .pl)
  | v => .pl v

def ASt.ev (s : ASt) : Operand → AV
  | .tmp t => s.t t
  | .const v => cv v
  | .global g => .pl (.pointer (some ⟨g, 0, none⟩))
  | .func f => .pl (.func (.func f) #[] #[])

def setE (n : Nat) (t : Nat → AV) (d : Nat) (v : AV) : Nat → AV := fun j => if j = d ∧ d < n then v else t j

def ASt.put (s : ASt) (d : Option Tmp) (v : AV) : ASt :=
  match d with
  | some d => ⟨s.n, setE s.n s.t d v, s.H⟩
  | none => s

def undefA : AV := .pl undef

/-- The marks that ranges over functions leave among an activation's deferred calls. -/
def marks (Ds : List Nat) : List Deferred := Ds.map fun D => { target := .collected D, args := #[] }

structure Rel (B : Nat) (S : Nat → Prop) (W0 : World) (s : ASt) (a : Act) (w : World) : Prop where
  defers : ∃ Ds : List Nat, a.defers = marks Ds ∧ Ds.Nodup ∧ ∀ D ∈ Ds, B ≤ D ∧ w.heap[D]? = some (.deferred (some [])) ∧ kd (s.H D) = 0 ∧ ¬ S D
  base : B ≤ w.heap.size
  low : W0.heap.size ≤ B
  len : s.n = a.tmps.size
  out : ∀ j, s.n ≤ j → s.t j = .any
  val : ∀ (j : Nat) v, a.tmps[j]? = some v → VR S w (s.t j) v
  heap : RH S W0 s.H w

theorem VR.cv {S : Nat → Prop} {w : World} (v : Value) : VR S w (cv v) v := by
  cases v with
  | agg cs =>
    refine .ag _ _ (by simp) fun j a u ha hu => ?_
    simp only [List.getElem?_map, Option.map_eq_some_iff] at ha
    obtain ⟨z, hz, rfl⟩ := ha
    have : cs[j]? = some z := by simpa using hz
    rw [this] at hu
    obtain rfl := Option.some.inj hu
    exact .pl _
  | _ => exact .pl _

theorem Rel.ev {B : Nat} {S : Nat → Prop} {W0 : World} {s : ASt} {a : Act} {w : World} (h : Rel B S W0 s a w) (x : Operand) : VR S w (s.ev x) (a.eval x) := by
  cases x with
  | tmp t =>
    unfold ASt.ev Act.eval
    dsimp only
    rcases Nat.lt_or_ge t s.n with hl | hl
    · have hl' : t < a.tmps.size := h.len ▸ hl
      have h2 : a.tmps[t]? = some a.tmps[t] := Array.getElem?_eq_getElem hl'
      simp only [Array.getD_eq_getD_getElem?, h2, Option.getD_some]
      exact h.val t _ h2
    · rw [h.out t hl]
      exact .any _
  | const v => exact VR.cv v
  | «global» g => exact .pl _
  | func f => exact .pl _

theorem Rel.put {B : Nat} {S : Nat → Prop} {W0 : World} {s : ASt} {a : Act} {w : World} (h : Rel B S W0 s a w) (d : Option Tmp) {x : AV} {v : Value} (hv : VR S w x v) :
    Rel B S W0 (s.put d x) (a.put d v) w := by
  cases d with
  | none => exact h
  | some d =>
    refine ⟨h.defers, h.base, h.low, by simp [ASt.put, Act.put, h.len], ?_, ?_, h.heap⟩
    · intro j hj
      simp only [ASt.put, setE] at hj ⊢
      rw [if_neg (by omega)]
      exact h.out j hj
    · intro j u hu
      simp only [Act.put] at hu
      simp only [ASt.put, setE]
      rw [Array.getElem?_setIfInBounds] at hu
      by_cases hd : d = j
      · subst hd
        simp only [if_true] at hu
        split at hu
        · rename_i hlt
          rw [if_pos ⟨rfl, by rw [h.len]; exact hlt⟩]
          obtain rfl := Option.some.inj hu
          exact hv
        · cases hu
      · rw [if_neg hd] at hu
        rw [if_neg (fun e => hd e.1.symm)]
        exact h.val j u hu

theorem Rel.evo {B : Nat} {S S' : Nat → Prop} {W0 : World} {s : ASt} {a : Act} {w w' : World} {H' : AH} (h : Rel B S W0 s a w) (he : Evo S s.H w S' H' w') (hr : RH S' W0 H' w') : Rel B S' W0 ⟨s.n, s.t, H'⟩ a w' := by
  refine ⟨?_, Nat.le_trans h.base he.size, h.low, h.len, h.out, fun j v hv => (h.val j v hv).evo h.heap he, hr⟩
  obtain ⟨Ds, h1, h2, h3⟩ := h.defers
  refine ⟨Ds, h1, h2, fun D hD => ?_⟩
  obtain ⟨g1, g2, g3, g4⟩ := h3 D hD
  have hlt : D < w.heap.size := (Array.getElem?_eq_some_iff.1 g2).1
  refine ⟨g1, (he.same D hlt (by omega)).trans g2, ?_, fun hs => ?_⟩
  · rcases he.dom D with h | h | h
    · exact h
    · exact h.trans g3
    · omega
  · rcases he.new D hs with h | h | h
    · exact g4 h
    · omega
    · omega

/-- What is told less of. -/
theorem Rel.less {B : Nat} {S : Nat → Prop} {W0 : World} {s : ASt} {a : Act} {w : World} (h : Rel B S W0 s a w) (t : Nat → AV) (ht : ∀ j, t j = s.t j ∨ t j = .any) : Rel B S W0 ⟨s.n, t, s.H⟩ a w :=
  ⟨h.defers, h.base, h.low, h.len, fun j hj => (ht j).elim (fun e => e.trans (h.out j hj)) id, fun j v hv => (ht j).elim (fun e => by show VR S w (t j) v; rw [e]; exact h.val j v hv) (fun e => by show VR S w (t j) v; rw [e]; exact .any v), h.heap⟩

/-- A mark is taken: its block is shut. -/
theorem Rel.mark {P : Program} {B : Nat} {S : Nat → Prop} {W0 : World} {s : ASt} {tm : Array Value} {D : Nat} {Ds : List Nat} {w : World} (h : Rel B S W0 s ⟨tm, marks (D :: Ds)⟩ w) :
    (Instr.takeDeferred D).run P w = .ok [] (w.putObj D (.deferred none)) ∧ Rel B S W0 s ⟨tm, marks Ds⟩ (w.putObj D (.deferred none)) ∧ B ≤ D ∧ kd (s.H D) = 0 ∧ ¬ S D := by
  obtain ⟨Ds', h1, h2, h3⟩ := h.defers
  have e : Ds' = D :: Ds := by
    have h1 : marks (D :: Ds) = marks Ds' := h1
    have inj : ∀ a b : List Nat, marks a = marks b → a = b := by
      intro a
      induction a with
      | nil => intro b hb; cases b with
        | nil => rfl
        | cons x b => simp [marks] at hb
      | cons x a ih => intro b hb; cases b with
        | nil => simp [marks] at hb
        | cons y b =>
          simp only [marks, List.map_cons, List.cons.injEq, Deferred.mk.injEq, Target.collected.injEq, and_true] at hb
          rw [hb.1, ih b hb.2]
    exact (inj _ _ h1).symm
  subst e
  obtain ⟨g1, g2, g3, g4⟩ := h3 D (by simp)
  have hlt : D < w.heap.size := (Array.getElem?_eq_some_iff.1 g2).1
  have other : ∀ k, k ≠ D → (w.putObj D (.deferred none)).heap[k]? = w.heap[k]? := fun k hk => World.putObj_heap_other hk
  have hv : ∀ (a : AV) (v : Value), VR S w a v → VR S (w.putObj D (.deferred none)) a v := fun a v hv =>
    hv.mono (fun b hb _ => other b (fun e => g4 (e ▸ hb))) (by simp) (fun b C T F hc => ⟨C, F, by rw [other b (fun e => by subst e; rw [g2] at hc; cases hc)]; exact hc, rfl⟩) (fun _ hb => hb)
  have hbl : Below W0.heap.size w (w.putObj D (.deferred none)) := ⟨rfl, rfl, rfl, by simp, fun k hk => other k (by have := h.low; omega)⟩
  refine ⟨run_takeDeferred g2, ⟨⟨Ds, rfl, (List.nodup_cons.1 h2).2, fun D' hD' => ?_⟩, by simpa using h.base, h.low, h.len, h.out, fun j v hj => hv _ _ (h.val j v hj), ?_⟩, g1, g3, g4⟩
  · obtain ⟨k1, k2, k3, k4⟩ := h3 D' (by simp [hD'])
    exact ⟨k1, (other D' (fun e => (List.nodup_cons.1 h2).1 (e ▸ hD'))).trans k2, k3, k4⟩
  · refine ⟨h.heap.below.trans hbl, h.heap.sub, fun b hb => by simpa using h.heap.bound b hb, fun k o hk => by simpa using h.heap.lt k o hk, h.heap.free, fun k o hk => (h.heap.obj k o hk).mono hv (fun _ hb => hb) (other k ?_)⟩
    rintro rfl
    rw [hk] at g3
    cases o <;> simp [kd] at g3

/-! ### What an operation does -/
/-- Where an operation's result leads. -/
def upon (P : Program) (next : Value → World → Prop) : Result Next → Prop
  | .ok (.value v) w' => next v w'
  | .ok .skip w' => next undef w'
  | .ok (.enter f args) w' => Calls P f args w' fun
      | .returned v, w'' => next v w''
      | _, _ => False
  | .ok (.round l f tmps assign body) w' => RoundIn Fence.wide 0 P l f tmps assign body w' fun
      | .returned v, w'' => next v w''
      | _, _ => False
  | _ => False

/-- An operation: from operands that are as told, in whatever world that shows the view, it comes to a value and a view of which K holds. -/
def OpR (P : Program) (o : Oper) (ρ : Operand → AV) (H : AH) (K : AV → AH → Prop) : Prop :=
  ∀ S W0 a w, (∀ x ∈ o.op.operands, VR S w (ρ x) (a x)) → RH S W0 H w →
    upon P (fun v w' => ∃ S' x H', Evo S H w S' H' w' ∧ RH S' W0 H' w' ∧ VR S' w' x v ∧ K x H') ((execOp a o).run P w)

theorem upon_mono {P : Program} {n n' : Value → World → Prop} (h : ∀ v w, n v w → n' v w) {r : Result Next} (hr : upon P n r) : upon P n' r := by
  cases r with
  | ok x w' =>
    cases x <;> simp only [upon] at hr ⊢ <;> first
      | exact h _ _ hr
      | exact hr.mono fun e w he => by cases e <;> first | exact h _ _ he | exact he
      | exact RoundIn.mono hr fun e w he => by cases e <;> first | exact h _ _ he | exact he
  | halt x w' => exact hr.elim

theorem OpR.mono {P : Program} {o : Oper} {ρ : Operand → AV} {H : AH} {K K' : AV → AH → Prop} (h : OpR P o ρ H K) (hk : ∀ x H', K x H' → K' x H') : OpR P o ρ H K' :=
  fun S W0 a w ha hr => upon_mono (fun _ _ ⟨S', x, H', h1, h2, h3, h4⟩ => ⟨S', x, H', h1, h2, h3, hk _ _ h4⟩) (h S W0 a w ha hr)

theorem OpR.congr {P : Program} {o : Oper} {ρ ρ' : Operand → AV} {H : AH} {K : AV → AH → Prop} (h : OpR P o ρ H K) (hρ : ∀ x ∈ o.op.operands, ρ x = ρ' x) : OpR P o ρ' H K :=
  fun S W0 a w ha hr => h S W0 a w (fun x hx => by rw [hρ x hx]; exact ha x hx) hr

/-- It yields this value and changes nothing, whatever the view. -/
def Pu (P : Program) (o : Oper) (ρ : Operand → AV) (v : AV) : Prop :=
  ∀ S (a : Operand → Value) w, (∀ x ∈ o.op.operands, VR S w (ρ x) (a x)) → ∃ u, (execOp a o).run P w = .ok (.value u) w ∧ VR S w v u

/-- It yields this value and changes nothing, in this view. -/
def Rd (P : Program) (o : Oper) (ρ : Operand → AV) (H : AH) (v : AV) : Prop :=
  ∀ S W0 (a : Operand → Value) w, (∀ x ∈ o.op.operands, VR S w (ρ x) (a x)) → RH S W0 H w → ∃ u, (execOp a o).run P w = .ok (.value u) w ∧ VR S w v u

theorem Pu.congr {P : Program} {o : Oper} {ρ ρ' : Operand → AV} {v : AV} (h : Pu P o ρ v) (hρ : ∀ x ∈ o.op.operands, ρ x = ρ' x) : Pu P o ρ' v :=
  fun S a w ha => h S a w (fun x hx => by rw [hρ x hx]; exact ha x hx)
theorem Rd.congr {P : Program} {o : Oper} {ρ ρ' : Operand → AV} {H : AH} {v : AV} (h : Rd P o ρ H v) (hρ : ∀ x ∈ o.op.operands, ρ x = ρ' x) : Rd P o ρ' H v :=
  fun S W0 a w ha hr => h S W0 a w (fun x hx => by rw [hρ x hx]; exact ha x hx) hr

end Go.Ab
