/-
  Instructions: operations with what the types tell resolved; and what each does to an abstract state.
-/
import Derived.Test.YtmpncpamndhmcaaGreatAbD
import Derived.Laws.Sem
namespace Go.Ab
open Go.RowKit

inductive I where
  | mov (x : Operand)
  | pick (c a b : Operand)
  | bin (op : BinOp) (x y : Operand)
  | eqb (neq : Bool) (x y : Operand)
  | eqp (neq : Bool) (x y : Operand)
  | eqm (neq : Bool) (x y : Operand)
  | eqz (neq : Bool) (x y : Operand)
  | un (op : UnOp) (x : Operand)
  | conv (k : IntKind) (x : Operand)
  | build (zero : List AV) (parts : List ((Nat × Nat) × Operand))
  | load (agg : Bool) (sz : Nat) (a : Operand)
  | nilc (x : Operand)
  | fadr (off : Nat) (x : Operand)
  | fld (agg : Bool) (off sz : Nat) (x : Operand)
  | iadA (len sz : Nat) (x i : Operand)
  | iadS (sz : Nat) (x i : Operand)
  | ext (x : Operand) (i : Nat)
  | mkf (f : FuncId) (first cap : List Operand)
  | len (str : Bool) (x : Operand)
  | minmax (mx : Bool) (xs : List Operand)
  | al (zero : List AV)
  | box (sz : Nat) (x : Operand)
  | bsl (sz n : Nat) (zero : List AV) (parts : List ((Nat × Nat) × Operand))
  | store (sz : Nat) (a x : Operand)
  | call (f : FuncId) (args : List Operand)
  | callv (x : Operand) (args : List Operand)
  | app (sz bytes : Nat) (x y : Operand)
  | sls (sz : Nat) (x : Operand) (lo hi mx : Option Operand)
  | slstr (x : Operand) (lo hi : Option Operand)
  | eqs (neq : Bool) (ks : List Nat) (x y : Operand)
  | mlook (ok : Bool) (kk : Nat) (zero : AV) (x i : Operand)
  | mlen (x : Operand)
  | cap (x : Operand)
  | apz (sz bytes : Nat) (zero : List AV) (x n : Operand)
  | mks (sz bytes : Nat) (zero : List AV) (n m : Operand)
  | clr (sz : Nat) (zero : List AV) (x : Operand)
  | mmk
  | mupd (kk : Nat) (x i v : Operand)
  | mdel (kk : Nat) (x i : Operand)
  | mrng (x : Operand)
  | mnxt (x : Operand)
  | ment (x : Operand)
  | bad

structure GI where
  g : Option (Tmp × Bool)
  d : Option Tmp
  i : I

/-! ### Values -/
def AV.cells : AV → Option (List AV)
  | .ag cs => some cs
  | .pl (.agg cs) => some (cs.toList.map .pl)
  | .pl (.tuple _) => none
  | .tp _ => none
  | .any => none
  | v => some [v]

/-- One cell: may be stored. -/
def AV.one : AV → Bool
  | .pl v => v.oneCell'
  | .any | .ag _ | .tp _ => false
  | _ => true

def fillA (cs : List AV) : List ((Nat × Nat) × AV) → Option (List AV)
  | [] => some cs
  | ((off, sz), v) :: rest => match v.cells with
    | some ds => if ds.length = sz ∧ off + sz ≤ cs.length then fillA (cs.take off ++ ds ++ cs.drop (off + sz)) rest else none
    | none => none

/-- What an operation on two numbers, or strings, gives. -/
def binK (op : BinOp) (x y : Value) (k : Value → Prop) : Prop :=
  match op, x, y with
  | .shl, .int j a, .int _ b => 0 ≤ b ∧ k (.int j (j.wrap (a * 2 ^ min b.toNat j.bits)))
  | .shr, .int j a, .int _ b => 0 ≤ b ∧ k (.int j (a.fdiv (2 ^ min b.toNat j.bits)))
  | .add, .int j a, .int j' b => j = j' ∧ k (.int j (j.wrap (a + b)))
  | .sub, .int j a, .int j' b => j = j' ∧ k (.int j (j.wrap (a - b)))
  | .mul, .int j a, .int j' b => j = j' ∧ k (.int j (j.wrap (a * b)))
  | .quo, .int j a, .int j' b => j = j' ∧ b ≠ 0 ∧ k (.int j (j.wrap (a.tdiv b)))
  | .rem, .int j a, .int j' b => j = j' ∧ b ≠ 0 ∧ k (.int j (a.tmod b))
  | .and, .int j a, .int j' b => j = j' ∧ k (.int j (j.wrap (BitVec.ofInt j.bits a &&& BitVec.ofInt j.bits b).toNat))
  | .or, .int j a, .int j' b => j = j' ∧ k (.int j (j.wrap (BitVec.ofInt j.bits a ||| BitVec.ofInt j.bits b).toNat))
  | .xor, .int j a, .int j' b => j = j' ∧ k (.int j (j.wrap (BitVec.ofInt j.bits a ^^^ BitVec.ofInt j.bits b).toNat))
  | .andNot, .int j a, .int j' b => j = j' ∧ k (.int j (j.wrap (BitVec.ofInt j.bits a &&& ~~~BitVec.ofInt j.bits b).toNat))
  | .eql, .int j a, .int j' b => j = j' ∧ k (.bool (a == b))
  | .neq, .int j a, .int j' b => j = j' ∧ k (.bool (a != b))
  | .lss, .int j a, .int j' b => j = j' ∧ k (.bool (decide (a < b)))
  | .leq, .int j a, .int j' b => j = j' ∧ k (.bool (decide (a ≤ b)))
  | .gtr, .int j a, .int j' b => j = j' ∧ k (.bool (decide (a > b)))
  | .geq, .int j a, .int j' b => j = j' ∧ k (.bool (decide (a ≥ b)))
  | .add, .string a, .string b => a.size + b.size ≤ 9223372036854775807 ∧ k (.string (a ++ b))
  | .eql, .string a, .string b => k (.bool (a.toList == b.toList))
  | .neq, .string a, .string b => k (.bool !(a.toList == b.toList))
  | .lss, .string a, .string b => k (.bool (Op.bytesLess a.toList b.toList))
  | .leq, .string a, .string b => k (.bool (Op.bytesLess a.toList b.toList || a.toList == b.toList))
  | .gtr, .string a, .string b => k (.bool !(Op.bytesLess a.toList b.toList || a.toList == b.toList))
  | .geq, .string a, .string b => k (.bool !(Op.bytesLess a.toList b.toList))
  | _, _, _ => False

def unK (op : UnOp) (x : Value) (k : Value → Prop) : Prop :=
  match op, x with
  | .neg, .int j a => k (.int j (j.wrap (0 - a)))
  | .xor, .int j a => k (.int j (j.wrap (BitVec.ofInt j.bits (if j.signed then -1 else j.max) ^^^ BitVec.ofInt j.bits a).toNat))
  | .not, .bool b => k (.bool !b)
  | _, _ => False

def min2I (mx : Bool) (a b : Int) : Int := if mx then (if a < b then b else a) else (if b < a then b else a)

def minmaxK (mx : Bool) (j : IntKind) : Int → List AV → (Value → Prop) → Prop
  | a, [], k => k (.int j a)
  | a, .pl (.int j' b) :: r, k => j = j' ∧ minmaxK mx j (min2I mx a b) r k
  | _, _, _ => False

/-- The cells of a pointer's block, from its place on. -/
def seeK (H : AH) (a : AV) (sz : Nat) (k : List AV → Prop) : Prop :=
  match a with
  | .ep cs => sz ≤ cs.length ∧ k (cs.take sz)
  | .pl (.pointer (some ⟨b, o, none⟩)) => match H b with
    | some (.cells cs) => o + sz ≤ cs.length ∧ k ((cs.drop o).take sz)
    | some (.ro cs) => o + sz ≤ cs.length ∧ k ((cs.drop o).take sz)
    | _ => False
  | _ => False

def oneK (agg : Bool) (cs : List AV) (k : AV → Prop) : Prop :=
  if agg then k (.ag cs) else match cs with | [x] => k x | _ => False

def goodCallee (P : Program) (f : FuncId) : Bool := match P.funcs[f]? with
  | some fn => !(fn.name == "runtime.NumGoroutine") && fn.body.isSome
  | none => false

/-- A bound of a slice. -/
def bndK (ρ : Operand → AV) (o : Option Operand) (dflt : Int) (k : Int → Prop) : Prop :=
  match o with
  | none => k dflt
  | some x => match ρ x with
    | .pl (.int _ j) => k j
    | _ => False

/-- Are two lists of plain cells the same? Kinds: 0 a bool, 1 a number, 2 a string. -/
def eqL : List Nat → List AV → List AV → Option Bool
  | [], [], [] => some true
  | 0 :: ks, .pl (.bool a) :: xs, .pl (.bool c) :: ys => (eqL ks xs ys).map fun r => (a == c) && r
  | 1 :: ks, .pl (.int j a) :: xs, .pl (.int j' c) :: ys => if j = j' then (eqL ks xs ys).map fun r => (a == c) && r else none
  | 2 :: ks, .pl (.string a) :: xs, .pl (.string c) :: ys => (eqL ks xs ys).map fun r => (a.toList == c.toList) && r
  | _, _, _ => none

/-- What is appended. -/
def newsK (H : AH) (y : AV) (sz : Nat) (k : Nat → List AV → Prop) : Prop :=
  match y with
  | .pl (.slice none 0 0) => k 0 []
  | .vs m _ cs => m * sz ≤ cs.length ∧ k m (cs.take (m * sz))
  | .sl b o m sz' _ => sz' = sz ∧ match H b with
    | some (.cells cs) => o + m * sz ≤ cs.length ∧ k m ((cs.drop o).take (m * sz))
    | _ => False
  | _ => False

/-- Is one key another? Kinds: 0 a bool, 1 a number, 2 a string. -/
def sameK : Nat → Value → Value → Option Bool
  | 1, .int k a, .int k' b => if k = k' then some (a == b) else none
  | 2, .string a, .string b => some (a.toList == b.toList)
  | 0, .bool a, .bool b => some (a == b)
  | _, _, _ => none

/-- Where a key lies, and what with it. -/
def mfind (kk : Nat) (k : Value) : List (Value × AV) → Nat → Option (Option (Nat × AV))
  | [], _ => some none
  | e :: es, i => match sameK kk k e.1 with
    | some true => some (some (i, e.2))
    | some false => mfind kk k es (i + 1)
    | none => none

/-- The entry made at s. -/
def entF : List (Value × AV) → List Nat → Nat → Option (Value × AV)
  | e :: es, b :: st, s => if b = s then some e else entF es st s
  | _, _, _ => none

/-- A map's entries. -/
def mapK (H : AH) (x : AV) (k : Nat → List (Value × AV) → List Nat → Nat → Prop) : Prop :=
  match x with
  | .pl (.map (some b)) => match H b with
    | some (.map es st cl) => k b es st cl
    | _ => False
  | _ => False

/-- A call of yield: a round of the loop whose record is l. -/
def AYL (P : Program) (l : Nat) (args : List AV) (H : AH) (K : AV → AH → Prop) : Prop :=
  ∀ S W0 w (cs : Array Value), RH S W0 H w → VRs S w args cs.toList → ∃ fn tmps assign body, (Instr.yield l cs).run P w = .ok (.round l fn tmps assign body) w ∧
    RoundIn Fence.wide 0 P l fn tmps assign body w fun e w' => ∃ u S' x H', e = .returned u ∧ Evo S H w S' H' w' ∧ RH S' W0 H' w' ∧ VR S' w' x u ∧ K x H'

theorem AYL.mono {P : Program} {l : Nat} {args : List AV} {H : AH} {K K' : AV → AH → Prop} (h : AYL P l args H K) (hk : ∀ x H', K x H' → K' x H') : AYL P l args H K' := by
  intro S W0 w cs hr ha
  obtain ⟨fn, tm, as, bd, h1, h2⟩ := h S W0 w cs hr ha
  refine ⟨fn, tm, as, bd, h1, RoundIn.mono h2 ?_⟩
  rintro e w' ⟨u, S', x, H', k1, k2, k3, k4, k5⟩
  exact ⟨u, S', x, H', k1, k2, k3, k4, hk _ _ k5⟩

/-- What an instruction gives. -/
def iop (P : Program) (ρ : Operand → AV) (H : AH) (k : AV → AH → Prop) : I → Prop
  | .mov x => k (ρ x) H
  | .pick c a b => match ρ c with
    | .pl (.bool true) => k (ρ a) H
    | .pl (.bool false) => k (ρ b) H
    | _ => False
  | .bin op x y => match ρ x, ρ y with
    | .pl u, .pl v => binK op u v fun r => k (.pl r) H
    | _, _ => False
  | .eqb neq x y => match ρ x, ρ y with
    | .pl (.bool u), .pl (.bool v) => k (.pl (.bool (if neq then !(u == v) else u == v))) H
    | _, _ => False
  | .eqp neq x y => match ρ x, ρ y with
    | .pl (.pointer u), .pl (.pointer none) => k (.pl (.bool (if neq then !u.isNone else u.isNone))) H
    | _, _ => False
  | .eqm neq x y => match ρ x, ρ y with
    | .pl (.map u), .pl (.map none) => k (.pl (.bool (if neq then !u.isNone else u.isNone))) H
    | _, _ => False
  | .eqz neq x y => match ρ x, ρ y with
    | .pl (.slice u _ _), .pl (.slice none _ _) => k (.pl (.bool (if neq then !u.isNone else u.isNone))) H
    | .sl _ _ _ _ _, .pl (.slice none _ _) => k (.pl (.bool neq)) H
    | .vs n _ _, .pl (.slice none _ _) => n ≠ 0 ∧ k (.pl (.bool neq)) H
    | _, _ => False
  | .un op x => match ρ x with
    | .pl u => unK op u fun r => k (.pl r) H
    | _ => False
  | .conv j x => match ρ x with
    | .pl (.int _ n) => k (.pl (.int j (j.wrap n))) H
    | _ => False
  | .build zero parts => match fillA zero (parts.map fun p => (p.1, ρ p.2)) with
    | some cs => k (.ag cs) H
    | none => False
  | .load agg sz a => seeK H (ρ a) sz fun cs => oneK agg cs fun v => k v H
  | .nilc x => match ρ x with
    | .pl (.pointer (some a)) => k (.pl (.pointer (some a))) H
    | .ep cs => k (.ep cs) H
    | _ => False
  | .fadr off x => match ρ x with
    | .pl (.pointer (some ⟨b, o, none⟩)) => k (.pl (.pointer (some ⟨b, o + off, none⟩))) H
    | .ep cs => k (.ep (cs.drop off)) H
    | _ => False
  | .fld agg off sz x => match ρ x with
    | .ag cs => off + sz ≤ cs.length ∧ oneK agg ((cs.drop off).take sz) fun v => k v H
    | _ => False
  | .iadA len sz x i => match ρ x, ρ i with
    | .pl (.pointer (some ⟨b, o, none⟩)), .pl (.int _ j) => 0 ≤ j ∧ j < len ∧ k (.pl (.pointer (some ⟨b, o + j.toNat * sz, none⟩))) H
    | .ep cs, .pl (.int _ j) => 0 ≤ j ∧ j < len ∧ k (.ep (cs.drop (j.toNat * sz))) H
    | _, _ => False
  | .iadS sz x i => match ρ x, ρ i with
    | .sl b o n _ _, .pl (.int _ j) => 0 ≤ j ∧ j < n ∧ k (.pl (.pointer (some ⟨b, o + j.toNat * sz, none⟩))) H
    | .vs n _ cs, .pl (.int _ j) => 0 ≤ j ∧ j < n ∧ k (.ep (cs.drop (j.toNat * sz))) H
    | _, _ => False
  | .ext x i => match ρ x with
    | .tp vs => match vs[i]? with | some v => k v H | none => False
    | _ => False
  | .mkf f first cap => k (.fn f (first.map ρ) (cap.map ρ)) H
  | .len true x => match ρ x with
    | .pl (.string s) => k (.pl (.int .i64 s.size)) H
    | _ => False
  | .len false x => match ρ x with
    | .pl (.slice _ n _) => k (.pl (.int .i64 n)) H
    | .sl _ _ n _ _ => k (.pl (.int .i64 n)) H
    | .vs n _ _ => k (.pl (.int .i64 n)) H
    | _ => False
  | .minmax mx xs => match xs.map ρ with
    | .pl (.int j a) :: r => minmaxK mx j a r fun v => k (.pl v) H
    | _ => False
  | .al zero => ∀ b, H b = none → k (ptrA b) (upd H b (.cells zero))
  | .box sz x => match (ρ x).cells with
    | some cs => cs.length = sz ∧ ∀ b, H b = none → k (ptrA b) (upd H b (.cells cs))
    | none => False
  | .bsl sz n zero parts => match fillA zero (parts.map fun p => (p.1, ρ p.2)) with
    | some cs => ∀ b, H b = none → k (.sl b 0 n sz true) (upd H b (.cells cs))
    | none => False
  | .store sz a x => match ρ a, (ρ x).cells with
    | .pl (.pointer (some ⟨b, o, none⟩)), some ds => match H b with
      | some (.cells cs) => ds.length = sz ∧ o + sz ≤ cs.length ∧ ds.all AV.one = true ∧ k undefA (upd H b (.cells (cs.take o ++ ds ++ cs.drop (o + sz))))
      | _ => False
    | _, _ => False
  | .call f args => ACall P f (args.map ρ) H k
  | .callv x args => match ρ x with
    | .fn f first cap => goodCallee P f = true ∧ ACall P f (first ++ args.map ρ ++ cap) H k
    | .pl (.func (.func f) fv cv) => fv = #[] ∧ cv = #[] ∧ goodCallee P f = true ∧ ACall P f (args.map ρ) H k
    | .pl (.func (.yield l) fv cv) => fv = #[] ∧ cv = #[] ∧ AYL P l (args.map ρ) H k
    | _ => False
  | .app sz bytes x y => newsK H (ρ y) sz fun m ns => ns.all AV.one = true ∧ match ρ x with
    | .pl (.slice none 0 0) => m * bytes ≤ 140737488355328 ∧ (m = 0 → k (.pl (.slice none 0 0)) H) ∧ (m ≠ 0 → ∀ b, H b = none → k (.sl b 0 m sz false) (upd H b (.cells ns)))
    | .sl b 0 n sz' _ => sz' = sz ∧ match H b with
      | some (.cells cs) => n * sz ≤ cs.length ∧ (n + m) * bytes ≤ 140737488355328 ∧ ∀ b', (b' = b ∨ H b' = none) → k (.sl b' 0 (n + m) sz false) (upd (del H b) b' (.cells (cs.take (n * sz) ++ ns)))
      | _ => False
    | .vs n true cs => n * sz ≤ cs.length ∧ (n + m) * bytes ≤ 140737488355328 ∧ (m = 0 → k (.vs n true cs) H) ∧ (m ≠ 0 → ∀ b, H b = none → k (.sl b 0 (n + m) sz false) (upd H b (.cells (cs.take (n * sz) ++ ns))))
    | _ => False
  | .sls sz x lo hi mx => match ρ x with
    | .vs n xf cs => bndK ρ hi n fun h => bndK ρ mx h fun m => bndK ρ lo 0 fun l => 0 ≤ l ∧ l ≤ h ∧ h ≤ n ∧ m = h ∧
        k (.vs (h - l).toNat (mx.isSome || (xf && decide (h = n))) ((cs.drop (l.toNat * sz)).take ((h - l).toNat * sz))) H
    | .sl b o n sz' xf => sz' = sz ∧ bndK ρ hi n fun h => bndK ρ mx h fun m => bndK ρ lo 0 fun l => 0 ≤ l ∧ l ≤ h ∧ h ≤ n ∧ m = h ∧
        (l = 0 → k (.sl b o h.toNat sz (mx.isSome || (xf && decide (h = n)))) H) ∧
        (l ≠ 0 → l < h → k (.sl b (o + l.toNat * sz) (h - l).toNat sz (mx.isSome || (xf && decide (h = n)))) H) ∧ (l ≠ 0 → l = h → k (.vs 0 mx.isSome []) H)
    | .pl (.slice none 0 0) => bndK ρ hi 0 fun h => bndK ρ mx h fun m => bndK ρ lo 0 fun l => l = 0 ∧ h = 0 ∧ m = 0 ∧ k (.pl (.slice none 0 0)) H
    | _ => False
  | .slstr x lo hi => match ρ x with
    | .pl (.string s) => bndK ρ hi s.size fun h => bndK ρ lo 0 fun l => 0 ≤ l ∧ l ≤ h ∧ h ≤ s.size ∧ k (.pl (.string (s.extract l.toNat h.toNat))) H
    | _ => False
  | .eqs neq ks x y => match ρ x, ρ y with
    | .ag xs, .ag ys => match eqL ks xs ys with
      | some r => k (.pl (.bool (if neq then !r else r))) H
      | none => False
    | _, _ => False
  | .mlook ok kk z x i => match ρ i with
    | .pl kv => match ρ x with
      | .pl (.map none) => k (if ok then .tp [z, .pl (.bool false)] else z) H
      | x => mapK H x fun _ es _ _ => match mfind kk kv es 0 with
        | some (some (_, v)) => k (if ok then .tp [v, .pl (.bool true)] else v) H
        | some none => k (if ok then .tp [z, .pl (.bool false)] else z) H
        | none => False
    | _ => False
  | .mlen x => match ρ x with
    | .pl (.map none) => k (.pl (.int .i64 0)) H
    | x => mapK H x fun _ es _ _ => k (.pl (.int .i64 es.length)) H
  | .cap x => match ρ x with
    | .pl (.slice _ _ c) => k (.pl (.int .i64 c)) H
    | .sl _ _ n _ true => k (.pl (.int .i64 n)) H
    | .vs n true _ => k (.pl (.int .i64 n)) H
    | _ => False
  | .apz sz bytes zero x n => match ρ x, ρ n with
    | .pl (.slice none 0 0), .pl (.int _ m) => 0 ≤ m ∧ m.toNat * bytes ≤ 140737488355328 ∧ (m = 0 → k (.pl (.slice none 0 0)) H) ∧ (m ≠ 0 → ∀ b, H b = none → k (.sl b 0 m.toNat sz false) (upd H b (.cells (List.replicate m.toNat zero).flatten)))
    | _, _ => False
  | .mks sz bytes zero n m => match ρ n, ρ m with
    | .pl (.int _ u), .pl (.int _ v) => u = v ∧ 0 ≤ u ∧ u.toNat * bytes ≤ 140737488355328 ∧ ∀ b, H b = none → k (.sl b 0 u.toNat sz true) (upd H b (.cells (List.replicate u.toNat zero).flatten))
    | _, _ => False
  | .clr sz zero x => zero.all AV.one = true ∧ match ρ x with
    | .sl b o n sz' _ => sz' = sz ∧ match H b with
      | some (.cells cs) => o + n * sz ≤ cs.length ∧ k (.tp []) (upd H b (.cells (cs.take o ++ (List.replicate n zero).flatten ++ cs.drop (o + n * sz))))
      | _ => False
    | .vs 0 _ _ => k (.tp []) H
    | .pl (.slice none _ _) => k (.tp []) H
    | _ => False
  | .mmk => ∀ b, H b = none → k (.pl (.map (some b))) (upd H b (.map [] [] 0))
  | .mupd kk x i v => match ρ i with
    | .pl kv => mapK H (ρ x) fun b es st cl => match mfind kk kv es 0 with
      | some (some (j, _)) => k undefA (upd H b (.map (es.set j (kv, ρ v)) st cl))
      | some none => k undefA (upd H b (.map (es ++ [(kv, ρ v)]) (st ++ [cl]) (cl + 1)))
      | none => False
    | _ => False
  | .mdel kk x i => match ρ i with
    | .pl kv => mapK H (ρ x) fun b es st cl => match mfind kk kv es 0 with
      | some (some (j, _)) => k (.tp []) (upd H b (.map (es.eraseIdx j) (st.eraseIdx j) cl))
      | some none => k (.tp []) H
      | none => False
    | _ => False
  | .mrng x => match ρ x with
    | .pl (.map none) => ∀ b, H b = none → k (ptrA b) (upd H b .itn)
    | x => mapK H x fun m _ _ cl => ∀ b, H b = none → k (ptrA b) (upd H b (.it m cl cl []))
  | .mnxt x => match ρ x with
    | .pl (.pointer (some ⟨b, 0, none⟩)) => match H b with
      | some .itn => k (.tp [.pl (.bool false)]) H
      | some (.it m since last seen) => mapK H (.pl (.map (some m))) fun _ es st cl => (∀ s ∈ st, s < since) ∧ since ≤ last ∧
          ((∀ s ∈ st, s ∈ seen) → k (.tp [.pl (.bool false)]) H) ∧
          (∀ (j : Nat) (e : Value × AV) (s : Nat), es[j]? = some e → st[j]? = some s → s ∉ seen → k (.tp [.pl (.bool true), .pl e.1, e.2]) (upd H b (.it m since cl (s :: seen))))
      | _ => False
    | _ => False
  | .ment x => match ρ x with
    | .pl (.pointer (some ⟨b, 0, none⟩)) => match H b with
      | some (.it m _ last (s :: _)) => mapK H (.pl (.map (some m))) fun _ es st cl => cl = last ∧ match entF es st s with
        | some e => k (.tp [.pl e.1, e.2]) H
        | none => False
      | _ => False
    | _ => False
  | .bad => False

/-- What a step does to a state. -/
def istep (P : Program) (x : GI) (s : ASt) (K : ASt → Prop) : Prop :=
  match x.g with
  | none => iop P s.ev s.H (fun v H' => K ((s.put x.d v).wH H')) x.i
  | some (t, want) => match s.t t with
    | .pl (.bool b) => ((b == want) = true → iop P s.ev s.H (fun v H' => K ((s.put x.d v).wH H')) x.i) ∧ ((b == want) = false → K (s.put x.d undefA))
    | .pl _ => K (s.put x.d undefA)
    | _ => False

/-! ### From operations to instructions -/
def kkOf : Option TypeDesc → Option Nat
  | some .bool => some 0
  | some (.int _) => some 1
  | some .string => some 2
  | _ => none
def zeroV (P : Program) (t : TypeId) : Option AV := (P.info? t).bind fun i => i.zero.map cv
def okT (P : Program) (t : TypeId) : Bool := (P.info? t).isSome && (P.underlying t).isSome
def aggB (P : Program) (t : TypeId) : Bool := match P.underlying t with | some (.struct _) | some (.array _ _) => true | _ => false
def zeroA (P : Program) (t : TypeId) : Option (List AV) := (P.info? t).bind fun i => i.zero.map fun z => z.cells.toList.map .pl

def partsOf (place : Nat → Option (Nat × Nat)) : List (Nat × Operand) → Option (List ((Nat × Nat) × Operand))
  | [] => some []
  | (i, x) :: r => match place i, partsOf place r with
    | some p, some q => some ((p, x) :: q)
    | _, _ => none

/-- The kinds of a type's cells, if all of them are plain. -/
def flatF (P : Program) (g : TypeId → Option (List Nat)) : Nat → List Field → Option (List Nat)
  | _, [] => some []
  | off, f :: r => if f.name ≠ "_" ∧ f.offset = off ∧ okT P f.type = true then match g f.type with
      | some ks => if ks.length = P.cellsOf f.type ∧ (aggB P f.type = true ∨ ks.length = 1) then (flatF P g (off + ks.length) r).map fun l => ks ++ l else none
      | none => none
    else none

def flatK (P : Program) : Nat → TypeId → Option (List Nat)
  | 0, _ => none
  | d + 1, t => match P.underlying t with
    | some .bool => some [0]
    | some (.int _) => some [1]
    | some .string => some [2]
    | some (.struct fs) => if P.stoodInHeld t then none else flatF P (flatK P d) 0 fs.toList
    | some (.array n e) => match P.underlying e with
      | some (.int _) => if 0 < d ∧ okT P e = true ∧ P.cellsOf e = 1 then some (List.replicate n 1) else none
      | _ => none
    | _ => none

def compI (P : Program) (op : Op) : I :=
  match op with
  | .move x | .assign x => .mov x
  | .pick c a b => .pick c a b
  | .binOp op t x y _ => match P.underlying t with
    | some (.int _) | some .string => .bin op x y
    | some .bool => match op with | .eql => .eqb false x y | .neq => .eqb true x y | _ => .bad
    | some (.struct _) => match (if P.eqGuardType P.depth t then none else flatK P 20 t) with
      | some ks => match op with | .eql => .eqs false ks x y | .neq => .eqs true ks x y | _ => .bad
      | none => .bad
    | some (.array _ _) => match (if P.eqGuardType P.depth t then none else flatK P 20 t) with
      | some ks => match op with | .eql => .eqs false ks x y | .neq => .eqs true ks x y | _ => .bad
      | none => .bad
    | some (.pointer _) => match op with | .eql => .eqp false x y | .neq => .eqp true x y | _ => .bad
    | some (.map _ _) => match op with | .eql => .eqm false x y | .neq => .eqm true x y | _ => .bad
    | some (.slice _) => match op with | .eql => .eqz false x y | .neq => .eqz true x y | _ => .bad
    | _ => .bad
  | .unOp op _ x => .un op x
  | .convert s t x => match P.underlying s, P.underlying t with
    | some (.int _), some (.int k) => .conv k x
    | _, _ => .bad
  | .build t parts => match P.underlying t, zeroA P t with
    | some (.struct fields), some z => match (if fields.toList.all (fun f => okT P f.type) then partsOf (fun i => (fields[i]?).map fun f => (f.offset, P.cellsOf f.type)) parts.toList else none) with
      | some ps => .build z ps
      | none => .bad
    | some (.array _ e), some z => match (if okT P e then partsOf (fun i => some (i * P.cellsOf e, P.cellsOf e)) parts.toList else none) with
      | some ps => .build z ps
      | none => .bad
    | _, _ => .bad
  | .buildSlice t n parts => match P.underlying t with
    | some (.slice e) => match zeroA P e, (if okT P e then partsOf (fun i => some (i * P.cellsOf e, P.cellsOf e)) parts.toList else none) with
      | some z, some ps => if z.length = P.cellsOf e ∧ 0 < P.cellsOf e ∧ n * P.cellsOf e ≤ 2 ^ 24 then .bsl (P.cellsOf e) n (List.replicate n z).flatten ps else .bad
      | _, _ => .bad
    | _ => .bad
  | .load t a => if okT P t then .load (aggB P t) (if aggB P t then P.cellsOf t else 1) a else .bad
  | .nilCheck x => .nilc x
  | .fieldAddr t x f => match P.underlying t with
    | some (.struct fields) => match fields[f]? with
      | some fd => if okT P fd.type && P.cellsOf fd.type != 0 then .fadr fd.offset x else .bad
      | none => .bad
    | _ => .bad
  | .field t x f => match P.underlying t with
    | some (.struct fields) => match fields[f]? with
      | some fd => if okT P fd.type then .fld (aggB P fd.type) fd.offset (if aggB P fd.type then P.cellsOf fd.type else 1) x else .bad
      | none => .bad
    | _ => .bad
  | .indexAddr t x i => match P.underlying t with
    | some (.array n e) => if okT P e then .iadA n (P.cellsOf e) x i else .bad
    | some (.slice e) => if okT P e then .iadS (P.cellsOf e) x i else .bad
    | _ => .bad
  | .slice t x lo hi mx => match P.underlying t with
    | some (.slice e) => if okT P e && (mx.isNone || hi.isSome) then .sls (P.cellsOf e) x lo hi mx else .bad
    | some .string => if mx.isNone then .slstr x lo hi else .bad
    | _ => .bad
  | .extract x i => .ext x i
  | .makeFunc (.func f) first cap => .mkf f first.toList cap.toList
  | .alloc e => match zeroA P e with | some z => .al z | none => .bad
  | .box e x => if okT P e then .box (P.cellsOf e) x else .bad
  | .store t a x => if okT P t then .store (P.cellsOf t) a x else .bad
  | .call { callee := .value (.func f), args, .. } => if goodCallee P f then .call f args.toList else .bad
  | .call { callee := .value (.tmp t), args, .. } => .callv (.tmp t) args.toList
  | .call { callee := .builtin .len, args, argTypes } => match args.toList, argTypes.toList with
    | [x], [t] => match P.underlying t with
      | some .string => .len true x
      | some (.slice _) => .len false x
      | some (.map _ _) => .mlen x
      | _ => .bad
    | _, _ => .bad
  | .call { callee := .builtin .append, args, argTypes } => match args.toList, argTypes.toList with
    | [x, y], [t, t'] => match P.underlying t with
      | some (.slice e) => match zeroA P e with
        | some z => if t = t' ∧ okT P e = true ∧ z.length = P.cellsOf e ∧ 0 < P.cellsOf e ∧ 0 < P.bytesOf e then .app (P.cellsOf e) (P.bytesOf e) x y else
          match P.underlying t' with
          | some (.int _) => if okT P e = true ∧ z.length = P.cellsOf e ∧ 0 < P.cellsOf e ∧ 0 < P.bytesOf e then .apz (P.cellsOf e) (P.bytesOf e) z x y else .bad
          | _ => .bad
        | none => .bad
      | _ => .bad
    | _, _ => .bad
  | .call { callee := .builtin .min, args, .. } => .minmax false args.toList
  | .call { callee := .builtin .cap, args, argTypes } => match args.toList, argTypes.toList with
    | [x], [t] => match P.underlying t with
      | some (.slice _) => .cap x
      | _ => .bad
    | _, _ => .bad
  | .call { callee := .builtin .clear, args, argTypes } => match args.toList, argTypes.toList with
    | [x], [t] => match P.underlying t with
      | some (.slice e) => match zeroA P e with
        | some z => if okT P e = true ∧ z.length = P.cellsOf e ∧ 0 < P.cellsOf e then .clr (P.cellsOf e) z x else .bad
        | none => .bad
      | _ => .bad
    | _, _ => .bad
  | .makeSlice t l c => match P.underlying t with
    | some (.slice e) => match zeroA P e with
      | some z => if okT P e = true ∧ z.length = P.cellsOf e ∧ 0 < P.cellsOf e ∧ 0 < P.bytesOf e then .mks (P.cellsOf e) (P.bytesOf e) z l c else .bad
      | none => .bad
    | _ => .bad
  | .call { callee := .builtin .delete, args, argTypes } => match args.toList, argTypes.toList with
    | [x, i], [t, _] => match P.underlying t with
      | some (.map ke _) => match kkOf (P.underlying ke) with
        | some kk => .mdel kk x i
        | none => .bad
      | _ => .bad
    | _, _ => .bad
  | .lookup t x i ok => match P.underlying t with
    | some (.map ke e) => match kkOf (P.underlying ke), zeroV P e with
      | some kk, some z => .mlook ok kk z x i
      | _, _ => .bad
    | _ => .bad
  | .mapUpdate t x i v | .insert t x i v => match P.underlying t with
    | some (.map ke _) => match kkOf (P.underlying ke) with
      | some kk => .mupd kk x i v
      | none => .bad
    | _ => .bad
  | .makeMap _ none => .mmk
  | .range t x => match P.underlying t with
    | some (.map _ _) => .mrng x
    | _ => .bad
  | .next x false => .mnxt x
  | .entry x => .ment x
  | .call { callee := .builtin .max, args, .. } => .minmax true args.toList
  | _ => .bad

def compG (P : Program) (ops : Array Oper) (o : Oper) : Option GI :=
  match o.guard with
  | none => some ⟨none, o.dst, compI P o.op⟩
  | some (j, want) => match (ops[j]?).bind (·.dst) with
    | some t => some ⟨some (t, want), o.dst, compI P o.op⟩
    | none => none
end Go.Ab
