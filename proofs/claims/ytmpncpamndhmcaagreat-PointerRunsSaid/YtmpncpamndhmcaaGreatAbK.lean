/-
  The abstract steps as rewriting rules: each goes on only where the values are known, and never looks into what comes behind.
-/
import Derived.Test.YtmpncpamndhmcaaGreatAbJ
import Derived.IntWalk
namespace Go.Ab
open Go.RowKit
set_option linter.unusedVariables false
set_option linter.unusedSimpArgs false

/-! ### The steps, by names whose continuations are not looked into -/
/-- What comes behind: a class, so that rewriting never enters. -/
class Ct (α : Sort _) where
  k : α
def WP (P : Program) (cc : CC) [Q : Ct (Exit → ASt → Prop)] (s : ASt) : Prop := wpc P cc Q.k s
def TH [N : Ct (ASt → Prop)] [Q : Ct (Exit → ASt → Prop)] (e : Exit) (s : ASt) : Prop := thenA N.k Q.k e s
def BL (id : Nat) [Q : Ct (Exit → ASt → Prop)] (e : Exit) (s : ASt) : Prop := blockA id Q.k e s
def EA (res : List RV) [K : Ct (AV → AH → Prop)] (e : Exit) (s : ASt) : Prop := (e = .normal ∨ e = .ret) ∧ resK s res fun v => K.k v s.H
def RS (s : ASt) (l : List RV) [k : Ct (AV → Prop)] : Prop := resK s l k.k
def R1 (s : ASt) [k : Ct (AV → Prop)] (r : RV) : Prop := rvK s k.k r
def RV' (s : ASt) (l : List RV) [k : Ct (List AV → Prop)] : Prop := rvsK s l k.k
def IS (P : Program) (l : List GI) [K : Ct (ASt → Prop)] (s : ASt) : Prop := iseq P l K.k s
def IT (P : Program) (x : GI) (s : ASt) [K : Ct (ASt → Prop)] : Prop := istep P x s K.k
def IV (P : Program) (x : GI) (s : ASt) [k : Ct (AV → Prop)] : Prop := istepV P x s k.k
def DS (P : Program) (l : List (Nat × GI × DK)) (I : List (Nat × GI × AV)) [K : Ct (ASt → Prop)] (s : ASt) : Prop := dseq P l I K.k s
def DR (P : Program) (t : DT) (I : List (Nat × GI × AV)) [K : Ct (ASt → Prop)] (s : ASt) : Prop := dtree P t I K.k s
def CH (P : Program) (chk : List Nat) (s : ASt) (r : List (Nat × GI × AV)) : Prop := chkAll P chk s r
def OP (P : Program) (ρ : Operand → AV) (H : AH) [k : Ct (AV → AH → Prop)] (i : I) : Prop := iop P ρ H k.k i
def SEE (H : AH) (a : AV) (sz : Nat) [k : Ct (List AV → Prop)] : Prop := seeK H a sz k.k
def ONE (agg : Bool) (cs : List AV) [k : Ct (AV → Prop)] : Prop := oneK agg cs k.k
def BIN (op : BinOp) (u v : Value) [k : Ct (Value → Prop)] : Prop := binK op u v k.k
def UN (op : UnOp) (u : Value) [k : Ct (Value → Prop)] : Prop := unK op u k.k
def MM (mx : Bool) (j : IntKind) (a : Int) (l : List AV) [k : Ct (Value → Prop)] : Prop := minmaxK mx j a l k.k
def NEWS (H : AH) (y : AV) (sz : Nat) [k : Ct (Nat → List AV → Prop)] : Prop := newsK H y sz k.k
def BND (ρ : Operand → AV) (o : Option Operand) (d : Int) [k : Ct (Int → Prop)] : Prop := bndK ρ o d k.k
def AY (P : Program) (l : Nat) (args : List AV) (H : AH) [K : Ct (AV → AH → Prop)] : Prop := AYL P l args H K.k
/-- A round's end, not looked into. -/
def RQ (l : Nat) (ob : Option Code → AO) [K : Ct (AV → AH → Prop)] (e : Exit) (s : ASt) : Prop := rndQ l ob K.k e s
theorem RQ_normal {l : Nat} {ob : Option Code → AO} {K : AV → AH → Prop} {s : ASt} : @RQ l ob ⟨K⟩ .normal s = K (.pl (.bool true)) (upd s.H l (ob none)) := propext Iff.rfl
theorem RQ_ret {l : Nat} {ob : Option Code → AO} {K : AV → AH → Prop} {s : ASt} : @RQ l ob ⟨K⟩ .ret s = K (.pl (.bool false)) (upd s.H l (ob (some .ret))) := propext Iff.rfl
theorem RQ_exit {l id : Nat} {ob : Option Code → AO} {K : AV → AH → Prop} {s : ASt} : @RQ l ob ⟨K⟩ (.exit id) s = K (.pl (.bool false)) (upd s.H l (ob (some (.exit id)))) := propext Iff.rfl
theorem setAs_nil {n : Nat} {t : Nat → AV} : setAs n t [] = t := rfl
theorem setAs_cons {n p : Nat} {t : Nat → AV} {v : AV} {r : List (Nat × AV)} : setAs n t ((p, v) :: r) = setAs n (setE n t p v) r := rfl
def AC (P : Program) (f : FuncId) (args : List AV) (H : AH) [K : Ct (AV → AH → Prop)] : Prop := ACall P f args H K.k

/-! ### Where rewriting stops -/
def condK (b : Bool) [A : Ct (Prop)] [B : Ct (Prop)] : Prop := (b = true → A.k) ∧ (b = false → B.k)
def newK (H : AH) [f : Ct (Nat → Prop)] : Prop := ∀ b, H b = none → f.k b
def ownK (H : AH) (o : Nat) [f : Ct (Nat → Prop)] : Prop := ∀ b, (b = o ∨ H b = none) → f.k b
/-- This, and then that: neither is looked into. -/
def andK (A : Prop) [B : Ct (Prop)] : Prop := A ∧ B.k

theorem condK_true {A B : Prop} : @condK true ⟨A⟩ ⟨B⟩ = A := by simp [condK]
theorem condK_false {A B : Prop} : @condK false ⟨A⟩ ⟨B⟩ = B := by simp [condK]
theorem condK_not {b : Bool} {A B : Prop} : @condK (!b) ⟨A⟩ ⟨B⟩ = @condK b ⟨B⟩ ⟨A⟩ := by cases b <;> simp [condK]
theorem condK_of {b : Bool} {A B : Prop} (h1 : b = true → A) (h2 : b = false → B) : @condK b ⟨A⟩ ⟨B⟩ := ⟨h1, h2⟩
theorem newK_of {H : AH} {f : Nat → Prop} (h : ∀ b, H b = none → f b) : @newK H ⟨f⟩ := h
theorem ownK_of {H : AH} {o : Nat} {f : Nat → Prop} (h : ∀ b, (b = o ∨ H b = none) → f b) : @ownK H o ⟨f⟩ := h

section
variable {P : Program} {Q : Exit → ASt → Prop} {s s' : ASt} {n : Nat} {t : Nat → AV} {H : AH}

theorem wpc_skip : @WP P .skip ⟨Q⟩ s = Q .normal s := propext Iff.rfl
theorem wpc_ret : @WP P .ret ⟨Q⟩ s = Q .ret s := propext Iff.rfl
theorem wpc_exit {id : Nat} : @WP P (.exit id) ⟨Q⟩ s = Q (.exit id) s := propext Iff.rfl
theorem wpc_seq {a b : CC} : @WP P (.seq a b) ⟨Q⟩ s = @WP P a ⟨@TH ⟨@WP P b ⟨Q⟩⟩ ⟨Q⟩⟩ s := propext Iff.rfl
theorem wpc_reg {l : List GI} {keep : List Nat} : @WP P (.reg l keep) ⟨Q⟩ s = @IS P l ⟨fun s' => Q .normal (s'.less keep)⟩ s := propext Iff.rfl
theorem wpc_regD {l : List (Nat × GI × DK)} {keep : List Nat} : @WP P (.regD l keep) ⟨Q⟩ s = @DS P l [] ⟨fun s' => Q .normal (s'.less keep)⟩ s := propext Iff.rfl
def testA (v : AV) [A : Ct (Prop)] [B : Ct (Prop)] : Prop := match v with | .pl (.bool t) => @condK t ⟨A.k⟩ ⟨B.k⟩ | _ => False
theorem testA_bool {b : Bool} {A B : Prop} : @testA (.pl (.bool b)) ⟨A⟩ ⟨B⟩ = @condK b ⟨A⟩ ⟨B⟩ := propext Iff.rfl
theorem wpc_cond {c : Operand} {a b : CC} : @WP P (.cond c a b) ⟨Q⟩ s = @testA (s.ev c) ⟨@WP P a ⟨Q⟩ s⟩ ⟨@WP P b ⟨Q⟩ s⟩ := propext Iff.rfl
theorem wpc_block {id : Nat} {a : CC} : @WP P (.block id a) ⟨Q⟩ s = @WP P a ⟨@BL id ⟨Q⟩⟩ s := propext Iff.rfl
/-- A loop's invariant, where a part of the view may be forgotten: not looked into. -/
def FgK [f : Ct (ASt → Prop)] (s : ASt) : Prop := Fg f.k s
theorem FgK.of {f : ASt → Prop} {s : ASt} (H0 : AH) (hs : Sub H0 s.H) (h : f ⟨s.n, s.t, H0⟩) : @FgK ⟨f⟩ s := ⟨H0, hs, h⟩
theorem FgK.same {f : ASt → Prop} {s : ASt} (h : f s) : @FgK ⟨f⟩ s := ⟨s.H, .refl _, h⟩
theorem wpc_loop {a : CC} (I : ASt → Prop) (m : ASt → Nat) (h0 : @FgK ⟨I⟩ s) (h : ∀ s, I s → @WP P a ⟨@TH ⟨fun s' => @FgK ⟨fun s'' => I s'' ∧ m s'' < m s⟩ s'⟩ ⟨Q⟩⟩ s) : @WP P (.loop a) ⟨Q⟩ s := ⟨I, m, h0, h⟩

theorem wpc_rng {f : Operand} {ps : List Nat} {a b : CC} {g : FuncId} {caps : List AV} (hf : s.ev f = .fn g [] caps) (hg : goodCallee P g = true)
    (h : ∀ (l : Nat) (ob : Option Code → AO), s.H l = none → (∀ c, kd (some (ob c)) = 2) →
      (∀ (args : List AV) (H1 : AH) (K : AV → AH → Prop), args.length = ps.length → H1 l = none → @WP P a ⟨@TH ⟨@WP P b ⟨@RQ l ob ⟨K⟩⟩⟩ ⟨fun _ _ => False⟩⟩ ⟨s.n, setAs s.n s.t (ps.zip args), H1⟩ → @AY P l args (upd H1 l (ob none)) ⟨K⟩) →
      @AC P g (.pl (.func (.yield l) #[] #[]) :: caps) (upd s.H l (ob none)) ⟨rngK l ob Q s.n s.t⟩) : @WP P (.rng f ps a b) ⟨Q⟩ s := by
  show wpc P (.rng f ps a b) Q s
  simp only [wpc, hf]
  exact ⟨hg, h⟩
theorem thenA_normal {N : ASt → Prop} : @TH ⟨N⟩ ⟨Q⟩ .normal s = N s := propext Iff.rfl
theorem thenA_ret {N : ASt → Prop} : @TH ⟨N⟩ ⟨Q⟩ .ret s = Q .ret s := propext Iff.rfl
theorem thenA_exit {N : ASt → Prop} {id : Nat} : @TH ⟨N⟩ ⟨Q⟩ (.exit id) s = Q (.exit id) s := propext Iff.rfl
theorem blockA_normal {id : Nat} : @BL id ⟨Q⟩ .normal s = Q .normal s := propext Iff.rfl
theorem blockA_ret {id : Nat} : @BL id ⟨Q⟩ .ret s = Q .ret s := propext Iff.rfl
theorem blockA_exit {id : Nat} : @BL id ⟨Q⟩ (.exit id) s = Q .normal s := by simp [BL, blockA]
theorem blockA_other {id id' : Nat} (h : id' ≠ id) : @BL id ⟨Q⟩ (.exit id') s = Q (.exit id') s := by simp [BL, blockA, h]

theorem endA_normal {res : List RV} {K : AV → AH → Prop} : @EA res ⟨K⟩ .normal s = @RS s res ⟨fun v => K v s.H⟩ := by simp [EA, RS]
theorem endA_ret {res : List RV} {K : AV → AH → Prop} : @EA res ⟨K⟩ .ret s = @RS s res ⟨fun v => K v s.H⟩ := by simp [EA, RS]

/-! ### States -/
theorem ev_tmp' {k : Nat} : ASt.ev s (.tmp k) = s.t k := rfl
theorem ev_const {v : Value} : ASt.ev s (.const v) = cv v := rfl
theorem ev_func {f : FuncId} : ASt.ev s (.func f) = .pl (.func (.func f) #[] #[]) := rfl
theorem ev_global {g : Nat} : ASt.ev s (.global g) = .pl (.pointer (some ⟨g, 0, none⟩)) := rfl
theorem cv_int {k : IntKind} {v : Int} : cv (.int k v) = .pl (.int k v) := rfl
theorem cv_bool {v : Bool} : cv (.bool v) = .pl (.bool v) := rfl
theorem cv_string {v : ByteArray} : cv (.string v) = .pl (.string v) := rfl
theorem cv_pointer {v : Option Addr} : cv (.pointer v) = .pl (.pointer v) := rfl
theorem cv_slice {v : Option Addr} {l c : Nat} : cv (.slice v l c) = .pl (.slice v l c) := rfl
theorem cv_map {v : Option Nat} : cv (.map v) = .pl (.map v) := rfl
theorem cv_agg {cs : Array Value} : cv (.agg cs) = .ag (cs.toList.map .pl) := rfl
theorem put_some {d : Nat} {v : AV} : ASt.put s (some d) v = ⟨s.n, setE s.n s.t d v, s.H⟩ := rfl
theorem put_none {v : AV} : ASt.put s none v = s := rfl
theorem wH_s {H' : AH} : ASt.wH s H' = ⟨s.n, s.t, H'⟩ := rfl
theorem setE_apply {d j : Nat} {v : AV} : setE n t d v j = if j = d ∧ d < n then v else t j := rfl
theorem setE_env {d : Nat} {v : AV} {l : List (Nat × AV)} (h : d < n) : setE n (env l) d v = env ((d, v) :: l) := by
  funext j
  simp only [setE, env]
  by_cases e : j = d
  · rw [if_pos ⟨e, h⟩, if_pos e]
  · rw [if_neg (fun x => e x.1), if_neg e]
def lessL (t : Nat → AV) : List Nat → List (Nat × AV)
  | [] => []
  | k :: r => (k, t k) :: lessL t r
theorem less_eq {keep : List Nat} : ASt.less keep s = ⟨s.n, env (lessL s.t keep), s.H⟩ := by
  have : lessL s.t keep = keep.map fun k => (k, s.t k) := by
    induction keep with
    | nil => rfl
    | cons k r ih => simp [lessL, ih]
  rw [this]; rfl
theorem env_cons {k j : Nat} {v : AV} {r : List (Nat × AV)} : env ((k, v) :: r) j = if j = k then v else env r j := rfl
theorem env_nil {j : Nat} : env [] j = .any := rfl
theorem upd_apply {k j : Nat} {o : AO} : upd H k o j = if j = k then some o else H j := rfl
theorem del_apply {k j : Nat} : del H k j = if j = k then none else H j := rfl
theorem upd_upd {k : Nat} {a b : AO} : upd (upd H k a) k b = upd H k b := by
  funext j; simp only [upd_apply]; split <;> rfl
theorem upd_none {k j : Nat} {o : AO} : upd H k o j = none ↔ j ≠ k ∧ H j = none := by
  unfold upd
  split <;> simp_all
theorem startA_eq {cf : CF} {args : List AV} : startA cf args H = ⟨cf.n, env (lessL (fun k => args.getD k .any) cf.keep), H⟩ := by
  have : ∀ l : List Nat, lessL (fun k => args.getD k .any) l = l.map fun k => (k, args.getD k .any) := by
    intro l
    induction l with
    | nil => rfl
    | cons k r ih => rw [lessL, ih]; rfl
  rw [this]; rfl

/-! ### Cells -/
theorem cells_ag (cs : List AV) : (AV.ag cs).cells = some cs := rfl
theorem cells_sl (b o n z : Nat) (x : Bool) : (AV.sl b o n z x).cells = some [AV.sl b o n z x] := rfl
theorem one_sl (b o n z : Nat) (x : Bool) : (AV.sl b o n z x).one = true := rfl
theorem cells_vs (n : Nat) (x : Bool) (cs : List AV) : (AV.vs n x cs).cells = some [AV.vs n x cs] := rfl
theorem one_vs (n : Nat) (x : Bool) (cs : List AV) : (AV.vs n x cs).one = true := rfl
theorem cells_ep (cs : List AV) : (AV.ep cs).cells = some [AV.ep cs] := rfl
theorem one_ep (cs : List AV) : (AV.ep cs).one = true := rfl
theorem cells_fn (f : FuncId) (a b : List AV) : (AV.fn f a b).cells = some [AV.fn f a b] := rfl
theorem one_fn (f : FuncId) (a b : List AV) : (AV.fn f a b).one = true := rfl
theorem cells_int (k : IntKind) (n : Int) : (AV.pl (.int k n)).cells = some [AV.pl (.int k n)] := rfl
theorem one_int (k : IntKind) (n : Int) : (AV.pl (.int k n)).one = true := rfl
theorem cells_bool (b : Bool) : (AV.pl (.bool b)).cells = some [AV.pl (.bool b)] := rfl
theorem one_bool (b : Bool) : (AV.pl (.bool b)).one = true := rfl
theorem cells_string (b : ByteArray) : (AV.pl (.string b)).cells = some [AV.pl (.string b)] := rfl
theorem one_string (b : ByteArray) : (AV.pl (.string b)).one = true := rfl
theorem cells_pointer (b : Option Addr) : (AV.pl (.pointer b)).cells = some [AV.pl (.pointer b)] := rfl
theorem one_pointer (b : Option Addr) : (AV.pl (.pointer b)).one = true := rfl
theorem cells_slice (a : Option Addr) (n c : Nat) : (AV.pl (.slice a n c)).cells = some [AV.pl (.slice a n c)] := rfl
theorem one_slice (a : Option Addr) (n c : Nat) : (AV.pl (.slice a n c)).one = true := rfl
theorem cells_map (a : Option Nat) : (AV.pl (.map a)).cells = some [AV.pl (.map a)] := rfl
theorem one_map (a : Option Nat) : (AV.pl (.map a)).one = true := rfl
theorem cells_agg (cs : Array Value) : (AV.pl (.agg cs)).cells = some (cs.toList.map .pl) := rfl

/-! ### Results -/
theorem resK_one {r : RV} {k : AV → Prop} : @RS s [r] ⟨k⟩ = @R1 s ⟨k⟩ r := propext Iff.rfl
theorem resK_nil {k : AV → Prop} : @RS s [] ⟨k⟩ = k (.tp []) := propext Iff.rfl
theorem resK_two {a b : RV} {l : List RV} {k : AV → Prop} : @RS s (a :: b :: l) ⟨k⟩ = @RV' s (a :: b :: l) ⟨fun vs => k (.tp vs)⟩ := propext Iff.rfl
theorem rvK_t {k : AV → Prop} {x : Nat} : @R1 s ⟨k⟩ (.t x) = k (s.t x) := propext Iff.rfl
theorem rvK_c {k : AV → Prop} {x sz : Nat} {agg : Bool} : @R1 s ⟨k⟩ (.c x agg sz) = @SEE s.H (s.t x) sz ⟨fun cs => @ONE agg cs ⟨k⟩⟩ := propext Iff.rfl
theorem rvsK_nil {k : List AV → Prop} : @RV' s [] ⟨k⟩ = k [] := propext Iff.rfl
theorem rvsK_cons {k : List AV → Prop} {r : RV} {l : List RV} : @RV' s (r :: l) ⟨k⟩ = @R1 s ⟨fun v => @RV' s l ⟨fun vs => k (v :: vs)⟩⟩ r := propext Iff.rfl

/-! ### Steps -/
theorem iseq_nil {K : ASt → Prop} : @IS P [] ⟨K⟩ s = K s := propext Iff.rfl
theorem iseq_cons {K : ASt → Prop} {x : GI} {r : List GI} : @IS P (x :: r) ⟨K⟩ s = @IT P x s ⟨@IS P r ⟨K⟩⟩ := propext Iff.rfl
def gdA (v : AV) (want : Bool) [A : Ct (Prop)] [B : Ct (Prop)] : Prop := match v with
  | .pl (.bool b) => ((b == want) = true → A.k) ∧ ((b == want) = false → B.k)
  | .pl _ => B.k
  | _ => False
theorem gdA_true {b : Bool} {A B : Prop} : @gdA (.pl (.bool b)) true ⟨A⟩ ⟨B⟩ = @condK b ⟨A⟩ ⟨B⟩ := by cases b <;> simp [gdA, condK]
theorem gdA_false {b : Bool} {A B : Prop} : @gdA (.pl (.bool b)) false ⟨A⟩ ⟨B⟩ = @condK b ⟨B⟩ ⟨A⟩ := by cases b <;> simp [gdA, condK]
theorem gdA_undef {want : Bool} {A B : Prop} : @gdA undefA want ⟨A⟩ ⟨B⟩ = B := propext Iff.rfl
theorem istep_free {d : Option Tmp} {i : I} {K : ASt → Prop} : @IT P ⟨none, d, i⟩ s ⟨K⟩ = @OP P s.ev s.H ⟨fun v H' => K ((s.put d v).wH H')⟩ i := propext Iff.rfl
theorem istep_guard {g : Tmp} {want : Bool} {d : Option Tmp} {i : I} {K : ASt → Prop} : @IT P ⟨some (g, want), d, i⟩ s ⟨K⟩ =
    @gdA (s.t g) want ⟨@OP P s.ev s.H ⟨fun v H' => K ((s.put d v).wH H')⟩ i⟩ ⟨K (s.put d undefA)⟩ := by
  unfold IT istep gdA
  dsimp only
  generalize s.t g = v
  cases v <;> first | rfl | (rename_i u; cases u <;> rfl)
theorem istepV_free {d : Option Tmp} {i : I} {k : AV → Prop} : @IV P ⟨none, d, i⟩ s ⟨k⟩ = @OP P s.ev s.H ⟨fun v _ => k v⟩ i := propext Iff.rfl
theorem istepV_guard {g : Tmp} {want : Bool} {d : Option Tmp} {i : I} {k : AV → Prop} : @IV P ⟨some (g, want), d, i⟩ s ⟨k⟩ = @gdA (s.t g) want ⟨@OP P s.ev s.H ⟨fun v _ => k v⟩ i⟩ ⟨k undefA⟩ := by
  unfold IV istepV gdA
  dsimp only
  generalize s.t g = v
  cases v <;> first | rfl | (rename_i u; cases u <;> rfl)
theorem dseq_nil {I : List (Nat × GI × AV)} {K : ASt → Prop} : @DS P [] I ⟨K⟩ s = K s := propext Iff.rfl
theorem dseq_pu {c : Nat} {g : Option (Tmp × Bool)} {d : Option Tmp} {i : I} {r : List (Nat × GI × DK)} {I : List (Nat × GI × AV)} {K : ASt → Prop} :
    @DS P ((c, ⟨g, d, i⟩, .pu) :: r) I ⟨K⟩ s = @IV P ⟨g, d, i⟩ s ⟨fun v => @DS P r I ⟨K⟩ (s.put d v)⟩ := propext Iff.rfl
theorem dseq_rd {c : Nat} {g : Option (Tmp × Bool)} {d : Option Tmp} {i : I} {r : List (Nat × GI × DK)} {I : List (Nat × GI × AV)} {K : ASt → Prop} :
    @DS P ((c, ⟨g, d, i⟩, .rd) :: r) I ⟨K⟩ s = @IV P ⟨g, d, i⟩ s ⟨fun v => @DS P r ((c, ⟨g, d, i⟩, v) :: I) ⟨K⟩ (s.put d v)⟩ := propext Iff.rfl
theorem dseq_ef {c : Nat} {gi : GI} {chk : List Nat} {r : List (Nat × GI × DK)} {I : List (Nat × GI × AV)} {K : ASt → Prop} :
    @DS P ((c, gi, .ef chk) :: r) I ⟨K⟩ s = @IT P gi s ⟨fun s' => @andK (@CH P chk s' I) ⟨@DS P r I ⟨K⟩ s'⟩⟩ := propext Iff.rfl
theorem chkAll_nil {chk : List Nat} : @CH P chk s [] = True := propext Iff.rfl
theorem chkAll_cons {chk : List Nat} {c : Nat} {gi : GI} {v : AV} {r : List (Nat × GI × AV)} : @CH P chk s ((c, gi, v) :: r) = (@andK (if chk.contains c = true then @IV P gi s ⟨fun v' => v' = v⟩ else True) ⟨@CH P chk s r⟩) := propext Iff.rfl
/-- Two orders: neither is looked into. -/
def bothK [A : Ct (Prop)] [B : Ct (Prop)] : Prop := A.k ∧ B.k
theorem bothK_of {A B : Prop} (h1 : A) (h2 : B) : @bothK ⟨A⟩ ⟨B⟩ := ⟨h1, h2⟩
theorem wpc_regT {l : DT} {keep : List Nat} : @WP P (.regT l keep) ⟨Q⟩ s = @DR P l [] ⟨fun s' => Q .normal (s'.less keep)⟩ s := propext Iff.rfl
theorem dtree_nil {I : List (Nat × GI × AV)} {K : ASt → Prop} : @DR P .nil I ⟨K⟩ s = K s := propext Iff.rfl
theorem dtree_pu {c : Nat} {g : Option (Tmp × Bool)} {d : Option Tmp} {i : I} {r : DT} {I : List (Nat × GI × AV)} {K : ASt → Prop} :
    @DR P (.cons (c, ⟨g, d, i⟩, .pu) r) I ⟨K⟩ s = @IV P ⟨g, d, i⟩ s ⟨fun v => @DR P r I ⟨K⟩ (s.put d v)⟩ := propext Iff.rfl
theorem dtree_rd {c : Nat} {g : Option (Tmp × Bool)} {d : Option Tmp} {i : I} {r : DT} {I : List (Nat × GI × AV)} {K : ASt → Prop} :
    @DR P (.cons (c, ⟨g, d, i⟩, .rd) r) I ⟨K⟩ s = @IV P ⟨g, d, i⟩ s ⟨fun v => @DR P r ((c, ⟨g, d, i⟩, v) :: I) ⟨K⟩ (s.put d v)⟩ := propext Iff.rfl
theorem dtree_ef {c : Nat} {gi : GI} {chk : List Nat} {r : DT} {I : List (Nat × GI × AV)} {K : ASt → Prop} :
    @DR P (.cons (c, gi, .ef chk) r) I ⟨K⟩ s = @IT P gi s ⟨fun s' => @andK (@CH P chk s' I) ⟨@DR P r I ⟨K⟩ s'⟩⟩ := propext Iff.rfl
theorem dtree_br {a b : DT} {I : List (Nat × GI × AV)} {K : ASt → Prop} : @DR P (.br a b) I ⟨K⟩ s = @bothK ⟨@DR P a I ⟨K⟩ s⟩ ⟨@DR P b I ⟨K⟩ s⟩ := propext Iff.rfl
theorem andK_true {B : Prop} : @andK True ⟨B⟩ = B := by simp [andK]
end

/-! ### Operations -/
section
variable {P : Program} {ρ : Operand → AV} {H H' : AH} {k : AV → AH → Prop}


def pickK (c a b : AV) [k : Ct (AV → Prop)] : Prop := match c with
  | .pl (.bool true) => k.k a
  | .pl (.bool false) => k.k b
  | _ => False
theorem pickK_true {a b : AV} {k : AV → Prop} : @pickK (.pl (.bool true)) a b ⟨k⟩ = k a := propext Iff.rfl
theorem pickK_false {a b : AV} {k : AV → Prop} : @pickK (.pl (.bool false)) a b ⟨k⟩ = k b := propext Iff.rfl
theorem pickK_tb {c b : Bool} {k : AV → Prop} : @pickK (.pl (.bool c)) (.pl (.bool true)) (.pl (.bool b)) ⟨k⟩ = k (.pl (.bool (c || b))) := by cases c <;> rfl
theorem pickK_fb {c b : Bool} {k : AV → Prop} : @pickK (.pl (.bool c)) (.pl (.bool b)) (.pl (.bool false)) ⟨k⟩ = k (.pl (.bool (c && b))) := by cases c <;> simp [pickK]

def bin2K (op : BinOp) (a b : AV) [k : Ct (Value → Prop)] : Prop := match a, b with
  | .pl u, .pl v => @BIN op u v ⟨k.k⟩
  | _, _ => False
theorem bin2K_pl {op : BinOp} {u v : Value} {k : Value → Prop} : @bin2K op (.pl u) (.pl v) ⟨k⟩ = @BIN op u v ⟨k⟩ := propext Iff.rfl

def eqbK (neq : Bool) (a b : AV) [k : Ct (AV → Prop)] : Prop := match a, b with
  | .pl (.bool u), .pl (.bool v) => k.k (.pl (.bool (if neq then !(u == v) else u == v)))
  | _, _ => False
theorem eqbK_eq {u v : Bool} {k : AV → Prop} : @eqbK false (.pl (.bool u)) (.pl (.bool v)) ⟨k⟩ = k (.pl (.bool (u == v))) := propext Iff.rfl
theorem eqbK_ne {u v : Bool} {k : AV → Prop} : @eqbK true (.pl (.bool u)) (.pl (.bool v)) ⟨k⟩ = k (.pl (.bool (u != v))) := propext Iff.rfl

def eqpK (neq : Bool) (a b : AV) [k : Ct (AV → Prop)] : Prop := match a, b with
  | .pl (.pointer u), .pl (.pointer none) => k.k (.pl (.bool (if neq then !u.isNone else u.isNone)))
  | _, _ => False
theorem eqpK_eq {u : Option Addr} {k : AV → Prop} : @eqpK false (.pl (.pointer u)) (.pl (.pointer none)) ⟨k⟩ = k (.pl (.bool u.isNone)) := propext Iff.rfl
theorem eqpK_ne {u : Option Addr} {k : AV → Prop} : @eqpK true (.pl (.pointer u)) (.pl (.pointer none)) ⟨k⟩ = k (.pl (.bool (!u.isNone))) := propext Iff.rfl

/-- A test that is to hold, and what comes then. -/
def needK (p : Prop) [A : Ct (Prop)] : Prop := p ∧ A.k
theorem needK_true {A : Prop} : @needK True ⟨A⟩ = A := by simp [needK]
theorem needK_ok {p A : Prop} (h : p) : @needK p ⟨A⟩ = A := by simp [needK, h]
def eqmK (neq : Bool) (a b : AV) [k : Ct (AV → Prop)] : Prop := match a, b with
  | .pl (.map u), .pl (.map none) => k.k (.pl (.bool (if neq then !u.isNone else u.isNone)))
  | _, _ => False
theorem eqmK_eq {u : Option Nat} {k : AV → Prop} : @eqmK false (.pl (.map u)) (.pl (.map none)) ⟨k⟩ = k (.pl (.bool u.isNone)) := propext Iff.rfl
theorem eqmK_ne {u : Option Nat} {k : AV → Prop} : @eqmK true (.pl (.map u)) (.pl (.map none)) ⟨k⟩ = k (.pl (.bool (!u.isNone))) := propext Iff.rfl
def eqzK (neq : Bool) (a b : AV) [k : Ct (AV → Prop)] : Prop := match a, b with
  | .pl (.slice u _ _), .pl (.slice none _ _) => k.k (.pl (.bool (if neq then !u.isNone else u.isNone)))
  | .sl _ _ _ _ _, .pl (.slice none _ _) => k.k (.pl (.bool neq))
  | .vs n _ _, .pl (.slice none _ _) => @needK (n ≠ 0) ⟨k.k (.pl (.bool neq))⟩
  | _, _ => False
theorem eqzK_eq {u : Option Addr} {n c n' c' : Nat} {k : AV → Prop} : @eqzK false (.pl (.slice u n c)) (.pl (.slice none n' c')) ⟨k⟩ = k (.pl (.bool u.isNone)) := propext Iff.rfl
theorem eqzK_ne {u : Option Addr} {n c n' c' : Nat} {k : AV → Prop} : @eqzK true (.pl (.slice u n c)) (.pl (.slice none n' c')) ⟨k⟩ = k (.pl (.bool (!u.isNone))) := propext Iff.rfl
theorem eqzK_sl {neq : Bool} {b o n z n' c' : Nat} {f : Bool} {k : AV → Prop} : @eqzK neq (.sl b o n z f) (.pl (.slice none n' c')) ⟨k⟩ = k (.pl (.bool neq)) := propext Iff.rfl
theorem eqzK_vs {neq : Bool} {n n' c' : Nat} {f : Bool} {cs : List AV} {k : AV → Prop} : @eqzK neq (.vs n f cs) (.pl (.slice none n' c')) ⟨k⟩ = @needK (n ≠ 0) ⟨k (.pl (.bool neq))⟩ := propext Iff.rfl

def un1K (op : UnOp) (a : AV) [k : Ct (Value → Prop)] : Prop := match a with
  | .pl u => @UN op u ⟨k.k⟩
  | _ => False
theorem un1K_pl {op : UnOp} {u : Value} {k : Value → Prop} : @un1K op (.pl u) ⟨k⟩ = @UN op u ⟨k⟩ := propext Iff.rfl

def convK (j : IntKind) (a : AV) [k : Ct (AV → Prop)] : Prop := match a with
  | .pl (.int _ n) => k.k (.pl (.int j (j.wrap n)))
  | _ => False
theorem convK_int {j i : IntKind} {n : Int} {k : AV → Prop} : @convK j (.pl (.int i n)) ⟨k⟩ = k (.pl (.int j (j.wrap n))) := propext Iff.rfl

def fillK (o : Option (List AV)) [k : Ct (List AV → Prop)] : Prop := match o with
  | some cs => k.k cs
  | none => False
theorem fillK_some {cs : List AV} {k : List AV → Prop} : @fillK (some cs) ⟨k⟩ = k cs := propext Iff.rfl
def partsA (ρ : Operand → AV) : List ((Nat × Nat) × Operand) → List ((Nat × Nat) × AV)
  | [] => []
  | p :: r => (p.1, ρ p.2) :: partsA ρ r
theorem partsA_eq (parts : List ((Nat × Nat) × Operand)) : (parts.map fun p => (p.1, ρ p.2)) = partsA ρ parts := by
  induction parts with
  | nil => rfl
  | cons p r ih => simp [partsA, ih]
def argsA (ρ : Operand → AV) : List Operand → List AV
  | [] => []
  | p :: r => ρ p :: argsA ρ r
theorem argsA_eq (l : List Operand) : l.map ρ = argsA ρ l := by
  induction l with
  | nil => rfl
  | cons p r ih => simp [argsA, ih]
theorem fillA_cons {cs : List AV} {off sz : Nat} {v : AV} {r : List ((Nat × Nat) × AV)} : fillA cs (((off, sz), v) :: r) = match v.cells with
    | some ds => if ds.length = sz ∧ off + sz ≤ cs.length then fillA (cs.take off ++ ds ++ cs.drop (off + sz)) r else none
    | none => none := rfl
theorem fillA_nil {cs : List AV} : fillA cs [] = some cs := rfl

def cellsK (o : Option AO) [k : Ct (List AV → Prop)] : Prop := match o with
  | some (.cells cs) => k.k cs
  | _ => False
theorem cellsK_some {cs : List AV} {k : List AV → Prop} : @cellsK (some (.cells cs)) ⟨k⟩ = k cs := propext Iff.rfl
theorem cellsK_of {o : Option AO} {cs : List AV} {k : List AV → Prop} (h : o = some (.cells cs)) (hk : k cs) : @cellsK o ⟨k⟩ := by rw [h]; exact hk
theorem seeK_ep {cs : List AV} {sz : Nat} {k : List AV → Prop} : @SEE H (.ep cs) sz ⟨k⟩ = @needK (sz ≤ cs.length) ⟨k (cs.take sz)⟩ := propext Iff.rfl
def seesK (o : Option AO) [k : Ct (List AV → Prop)] : Prop := match o with
  | some (.cells cs) => k.k cs
  | some (.ro cs) => k.k cs
  | _ => False
theorem seesK_some {cs : List AV} {k : List AV → Prop} : @seesK (some (.cells cs)) ⟨k⟩ = k cs := propext Iff.rfl
theorem seesK_ro {cs : List AV} {k : List AV → Prop} : @seesK (some (.ro cs)) ⟨k⟩ = k cs := propext Iff.rfl
theorem seeK_ptr {b o sz : Nat} {k : List AV → Prop} : @SEE H (.pl (.pointer (some ⟨b, o, none⟩))) sz ⟨k⟩ = @seesK (H b) ⟨fun cs => @needK (o + sz ≤ cs.length) ⟨k ((cs.drop o).take sz)⟩⟩ := by
  unfold SEE seeK seesK needK
  rfl
theorem oneK_agg {cs : List AV} {k : AV → Prop} : @ONE true cs ⟨k⟩ = k (.ag cs) := by simp [ONE, oneK]
theorem oneK_one {x : AV} {k : AV → Prop} : @ONE false [x] ⟨k⟩ = k x := by simp [ONE, oneK]

def nilcK (a : AV) [k : Ct (AV → Prop)] : Prop := match a with
  | .pl (.pointer (some a)) => k.k (.pl (.pointer (some a)))
  | .ep cs => k.k (.ep cs)
  | _ => False
theorem nilcK_ptr {a : Addr} {k : AV → Prop} : @nilcK (.pl (.pointer (some a))) ⟨k⟩ = k (.pl (.pointer (some a))) := propext Iff.rfl
theorem nilcK_ep {cs : List AV} {k : AV → Prop} : @nilcK (.ep cs) ⟨k⟩ = k (.ep cs) := propext Iff.rfl
def fadrK (off : Nat) (a : AV) [k : Ct (AV → Prop)] : Prop := match a with
  | .pl (.pointer (some ⟨b, o, none⟩)) => k.k (.pl (.pointer (some ⟨b, o + off, none⟩)))
  | .ep cs => k.k (.ep (cs.drop off))
  | _ => False
theorem fadrK_ptr {off b o : Nat} {k : AV → Prop} : @fadrK off (.pl (.pointer (some ⟨b, o, none⟩))) ⟨k⟩ = k (.pl (.pointer (some ⟨b, o + off, none⟩))) := propext Iff.rfl
theorem fadrK_ep {off : Nat} {cs : List AV} {k : AV → Prop} : @fadrK off (.ep cs) ⟨k⟩ = k (.ep (cs.drop off)) := propext Iff.rfl
def fldK (off sz : Nat) (a : AV) [k : Ct (List AV → Prop)] : Prop := match a with
  | .ag cs => @needK (off + sz ≤ cs.length) ⟨k.k ((cs.drop off).take sz)⟩
  | _ => False
theorem fldK_ag {off sz : Nat} {cs : List AV} {k : List AV → Prop} : @fldK off sz (.ag cs) ⟨k⟩ = @needK (off + sz ≤ cs.length) ⟨k ((cs.drop off).take sz)⟩ := propext Iff.rfl
def iadAK (len sz : Nat) (x i : AV) [k : Ct (AV → Prop)] : Prop := match x, i with
  | .pl (.pointer (some ⟨b, o, none⟩)), .pl (.int _ j) => @needK (0 ≤ j ∧ j < len) ⟨k.k (.pl (.pointer (some ⟨b, o + j.toNat * sz, none⟩)))⟩
  | .ep cs, .pl (.int _ j) => @needK (0 ≤ j ∧ j < len) ⟨k.k (.ep (cs.drop (j.toNat * sz)))⟩
  | _, _ => False
theorem iadAK_ptr {len sz b o : Nat} {q : IntKind} {j : Int} {k : AV → Prop} : @iadAK len sz (.pl (.pointer (some ⟨b, o, none⟩))) (.pl (.int q j)) ⟨k⟩ = @needK (0 ≤ j ∧ j < len) ⟨k (.pl (.pointer (some ⟨b, o + j.toNat * sz, none⟩)))⟩ := propext Iff.rfl
theorem iadAK_ep {len sz : Nat} {cs : List AV} {q : IntKind} {j : Int} {k : AV → Prop} : @iadAK len sz (.ep cs) (.pl (.int q j)) ⟨k⟩ = @needK (0 ≤ j ∧ j < len) ⟨k (.ep (cs.drop (j.toNat * sz)))⟩ := propext Iff.rfl
def iadSK (sz : Nat) (x i : AV) [k : Ct (AV → Prop)] : Prop := match x, i with
  | .sl b o n _ _, .pl (.int _ j) => @needK (0 ≤ j ∧ j < n) ⟨k.k (.pl (.pointer (some ⟨b, o + j.toNat * sz, none⟩)))⟩
  | .vs n _ cs, .pl (.int _ j) => @needK (0 ≤ j ∧ j < n) ⟨k.k (.ep (cs.drop (j.toNat * sz)))⟩
  | _, _ => False
theorem iadSK_sl {sz b o n z : Nat} {f : Bool} {q : IntKind} {j : Int} {k : AV → Prop} : @iadSK sz (.sl b o n z f) (.pl (.int q j)) ⟨k⟩ = @needK (0 ≤ j ∧ j < n) ⟨k (.pl (.pointer (some ⟨b, o + j.toNat * sz, none⟩)))⟩ := propext Iff.rfl
theorem iadSK_vs {sz n : Nat} {f : Bool} {cs : List AV} {q : IntKind} {j : Int} {k : AV → Prop} : @iadSK sz (.vs n f cs) (.pl (.int q j)) ⟨k⟩ = @needK (0 ≤ j ∧ j < n) ⟨k (.ep (cs.drop (j.toNat * sz)))⟩ := propext Iff.rfl
def extK (a : AV) (i : Nat) [k : Ct (AV → Prop)] : Prop := match a with
  | .tp vs => match vs[i]? with | some v => k.k v | none => False
  | _ => False
theorem extK_0 {v : AV} {l : List AV} {k : AV → Prop} : @extK (.tp (v :: l)) 0 ⟨k⟩ = k v := propext Iff.rfl
theorem extK_1 {v v1 : AV} {l : List AV} {k : AV → Prop} : @extK (.tp (v :: v1 :: l)) 1 ⟨k⟩ = k v1 := propext Iff.rfl
theorem extK_2 {v v1 v2 : AV} {l : List AV} {k : AV → Prop} : @extK (.tp (v :: v1 :: v2 :: l)) 2 ⟨k⟩ = k v2 := propext Iff.rfl
theorem extK_3 {v v1 v2 v3 : AV} {l : List AV} {k : AV → Prop} : @extK (.tp (v :: v1 :: v2 :: v3 :: l)) 3 ⟨k⟩ = k v3 := propext Iff.rfl
def lenK (a : AV) [k : Ct (AV → Prop)] : Prop := match a with
  | .pl (.slice _ n _) => k.k (.pl (.int .i64 n))
  | .sl _ _ n _ _ => k.k (.pl (.int .i64 n))
  | .vs n _ _ => k.k (.pl (.int .i64 n))
  | _ => False
theorem lenK_pl {a : Option Addr} {n c : Nat} {k : AV → Prop} : @lenK (.pl (.slice a n c)) ⟨k⟩ = k (.pl (.int .i64 n)) := propext Iff.rfl
theorem lenK_sl {b o n z : Nat} {f : Bool} {k : AV → Prop} : @lenK (.sl b o n z f) ⟨k⟩ = k (.pl (.int .i64 n)) := propext Iff.rfl
theorem lenK_vs {n : Nat} {f : Bool} {cs : List AV} {k : AV → Prop} : @lenK (.vs n f cs) ⟨k⟩ = k (.pl (.int .i64 n)) := propext Iff.rfl
def lensK (a : AV) [k : Ct (AV → Prop)] : Prop := match a with
  | .pl (.string s) => k.k (.pl (.int .i64 s.size))
  | _ => False
theorem lensK_pl {s : ByteArray} {k : AV → Prop} : @lensK (.pl (.string s)) ⟨k⟩ = k (.pl (.int .i64 s.size)) := propext Iff.rfl
def boxK (o : Option (List AV)) (sz : Nat) [k : Ct (List AV → Prop)] : Prop := match o with
  | some cs => @needK (cs.length = sz) ⟨k.k cs⟩
  | none => False
theorem boxK_some {cs : List AV} {sz : Nat} {k : List AV → Prop} : @boxK (some cs) sz ⟨k⟩ = @needK (cs.length = sz) ⟨k cs⟩ := propext Iff.rfl
def minmax1K (mx : Bool) (l : List AV) [k : Ct (Value → Prop)] : Prop := match l with
  | .pl (.int j a) :: r => @MM mx j a r ⟨k.k⟩
  | _ => False
theorem minmax1K_int {mx : Bool} {j : IntKind} {a : Int} {r : List AV} {k : Value → Prop} : @minmax1K mx (.pl (.int j a) :: r) ⟨k⟩ = @MM mx j a r ⟨k⟩ := propext Iff.rfl
def storeK (H : AH) (sz : Nat) (a : AV) (d : Option (List AV)) [k : Ct (AH → Prop)] : Prop := match a, d with
  | .pl (.pointer (some ⟨b, o, none⟩)), some ds => match H b with
    | some (.cells cs) => ds.length = sz ∧ o + sz ≤ cs.length ∧ ds.all AV.one = true ∧ k.k (upd H b (.cells (cs.take o ++ ds ++ cs.drop (o + sz))))
    | _ => False
  | _, _ => False
theorem storeK_ptr {sz b o : Nat} {ds : List AV} {k : AH → Prop} : @storeK H sz (.pl (.pointer (some ⟨b, o, none⟩))) (some ds) ⟨k⟩ =
    @cellsK (H b) ⟨fun cs => @needK (ds.length = sz ∧ o + sz ≤ cs.length ∧ ds.all AV.one = true) ⟨k (upd H b (.cells (cs.take o ++ ds ++ cs.drop (o + sz))))⟩⟩ := by
  unfold storeK cellsK needK
  dsimp only
  split <;> simp [and_assoc]
def callvK (P : Program) (H : AH) (x : AV) (args : List AV) [k : Ct (AV → AH → Prop)] : Prop := match x with
  | .fn f first cap => @needK (goodCallee P f = true) ⟨@AC P f (first ++ args ++ cap) H ⟨k.k⟩⟩
  | .pl (.func (.func f) fv cv) => @needK (fv = #[] ∧ cv = #[] ∧ goodCallee P f = true) ⟨@AC P f args H ⟨k.k⟩⟩
  | .pl (.func (.yield l) fv cv) => @needK (fv = #[] ∧ cv = #[]) ⟨@AY P l args H ⟨k.k⟩⟩
  | _ => False
theorem callvK_yl {l : Nat} {args : List AV} : @callvK P H (.pl (.func (.yield l) #[] #[])) args ⟨k⟩ = @AY P l args H ⟨k⟩ := by
  simp [callvK, needK]
theorem callvK_fn {f : FuncId} {first cap args : List AV} : @callvK P H (.fn f first cap) args ⟨k⟩ = @needK (goodCallee P f = true) ⟨@AC P f (first ++ args ++ cap) H ⟨k⟩⟩ := propext Iff.rfl
theorem callvK_pl {f : FuncId} {fv cv : Array Value} {args : List AV} : @callvK P H (.pl (.func (.func f) fv cv)) args ⟨k⟩ = @needK (fv = #[] ∧ cv = #[] ∧ goodCallee P f = true) ⟨@AC P f args H ⟨k⟩⟩ := propext Iff.rfl

theorem newsK_nil {sz : Nat} {k : Nat → List AV → Prop} : @NEWS H (.pl (.slice none 0 0)) sz ⟨k⟩ = k 0 [] := propext Iff.rfl
theorem newsK_vs {m sz : Nat} {f : Bool} {cs : List AV} {k : Nat → List AV → Prop} : @NEWS H (.vs m f cs) sz ⟨k⟩ = @needK (m * sz ≤ cs.length) ⟨k m (cs.take (m * sz))⟩ := propext Iff.rfl
theorem newsK_sl {b o m z sz : Nat} {f : Bool} {k : Nat → List AV → Prop} : @NEWS H (.sl b o m z f) sz ⟨k⟩ = @needK (z = sz) ⟨@cellsK (H b) ⟨fun cs => @needK (o + m * sz ≤ cs.length) ⟨k m ((cs.drop o).take (m * sz))⟩⟩⟩ := by
  unfold NEWS newsK needK cellsK
  rfl
def appK (H : AH) (sz bytes : Nat) (x : AV) (m : Nat) (ns : List AV) [k : Ct (AV → AH → Prop)] : Prop := ns.all AV.one = true ∧ match x with
    | .pl (.slice none 0 0) => m * bytes ≤ 140737488355328 ∧ (m = 0 → k.k (.pl (.slice none 0 0)) H) ∧ (m ≠ 0 → ∀ b, H b = none → k.k (.sl b 0 m sz false) (upd H b (.cells ns)))
    | .sl b 0 n sz' _ => sz' = sz ∧ match H b with
      | some (.cells cs) => n * sz ≤ cs.length ∧ (n + m) * bytes ≤ 140737488355328 ∧ ∀ b', (b' = b ∨ H b' = none) → k.k (.sl b' 0 (n + m) sz false) (upd (del H b) b' (.cells (cs.take (n * sz) ++ ns)))
      | _ => False
    | .vs n true cs => n * sz ≤ cs.length ∧ (n + m) * bytes ≤ 140737488355328 ∧ (m = 0 → k.k (.vs n true cs) H) ∧ (m ≠ 0 → ∀ b, H b = none → k.k (.sl b 0 (n + m) sz false) (upd H b (.cells (cs.take (n * sz) ++ ns))))
    | _ => False
/-- Appending nothing, or something, to a new row. -/
theorem appK_nil {sz bytes m : Nat} {ns : List AV} (hm : m ≠ 0) : @appK H sz bytes (.pl (.slice none 0 0)) m ns ⟨k⟩ = @needK (ns.all AV.one = true ∧ m * bytes ≤ 140737488355328) ⟨@newK H ⟨fun b => k (.sl b 0 m sz false) (upd H b (.cells ns))⟩⟩ := by
  simp [appK, needK, newK, hm, and_assoc]
theorem appK_nil0 {sz bytes : Nat} : @appK H sz bytes (.pl (.slice none 0 0)) 0 [] ⟨k⟩ = k (.pl (.slice none 0 0)) H := by
  simp [appK]
theorem appK_sl {sz bytes b n z m : Nat} {f : Bool} {ns : List AV} : @appK H sz bytes (.sl b 0 n z f) m ns ⟨k⟩ = @cellsK (H b) ⟨fun cs => @needK (ns.all AV.one = true ∧ z = sz ∧ n * sz ≤ cs.length ∧ (n + m) * bytes ≤ 140737488355328) ⟨@ownK H b ⟨fun b' => k (.sl b' 0 (n + m) sz false) (upd (del H b) b' (.cells (cs.take (n * sz) ++ ns)))⟩⟩⟩ := by
  simp only [appK, cellsK, needK, ownK]
  cases hh : H b with
  | none => simp
  | some o => cases o <;> simp [and_assoc]
theorem appK_vs {sz bytes n m : Nat} {cs ns : List AV} (hm : m ≠ 0) : @appK H sz bytes (.vs n true cs) m ns ⟨k⟩ = @needK (ns.all AV.one = true ∧ n * sz ≤ cs.length ∧ (n + m) * bytes ≤ 140737488355328) ⟨@newK H ⟨fun b => k (.sl b 0 (n + m) sz false) (upd H b (.cells (cs.take (n * sz) ++ ns)))⟩⟩ := by
  simp [appK, needK, newK, hm, and_assoc]

def bnd1K (a : AV) [k : Ct (Int → Prop)] : Prop := match a with
  | .pl (.int _ j) => k.k j
  | _ => False
theorem bnd1K_int {q : IntKind} {j : Int} {k : Int → Prop} : @bnd1K (.pl (.int q j)) ⟨k⟩ = k j := propext Iff.rfl
theorem bndK_none {d : Int} {k : Int → Prop} : @BND ρ none d ⟨k⟩ = k d := propext Iff.rfl
theorem bndK_some {x : Operand} {d : Int} {k : Int → Prop} : @BND ρ (some x) d ⟨k⟩ = @bnd1K (ρ x) ⟨k⟩ := propext Iff.rfl
def slsK (ρ : Operand → AV) (H : AH) (sz : Nat) (x : AV) (lo hi mx : Option Operand) [k : Ct (AV → AH → Prop)] : Prop := match x with
    | .vs n xf cs => bndK ρ hi n fun h => bndK ρ mx h fun m => bndK ρ lo 0 fun l => 0 ≤ l ∧ l ≤ h ∧ h ≤ n ∧ m = h ∧
        k.k (.vs (h - l).toNat (mx.isSome || (xf && decide (h = n))) ((cs.drop (l.toNat * sz)).take ((h - l).toNat * sz))) H
    | .sl b o n sz' xf => sz' = sz ∧ bndK ρ hi n fun h => bndK ρ mx h fun m => bndK ρ lo 0 fun l => 0 ≤ l ∧ l ≤ h ∧ h ≤ n ∧ m = h ∧
        (l = 0 → k.k (.sl b o h.toNat sz (mx.isSome || (xf && decide (h = n)))) H) ∧
        (l ≠ 0 → l < h → k.k (.sl b (o + l.toNat * sz) (h - l).toNat sz (mx.isSome || (xf && decide (h = n)))) H) ∧ (l ≠ 0 → l = h → k.k (.vs 0 mx.isSome []) H)
    | .pl (.slice none 0 0) => bndK ρ hi 0 fun h => bndK ρ mx h fun m => bndK ρ lo 0 fun l => l = 0 ∧ h = 0 ∧ m = 0 ∧ k.k (.pl (.slice none 0 0)) H
    | _ => False
theorem slsK_vs {sz n : Nat} {xf : Bool} {cs : List AV} {lo hi mx : Option Operand} : @slsK ρ H sz (.vs n xf cs) lo hi mx ⟨k⟩ =
    @BND ρ hi n ⟨fun h => @BND ρ mx h ⟨fun m => @BND ρ lo 0 ⟨fun l => @needK (0 ≤ l ∧ l ≤ h ∧ h ≤ n ∧ m = h) ⟨k (.vs (h - l).toNat (mx.isSome || (xf && decide (h = n))) ((cs.drop (l.toNat * sz)).take ((h - l).toNat * sz))) H⟩⟩⟩⟩ := by
  simp only [slsK, needK, and_assoc, BND]
theorem slsK_nil {sz : Nat} {lo hi mx : Option Operand} : @slsK ρ H sz (.pl (.slice none 0 0)) lo hi mx ⟨k⟩ =
    @BND ρ hi 0 ⟨fun h => @BND ρ mx h ⟨fun m => @BND ρ lo 0 ⟨fun l => @needK (l = 0 ∧ h = 0 ∧ m = 0) ⟨k (.pl (.slice none 0 0)) H⟩⟩⟩⟩ := by
  simp only [slsK, needK, and_assoc, BND]
theorem slsK_sl0 {sz b o n z : Nat} {xf : Bool} {hi mx : Option Operand} : @slsK ρ H sz (.sl b o n z xf) none hi mx ⟨k⟩ =
    @needK (z = sz) ⟨@BND ρ hi n ⟨fun h => @BND ρ mx h ⟨fun m => @needK (0 ≤ h ∧ h ≤ n ∧ m = h) ⟨k (.sl b o h.toNat sz (mx.isSome || (xf && decide (h = n)))) H⟩⟩⟩⟩ := by
  simp only [slsK, needK, and_assoc, bndK, BND]
  congr 2 <;> simp
theorem slsK_sl {sz b o n z : Nat} {xf : Bool} {lo : Operand} {hi mx : Option Operand} : @slsK ρ H sz (.sl b o n z xf) (some lo) hi mx ⟨k⟩ =
    @needK (z = sz) ⟨@BND ρ hi n ⟨fun h => @BND ρ mx h ⟨fun m => @BND ρ (some lo) 0 ⟨fun l => @needK (0 ≤ l ∧ l ≤ h ∧ h ≤ n ∧ m = h) ⟨@condK (decide (l = 0)) ⟨k (.sl b o h.toNat sz (mx.isSome || (xf && decide (h = n)))) H⟩ ⟨@condK (decide (l < h)) ⟨k (.sl b (o + l.toNat * sz) (h - l).toNat sz (mx.isSome || (xf && decide (h = n)))) H⟩ ⟨@needK (l = h) ⟨k (.vs 0 mx.isSome []) H⟩⟩⟩⟩⟩⟩⟩⟩ := by
  have e : ∀ (A B C : Prop) (l h : Int), l ≤ h → (((l = 0 → A) ∧ (l ≠ 0 → l < h → B) ∧ (l ≠ 0 → l = h → C)) = @condK (decide (l = 0)) ⟨A⟩ ⟨@condK (decide (l < h)) ⟨B⟩ ⟨@needK (l = h) ⟨C⟩⟩⟩) := by
    intro A B C l h hl
    by_cases h1 : l = 0 <;> by_cases h2 : l < h <;> by_cases h3 : l = h <;> simp [condK, needK, h1, h2, h3] <;> first | omega | simp_all
  have e2 : ∀ (A B C : Prop) (l h : Int) (X : Prop), ((0 ≤ l ∧ l ≤ h ∧ X ∧ (l = 0 → A) ∧ (l ≠ 0 → l < h → B) ∧ (l ≠ 0 → l = h → C)) = @needK (0 ≤ l ∧ l ≤ h ∧ X) ⟨@condK (decide (l = 0)) ⟨A⟩ ⟨@condK (decide (l < h)) ⟨B⟩ ⟨@needK (l = h) ⟨C⟩⟩⟩⟩) := by
    intro A B C l h X
    by_cases hl : l ≤ h
    · rw [← e A B C l h hl]; simp [needK, and_assoc]
    · simp [needK, hl]
  simp only [slsK, BND, ← and_assoc]
  simp only [and_assoc]
  have e3 : ∀ (A B C : Prop) (l h n m : Int), ((0 ≤ l ∧ l ≤ h ∧ h ≤ n ∧ m = h ∧ (l = 0 → A) ∧ (l ≠ 0 → l < h → B) ∧ (l ≠ 0 → l = h → C)) = @needK (0 ≤ l ∧ l ≤ h ∧ h ≤ n ∧ m = h) ⟨@condK (decide (l = 0)) ⟨A⟩ ⟨@condK (decide (l < h)) ⟨B⟩ ⟨@needK (l = h) ⟨C⟩⟩⟩⟩) := by
    intro A B C l h n m
    have := e2 A B C l h (h ≤ n ∧ m = h)
    simp only [and_assoc] at this
    exact this
  simp only [e3]
  rfl
def slstrK (ρ : Operand → AV) (x : AV) (lo hi : Option Operand) [k : Ct (AV → Prop)] : Prop := match x with
    | .pl (.string s) => bndK ρ hi s.size fun h => bndK ρ lo 0 fun l => 0 ≤ l ∧ l ≤ h ∧ h ≤ s.size ∧ k.k (.pl (.string (s.extract l.toNat h.toNat)))
    | _ => False
theorem slstrK_pl {s : ByteArray} {lo hi : Option Operand} {k : AV → Prop} : @slstrK ρ (.pl (.string s)) lo hi ⟨k⟩ =
    @BND ρ hi s.size ⟨fun h => @BND ρ lo 0 ⟨fun l => @needK (0 ≤ l ∧ l ≤ h ∧ h ≤ s.size) ⟨k (.pl (.string (s.extract l.toNat h.toNat)))⟩⟩⟩ := by
  simp only [slstrK, needK, and_assoc, BND]
def boolK (o : Option Bool) [k : Ct (Bool → Prop)] : Prop := match o with
  | some r => k.k r
  | none => False
theorem boolK_some {r : Bool} {k : Bool → Prop} : @boolK (some r) ⟨k⟩ = k r := propext Iff.rfl
def eqsK (ks : List Nat) (a b : AV) [k : Ct (Bool → Prop)] : Prop := match a, b with
  | .ag xs, .ag ys => @boolK (eqL ks xs ys) ⟨k.k⟩
  | _, _ => False
theorem eqsK_ag {ks : List Nat} {xs ys : List AV} {k : Bool → Prop} : @eqsK ks (.ag xs) (.ag ys) ⟨k⟩ = @boolK (eqL ks xs ys) ⟨k⟩ := propext Iff.rfl
theorem iop_eqs {neq : Bool} {ks : List Nat} {x y : Operand} : @OP P ρ H ⟨k⟩ (.eqs neq ks x y) = @eqsK ks (ρ x) (ρ y) ⟨fun r => k (.pl (.bool (if neq then !r else r))) H⟩ := by
  unfold OP iop eqsK boolK
  rfl
theorem iop_sls {sz : Nat} {x : Operand} {lo hi mx : Option Operand} : @OP P ρ H ⟨k⟩ (.sls sz x lo hi mx) = @slsK ρ H sz (ρ x) lo hi mx ⟨k⟩ := propext Iff.rfl
theorem iop_slstr {x : Operand} {lo hi : Option Operand} : @OP P ρ H ⟨k⟩ (.slstr x lo hi) = @slstrK ρ (ρ x) lo hi ⟨fun v => k v H⟩ := propext Iff.rfl
/-! Maps. -/
def MAP (H : AH) (x : AV) [k : Ct (Nat → List (Value × AV) → List Nat → Nat → Prop)] : Prop := mapK H x k.k
def mapsK (b : Nat) (o : Option AO) [k : Ct (Nat → List (Value × AV) → List Nat → Nat → Prop)] : Prop := match o with
  | some (.map es st cl) => k.k b es st cl
  | _ => False
theorem mapsK_some {b : Nat} {es : List (Value × AV)} {st : List Nat} {cl : Nat} {k : Nat → List (Value × AV) → List Nat → Nat → Prop} : @mapsK b (some (.map es st cl)) ⟨k⟩ = k b es st cl := propext Iff.rfl
theorem MAP_some {b : Nat} {k : Nat → List (Value × AV) → List Nat → Nat → Prop} : @MAP H (.pl (.map (some b))) ⟨k⟩ = @mapsK b (H b) ⟨k⟩ := by
  unfold MAP mapK mapsK
  rfl
/-- Where a key was looked for. -/
def findK (o : Option (Option (Nat × AV))) [f : Ct (Nat → AV → Prop)] [n : Ct (Prop)] : Prop := match o with
  | some (some (j, v)) => f.k j v
  | some none => n.k
  | none => False
theorem findK_some {j : Nat} {v : AV} {f : Nat → AV → Prop} {n : Prop} : @findK (some (some (j, v))) ⟨f⟩ ⟨n⟩ = f j v := propext Iff.rfl
theorem findK_none {f : Nat → AV → Prop} {n : Prop} : @findK (some none) ⟨f⟩ ⟨n⟩ = n := propext Iff.rfl
def plK (x : AV) [k : Ct (Value → Prop)] : Prop := match x with
  | .pl v => k.k v
  | _ => False
theorem plK_pl {v : Value} {k : Value → Prop} : @plK (.pl v) ⟨k⟩ = k v := propext Iff.rfl
def nmapK (x : AV) [n : Ct (Prop)] [k : Ct (AV → Prop)] : Prop := match x with
  | .pl (.map none) => n.k
  | x => k.k x
theorem nmapK_none {n : Prop} {k : AV → Prop} : @nmapK (.pl (.map none)) ⟨n⟩ ⟨k⟩ = n := propext Iff.rfl
theorem nmapK_some {b : Nat} {n : Prop} {k : AV → Prop} : @nmapK (.pl (.map (some b))) ⟨n⟩ ⟨k⟩ = k (.pl (.map (some b))) := propext Iff.rfl
theorem iop_mlook {ok : Bool} {kk : Nat} {z : AV} {x i : Operand} : @OP P ρ H ⟨k⟩ (.mlook ok kk z x i) = @plK (ρ i) ⟨fun kv => @nmapK (ρ x) ⟨k (if ok then .tp [z, .pl (.bool false)] else z) H⟩ ⟨fun x => @MAP H x ⟨fun _ es _ _ =>
    @findK (mfind kk kv es 0) ⟨fun _ v => k (if ok then .tp [v, .pl (.bool true)] else v) H⟩ ⟨k (if ok then .tp [z, .pl (.bool false)] else z) H⟩⟩⟩⟩ := by
  unfold OP iop plK nmapK MAP findK
  dsimp only
  generalize ρ i = vi
  generalize ρ x = vx
  cases vi with
  | pl kv => rfl
  | _ => rfl
theorem iop_mlen {x : Operand} : @OP P ρ H ⟨k⟩ (.mlen x) = @nmapK (ρ x) ⟨k (.pl (.int .i64 0)) H⟩ ⟨fun x => @MAP H x ⟨fun _ es _ _ => k (.pl (.int .i64 es.length)) H⟩⟩ := by
  unfold OP iop nmapK MAP
  rfl
theorem iop_mmk : @OP P ρ H ⟨k⟩ .mmk = @newK H ⟨fun b => k (.pl (.map (some b))) (upd H b (.map [] [] 0))⟩ := propext Iff.rfl
theorem iop_mupd {kk : Nat} {x i v : Operand} : @OP P ρ H ⟨k⟩ (.mupd kk x i v) = @plK (ρ i) ⟨fun kv => @MAP H (ρ x) ⟨fun b es st cl =>
    @findK (mfind kk kv es 0) ⟨fun j _ => k undefA (upd H b (.map (es.set j (kv, ρ v)) st cl))⟩ ⟨k undefA (upd H b (.map (es ++ [(kv, ρ v)]) (st ++ [cl]) (cl + 1)))⟩⟩⟩ := by
  unfold OP iop plK MAP findK
  rfl
theorem iop_mdel {kk : Nat} {x i : Operand} : @OP P ρ H ⟨k⟩ (.mdel kk x i) = @plK (ρ i) ⟨fun kv => @MAP H (ρ x) ⟨fun b es st cl =>
    @findK (mfind kk kv es 0) ⟨fun j _ => k (.tp []) (upd H b (.map (es.eraseIdx j) (st.eraseIdx j) cl))⟩ ⟨k (.tp []) H⟩⟩⟩ := by
  unfold OP iop plK MAP findK
  rfl
theorem iop_mrng {x : Operand} : @OP P ρ H ⟨k⟩ (.mrng x) = @nmapK (ρ x) ⟨@newK H ⟨fun b => k (ptrA b) (upd H b .itn)⟩⟩ ⟨fun x => @MAP H x ⟨fun m _ _ cl => @newK H ⟨fun b => k (ptrA b) (upd H b (.it m cl cl []))⟩⟩⟩ := by
  unfold OP iop nmapK MAP newK
  rfl
/-- A step of an iterator: what is owed. -/
def nextK (es : List (Value × AV)) (st : List Nat) (since last : Nat) (seen : List Nat) [e : Ct (Prop)] [k : Ct (Nat → Value × AV → Nat → Prop)] : Prop :=
  (∀ s ∈ st, s < since) ∧ since ≤ last ∧ ((∀ s ∈ st, s ∈ seen) → e.k) ∧ (∀ (j : Nat) (e : Value × AV) (s : Nat), es[j]? = some e → st[j]? = some s → s ∉ seen → k.k j e s)
theorem nextK_of {es : List (Value × AV)} {st : List Nat} {since last : Nat} {seen : List Nat} {e : Prop} {k : Nat → Value × AV → Nat → Prop} (h1 : ∀ s ∈ st, s < since) (h2 : since ≤ last) (h3 : (∀ s ∈ st, s ∈ seen) → e)
    (h4 : ∀ (j : Nat) (e : Value × AV) (s : Nat), es[j]? = some e → st[j]? = some s → s ∉ seen → k j e s) : @nextK es st since last seen ⟨e⟩ ⟨k⟩ := ⟨h1, h2, h3, h4⟩
def itK (b : Nat) (o : Option AO) [n : Ct (Prop)] [k : Ct (Nat → Nat → Nat → List Nat → Prop)] : Prop := match o with
  | some .itn => n.k
  | some (.it m since last seen) => k.k m since last seen
  | _ => False
theorem itK_none {b : Nat} {n : Prop} {k : Nat → Nat → Nat → List Nat → Prop} : @itK b (some .itn) ⟨n⟩ ⟨k⟩ = n := propext Iff.rfl
theorem itK_some {b m since last : Nat} {seen : List Nat} {n : Prop} {k : Nat → Nat → Nat → List Nat → Prop} : @itK b (some (.it m since last seen)) ⟨n⟩ ⟨k⟩ = k m since last seen := propext Iff.rfl
def ptr0K (x : AV) [k : Ct (Nat → Prop)] : Prop := match x with
  | .pl (.pointer (some ⟨b, 0, none⟩)) => k.k b
  | _ => False
theorem ptr0K_ptr {b : Nat} {k : Nat → Prop} : @ptr0K (.pl (.pointer (some ⟨b, 0, none⟩))) ⟨k⟩ = k b := propext Iff.rfl
theorem iop_mnxt {x : Operand} : @OP P ρ H ⟨k⟩ (.mnxt x) = @ptr0K (ρ x) ⟨fun b => @itK b (H b) ⟨k (.tp [.pl (.bool false)]) H⟩ ⟨fun m since last seen => @MAP H (.pl (.map (some m))) ⟨fun _ es st cl =>
    @nextK es st since last seen ⟨k (.tp [.pl (.bool false)]) H⟩ ⟨fun _ e s => k (.tp [.pl (.bool true), .pl e.1, e.2]) (upd H b (.it m since cl (s :: seen)))⟩⟩⟩⟩ := by
  unfold OP iop ptr0K itK MAP nextK
  rfl
/-- The entry that was shown last. -/
def entK (o : Option (Value × AV)) [k : Ct (Value × AV → Prop)] : Prop := match o with
  | some e => k.k e
  | none => False
theorem entK_some {e : Value × AV} {k : Value × AV → Prop} : @entK (some e) ⟨k⟩ = k e := propext Iff.rfl
def it1K (o : Option AO) [k : Ct (Nat → Nat → Nat → Prop)] : Prop := match o with
  | some (.it m _ last (s :: _)) => k.k m last s
  | _ => False
theorem it1K_some {m since last s : Nat} {seen : List Nat} {k : Nat → Nat → Nat → Prop} : @it1K (some (.it m since last (s :: seen))) ⟨k⟩ = k m last s := propext Iff.rfl
theorem iop_ment {x : Operand} : @OP P ρ H ⟨k⟩ (.ment x) = @ptr0K (ρ x) ⟨fun b => @it1K (H b) ⟨fun m last s => @MAP H (.pl (.map (some m))) ⟨fun _ es st cl => @needK (cl = last) ⟨@entK (entF es st s) ⟨fun e => k (.tp [.pl e.1, e.2]) H⟩⟩⟩⟩⟩ := by
  unfold OP iop ptr0K it1K MAP entK needK
  rfl
theorem iop_mov {x : Operand} : @OP P ρ H ⟨k⟩ (.mov x) = k (ρ x) H := propext Iff.rfl
theorem iop_pick {c a b : Operand} : @OP P ρ H ⟨k⟩ (.pick c a b) = @pickK (ρ c) (ρ a) (ρ b) ⟨fun v => k v H⟩ := propext Iff.rfl
theorem iop_bin {op : BinOp} {x y : Operand} : @OP P ρ H ⟨k⟩ (.bin op x y) = @bin2K op (ρ x) (ρ y) ⟨fun r => k (.pl r) H⟩ := propext Iff.rfl
theorem iop_eqb {n : Bool} {x y : Operand} : @OP P ρ H ⟨k⟩ (.eqb n x y) = @eqbK n (ρ x) (ρ y) ⟨fun r => k r H⟩ := propext Iff.rfl
theorem iop_eqp {n : Bool} {x y : Operand} : @OP P ρ H ⟨k⟩ (.eqp n x y) = @eqpK n (ρ x) (ρ y) ⟨fun r => k r H⟩ := propext Iff.rfl
theorem iop_eqm {n : Bool} {x y : Operand} : @OP P ρ H ⟨k⟩ (.eqm n x y) = @eqmK n (ρ x) (ρ y) ⟨fun r => k r H⟩ := propext Iff.rfl
theorem iop_eqz {n : Bool} {x y : Operand} : @OP P ρ H ⟨k⟩ (.eqz n x y) = @eqzK n (ρ x) (ρ y) ⟨fun r => k r H⟩ := propext Iff.rfl
def capK (a : AV) [k : Ct (AV → Prop)] : Prop := match a with
  | .pl (.slice _ _ c) => k.k (.pl (.int .i64 c))
  | .sl _ _ n _ true => k.k (.pl (.int .i64 n))
  | .vs n true _ => k.k (.pl (.int .i64 n))
  | _ => False
theorem capK_pl {a : Option Addr} {n c : Nat} {k : AV → Prop} : @capK (.pl (.slice a n c)) ⟨k⟩ = k (.pl (.int .i64 c)) := propext Iff.rfl
theorem capK_sl {b o n z : Nat} {k : AV → Prop} : @capK (.sl b o n z true) ⟨k⟩ = k (.pl (.int .i64 n)) := propext Iff.rfl
theorem capK_vs {n : Nat} {cs : List AV} {k : AV → Prop} : @capK (.vs n true cs) ⟨k⟩ = k (.pl (.int .i64 n)) := propext Iff.rfl
theorem iop_cap {x : Operand} : @OP P ρ H ⟨k⟩ (.cap x) = @capK (ρ x) ⟨fun v => k v H⟩ := propext Iff.rfl
def apzK (H : AH) (sz bytes : Nat) (zero : List AV) (x n : AV) [k : Ct (AV → AH → Prop)] : Prop := match x, n with
  | .pl (.slice none 0 0), .pl (.int _ m) => 0 ≤ m ∧ m.toNat * bytes ≤ 140737488355328 ∧ (m = 0 → k.k (.pl (.slice none 0 0)) H) ∧ (m ≠ 0 → ∀ b, H b = none → k.k (.sl b 0 m.toNat sz false) (upd H b (.cells (List.replicate m.toNat zero).flatten)))
  | _, _ => False
theorem apzK_nil {sz bytes : Nat} {zero : List AV} {q : IntKind} {m : Int} : @apzK H sz bytes zero (.pl (.slice none 0 0)) (.pl (.int q m)) ⟨k⟩ =
    @needK (0 ≤ m ∧ m.toNat * bytes ≤ 140737488355328) ⟨@condK (decide (m = 0)) ⟨k (.pl (.slice none 0 0)) H⟩ ⟨@newK H ⟨fun b => k (.sl b 0 m.toNat sz false) (upd H b (.cells (List.replicate m.toNat zero).flatten))⟩⟩⟩ := by
  simp [apzK, needK, condK, newK, and_assoc]
theorem iop_apz {sz bytes : Nat} {zero : List AV} {x n : Operand} : @OP P ρ H ⟨k⟩ (.apz sz bytes zero x n) = @apzK H sz bytes zero (ρ x) (ρ n) ⟨k⟩ := propext Iff.rfl
def mksK (H : AH) (sz bytes : Nat) (zero : List AV) (n m : AV) [k : Ct (AV → AH → Prop)] : Prop := match n, m with
  | .pl (.int _ u), .pl (.int _ v) => @needK (u = v ∧ 0 ≤ u ∧ u.toNat * bytes ≤ 140737488355328) ⟨@newK H ⟨fun b => k.k (.sl b 0 u.toNat sz true) (upd H b (.cells (List.replicate u.toNat zero).flatten))⟩⟩
  | _, _ => False
theorem mksK_int {sz bytes : Nat} {zero : List AV} {q q' : IntKind} {u v : Int} : @mksK H sz bytes zero (.pl (.int q u)) (.pl (.int q' v)) ⟨k⟩ =
    @needK (u = v ∧ 0 ≤ u ∧ u.toNat * bytes ≤ 140737488355328) ⟨@newK H ⟨fun b => k (.sl b 0 u.toNat sz true) (upd H b (.cells (List.replicate u.toNat zero).flatten))⟩⟩ := propext Iff.rfl
theorem iop_mks {sz bytes : Nat} {zero : List AV} {n m : Operand} : @OP P ρ H ⟨k⟩ (.mks sz bytes zero n m) = @mksK H sz bytes zero (ρ n) (ρ m) ⟨k⟩ := by
  simp only [OP, iop, mksK, needK, newK, and_assoc]
  rfl
def clrK (H : AH) (sz : Nat) (zero : List AV) (x : AV) [k : Ct (AV → AH → Prop)] : Prop := zero.all AV.one = true ∧ match x with
  | .sl b o n sz' _ => sz' = sz ∧ match H b with
    | some (.cells cs) => o + n * sz ≤ cs.length ∧ k.k (.tp []) (upd H b (.cells (cs.take o ++ (List.replicate n zero).flatten ++ cs.drop (o + n * sz))))
    | _ => False
  | .vs 0 _ _ => k.k (.tp []) H
  | .pl (.slice none _ _) => k.k (.tp []) H
  | _ => False
theorem clrK_sl {sz b o n z : Nat} {f : Bool} {zero : List AV} : @clrK H sz zero (.sl b o n z f) ⟨k⟩ = @needK (zero.all AV.one = true ∧ z = sz) ⟨@cellsK (H b) ⟨fun cs => @needK (o + n * sz ≤ cs.length) ⟨k (.tp []) (upd H b (.cells (cs.take o ++ (List.replicate n zero).flatten ++ cs.drop (o + n * sz))))⟩⟩⟩ := by
  unfold clrK needK cellsK
  simp only [and_assoc]
theorem clrK_vs {sz : Nat} {f : Bool} {zero cs : List AV} : @clrK H sz zero (.vs 0 f cs) ⟨k⟩ = @needK (zero.all AV.one = true) ⟨k (.tp []) H⟩ := propext Iff.rfl
theorem clrK_nil {sz n c : Nat} {zero : List AV} : @clrK H sz zero (.pl (.slice none n c)) ⟨k⟩ = @needK (zero.all AV.one = true) ⟨k (.tp []) H⟩ := propext Iff.rfl
theorem iop_clr {sz : Nat} {zero : List AV} {x : Operand} : @OP P ρ H ⟨k⟩ (.clr sz zero x) = @clrK H sz zero (ρ x) ⟨k⟩ := propext Iff.rfl
theorem iop_un {op : UnOp} {x : Operand} : @OP P ρ H ⟨k⟩ (.un op x) = @un1K op (ρ x) ⟨fun r => k (.pl r) H⟩ := propext Iff.rfl
theorem iop_conv {j : IntKind} {x : Operand} : @OP P ρ H ⟨k⟩ (.conv j x) = @convK j (ρ x) ⟨fun r => k r H⟩ := propext Iff.rfl
theorem iop_build {z : List AV} {ps : List ((Nat × Nat) × Operand)} : @OP P ρ H ⟨k⟩ (.build z ps) = @fillK (fillA z (partsA ρ ps)) ⟨fun cs => k (.ag cs) H⟩ := by
  rw [← partsA_eq]; rfl
theorem iop_load {agg : Bool} {sz : Nat} {a : Operand} : @OP P ρ H ⟨k⟩ (.load agg sz a) = @SEE H (ρ a) sz ⟨fun cs => @ONE agg cs ⟨fun v => k v H⟩⟩ := propext Iff.rfl
theorem iop_nilc {x : Operand} : @OP P ρ H ⟨k⟩ (.nilc x) = @nilcK (ρ x) ⟨fun r => k r H⟩ := propext Iff.rfl
theorem iop_fadr {off : Nat} {x : Operand} : @OP P ρ H ⟨k⟩ (.fadr off x) = @fadrK off (ρ x) ⟨fun r => k r H⟩ := propext Iff.rfl
theorem iop_fld {agg : Bool} {off sz : Nat} {x : Operand} : @OP P ρ H ⟨k⟩ (.fld agg off sz x) = @fldK off sz (ρ x) ⟨fun cs => @ONE agg cs ⟨fun v => k v H⟩⟩ := propext Iff.rfl
theorem iop_iadA {len sz : Nat} {x i : Operand} : @OP P ρ H ⟨k⟩ (.iadA len sz x i) = @iadAK len sz (ρ x) (ρ i) ⟨fun v => k v H⟩ := by
  simp only [iop, OP, iadAK, needK, and_assoc]
  rfl
theorem iop_iadS {sz : Nat} {x i : Operand} : @OP P ρ H ⟨k⟩ (.iadS sz x i) = @iadSK sz (ρ x) (ρ i) ⟨fun v => k v H⟩ := by
  simp only [iop, OP, iadSK, needK, and_assoc]
  rfl
theorem iop_ext {x : Operand} {i : Nat} : @OP P ρ H ⟨k⟩ (.ext x i) = @extK (ρ x) i ⟨fun v => k v H⟩ := propext Iff.rfl
theorem iop_mkf {f : FuncId} {first cap : List Operand} : @OP P ρ H ⟨k⟩ (.mkf f first cap) = k (.fn f (argsA ρ first) (argsA ρ cap)) H := by
  rw [← argsA_eq, ← argsA_eq]; rfl
theorem iop_len {x : Operand} : @OP P ρ H ⟨k⟩ (.len false x) = @lenK (ρ x) ⟨fun v => k v H⟩ := propext Iff.rfl
theorem iop_lens {x : Operand} : @OP P ρ H ⟨k⟩ (.len true x) = @lensK (ρ x) ⟨fun v => k v H⟩ := propext Iff.rfl
theorem iop_minmax {mx : Bool} {xs : List Operand} : @OP P ρ H ⟨k⟩ (.minmax mx xs) = @minmax1K mx (argsA ρ xs) ⟨fun v => k (.pl v) H⟩ := by
  rw [← argsA_eq]; rfl
theorem iop_al {z : List AV} : @OP P ρ H ⟨k⟩ (.al z) = @newK H ⟨fun b => k (ptrA b) (upd H b (.cells z))⟩ := propext Iff.rfl
theorem iop_box {sz : Nat} {x : Operand} : @OP P ρ H ⟨k⟩ (.box sz x) = @boxK (ρ x).cells sz ⟨fun cs => @newK H ⟨fun b => k (ptrA b) (upd H b (.cells cs))⟩⟩ := by
  unfold OP iop boxK newK needK
  rfl
theorem iop_bsl {sz n : Nat} {z : List AV} {ps : List ((Nat × Nat) × Operand)} : @OP P ρ H ⟨k⟩ (.bsl sz n z ps) = @fillK (fillA z (partsA ρ ps)) ⟨fun cs => @newK H ⟨fun b => k (.sl b 0 n sz true) (upd H b (.cells cs))⟩⟩ := by
  rw [← partsA_eq]; rfl
theorem iop_store {sz : Nat} {a x : Operand} : @OP P ρ H ⟨k⟩ (.store sz a x) = @storeK H sz (ρ a) (ρ x).cells ⟨fun H' => k undefA H'⟩ := propext Iff.rfl
theorem iop_call {f : FuncId} {args : List Operand} : @OP P ρ H ⟨k⟩ (.call f args) = @AC P f (argsA ρ args) H ⟨k⟩ := by
  rw [← argsA_eq]; rfl
theorem iop_callv {x : Operand} {args : List Operand} : @OP P ρ H ⟨k⟩ (.callv x args) = @callvK P H (ρ x) (argsA ρ args) ⟨k⟩ := by
  rw [← argsA_eq]
  simp only [iop, OP, callvK, needK, and_assoc]
  rfl
theorem iop_app {sz bytes : Nat} {x y : Operand} : @OP P ρ H ⟨k⟩ (.app sz bytes x y) = @NEWS H (ρ y) sz ⟨fun m ns => @appK H sz bytes (ρ x) m ns ⟨k⟩⟩ := propext Iff.rfl
end
/-! ### Numbers, strings -/
section
variable {k : Value → Prop} {j j' : IntKind} {a b : Int} {x y : ByteArray}
theorem BIN_add : @BIN .add (.int j a) (.int j b) ⟨k⟩ = k (.int j (j.wrap (a + b))) := by simp [BIN, binK]
theorem BIN_sub : @BIN .sub (.int j a) (.int j b) ⟨k⟩ = k (.int j (j.wrap (a - b))) := by simp [BIN, binK]
theorem BIN_mul : @BIN .mul (.int j a) (.int j b) ⟨k⟩ = k (.int j (j.wrap (a * b))) := by simp [BIN, binK]
theorem BIN_and : @BIN .and (.int j a) (.int j b) ⟨k⟩ = k (.int j (j.wrap (BitVec.ofInt j.bits a &&& BitVec.ofInt j.bits b).toNat)) := by simp [BIN, binK]
theorem BIN_or : @BIN .or (.int j a) (.int j b) ⟨k⟩ = k (.int j (j.wrap (BitVec.ofInt j.bits a ||| BitVec.ofInt j.bits b).toNat)) := by simp [BIN, binK]
theorem BIN_xor : @BIN .xor (.int j a) (.int j b) ⟨k⟩ = k (.int j (j.wrap (BitVec.ofInt j.bits a ^^^ BitVec.ofInt j.bits b).toNat)) := by simp [BIN, binK]
theorem BIN_andNot : @BIN .andNot (.int j a) (.int j b) ⟨k⟩ = k (.int j (j.wrap (BitVec.ofInt j.bits a &&& ~~~BitVec.ofInt j.bits b).toNat)) := by simp [BIN, binK]
theorem BIN_eql : @BIN .eql (.int j a) (.int j b) ⟨k⟩ = k (.bool (decide (a = b))) := by simp [BIN, binK]; rfl
theorem BIN_neq : @BIN .neq (.int j a) (.int j b) ⟨k⟩ = k (.bool (!decide (a = b))) := by simp [BIN, binK]; rfl
theorem BIN_lss : @BIN .lss (.int j a) (.int j b) ⟨k⟩ = k (.bool (decide (a < b))) := by simp [BIN, binK]
theorem BIN_leq : @BIN .leq (.int j a) (.int j b) ⟨k⟩ = k (.bool (decide (a ≤ b))) := by simp [BIN, binK]
theorem BIN_gtr : @BIN .gtr (.int j a) (.int j b) ⟨k⟩ = k (.bool (decide (a > b))) := by simp [BIN, binK]
theorem BIN_geq : @BIN .geq (.int j a) (.int j b) ⟨k⟩ = k (.bool (decide (a ≥ b))) := by simp [BIN, binK]
theorem BIN_quo : @BIN .quo (.int j a) (.int j b) ⟨k⟩ = @needK (b ≠ 0) ⟨k (.int j (j.wrap (a.tdiv b)))⟩ := by simp [BIN, binK, needK]
theorem BIN_rem : @BIN .rem (.int j a) (.int j b) ⟨k⟩ = @needK (b ≠ 0) ⟨k (.int j (a.tmod b))⟩ := by simp [BIN, binK, needK]
theorem BIN_shl : @BIN .shl (.int j a) (.int j' b) ⟨k⟩ = @needK (0 ≤ b) ⟨k (.int j (j.wrap (a * 2 ^ min b.toNat j.bits)))⟩ := propext Iff.rfl
theorem BIN_shr : @BIN .shr (.int j a) (.int j' b) ⟨k⟩ = @needK (0 ≤ b) ⟨k (.int j (a.fdiv (2 ^ min b.toNat j.bits)))⟩ := propext Iff.rfl
theorem BIN_sadd : @BIN .add (.string x) (.string y) ⟨k⟩ = @needK (x.size + y.size ≤ 9223372036854775807) ⟨k (.string (x ++ y))⟩ := propext Iff.rfl
theorem BIN_seql : @BIN .eql (.string x) (.string y) ⟨k⟩ = k (.bool (x.toList == y.toList)) := propext Iff.rfl
theorem BIN_sneq : @BIN .neq (.string x) (.string y) ⟨k⟩ = k (.bool !(x.toList == y.toList)) := propext Iff.rfl
theorem BIN_slss : @BIN .lss (.string x) (.string y) ⟨k⟩ = k (.bool (Op.bytesLess x.toList y.toList)) := propext Iff.rfl
theorem BIN_sleq : @BIN .leq (.string x) (.string y) ⟨k⟩ = k (.bool (Op.bytesLess x.toList y.toList || x.toList == y.toList)) := propext Iff.rfl
theorem BIN_sgtr : @BIN .gtr (.string x) (.string y) ⟨k⟩ = k (.bool !(Op.bytesLess x.toList y.toList || x.toList == y.toList)) := propext Iff.rfl
theorem BIN_sgeq : @BIN .geq (.string x) (.string y) ⟨k⟩ = k (.bool !(Op.bytesLess x.toList y.toList)) := propext Iff.rfl
theorem UN_neg : @UN .neg (.int j a) ⟨k⟩ = k (.int j (j.wrap (0 - a))) := propext Iff.rfl
theorem UN_xor : @UN .xor (.int j a) ⟨k⟩ = k (.int j (j.wrap (BitVec.ofInt j.bits (if j.signed then -1 else j.max) ^^^ BitVec.ofInt j.bits a).toNat)) := propext Iff.rfl
theorem UN_not {u : Bool} : @UN .not (.bool u) ⟨k⟩ = k (.bool !u) := propext Iff.rfl
theorem MM_nil {mx : Bool} : @MM mx j a [] ⟨k⟩ = k (.int j a) := propext Iff.rfl
theorem MM_cons {mx : Bool} {r : List AV} : @MM mx j a (.pl (.int j b) :: r) ⟨k⟩ = @MM mx j (min2I mx a b) r ⟨k⟩ := by simp [MM, minmaxK]
end

theorem startA_eq' (args : List AV) (H : AH) (n : Nat) (keep : List Nat) (body : CC) (res : List RV) : startA ⟨n, keep, body, res⟩ args H = ⟨n, env (lessL (fun k => args.getD k .any) keep), H⟩ := startA_eq
theorem call_c {P : Program} {f : FuncId} {args : List AV} {H : AH} {K : AV → AH → Prop} {n : Nat} {keep : List Nat} {body : CC} {res : List RV} (hm : P.follows .mixedOrders = true)
    (hc : compF P f = some ⟨n, keep, body, res⟩) (hn : args.length ≤ n) (h : @WP P body ⟨@EA res ⟨K⟩⟩ ⟨n, env (lessL (fun k => args.getD k .any) keep), H⟩) : ACall P f args H K := by
  refine ACall_c hm hc hn ?_
  rw [startA_eq']
  exact h
end Go.Ab
