/-
  That an operation does what its instruction tells: the ones that read, make and write memory, and calls.
-/
import Derived.Lib.AppendZeros
import Derived.Test.YtmpncpamndhmcaaGreatAbFn
import Derived.Laws.AppendOwn
import Derived.Laws.Tables
namespace Go.Ab
open Go.RowKit
set_option linter.unusedSimpArgs false
set_option linter.unusedVariables false

section
variable {P : Program}

theorem cell_of_cells {w : World} {b : Nat} {C : Array Value} {T : TypeId} {F : Nat × Nat} (h : w.heap[b]? = some (.cells C T F)) (j : Nat) : w.cell? ⟨b, j, none⟩ = C[j]? := by
  simp [World.cell?, h]

theorem seek_sound {H : AH} {a : AV} {sz : Nat} {k : List AV → Prop} (h : seeK H a sz k) :
    ∃ cs, k cs ∧ cs.length = sz ∧ ∀ S W0 w u, RH S W0 H w → VR S w a u → ∃ (b o : Nat) (C : Array Value), u = .pointer (some ⟨b, o, none⟩) ∧ VRa S w cs C ∧ ∀ (j : Nat) (v : Value), C[j]? = some v → w.cell? ⟨b, o + j, none⟩ = some v := by
  unfold seeK at h
  split at h
  · rename_i cs
    obtain ⟨hl, h⟩ := h
    refine ⟨_, h, by simp; omega, fun S W0 w u hr hv => ?_⟩
    cases hv with
    | ep b o _ f hS hb hc hv =>
      refine ⟨b, o, ((List.range sz).map f).toArray, rfl, ⟨by simp; omega, fun j x v hx hv' => ?_⟩, fun j v hv' => ?_⟩
      · rw [List.getElem?_take] at hx
        split at hx
        · rename_i hj
          have e : ((List.range sz).map f).toArray[j]? = some (f j) := by simp [hj]
          rw [e] at hv'
          obtain rfl := Option.some.inj hv'
          exact hv j x hx
        · cases hx
      · have hj : j < sz := by
          have := (Array.getElem?_eq_some_iff.1 hv').1
          simpa using this
        have e : ((List.range sz).map f).toArray[j]? = some (f j) := by simp [hj]
        rw [e] at hv'
        obtain rfl := Option.some.inj hv'
        exact hc j _ (List.getElem?_eq_getElem (by omega))
  · rename_i b o
    split at h
    · rename_i cs hH
      obtain ⟨hl, h⟩ := h
      refine ⟨_, h, by simp; omega, fun S W0 w u hr hv => ?_⟩
      obtain rfl := hv.pl_inv
      obtain ⟨C, T, h1, h2, h3⟩ := hr.obj b _ hH
      refine ⟨b, o, C.extract o (o + sz), rfl, ?_, fun j v hv' => ?_⟩
      · refine ⟨by simp; omega, fun j x v hx hv' => ?_⟩
        rw [List.getElem?_take] at hx
        rw [Array.getElem?_extract] at hv'
        split at hx
        · split at hv'
          · rw [List.getElem?_drop] at hx
            exact h3 _ x v hx hv'
          · cases hv'
        · cases hx
      · rw [Array.getElem?_extract] at hv'
        split at hv'
        · rw [cell_of_cells h1]; exact hv'
        · cases hv'
    · rename_i cs hH
      obtain ⟨hl, h⟩ := h
      refine ⟨_, h, by simp; omega, fun S W0 w u hr hv => ?_⟩
      obtain rfl := hv.pl_inv
      obtain ⟨_, C, T, F, h1, h2, h3⟩ := hr.obj b _ hH
      refine ⟨b, o, C.extract o (o + sz), rfl, ?_, fun j v hv' => ?_⟩
      · refine ⟨by simp; omega, fun j x v hx hv' => ?_⟩
        rw [List.getElem?_take] at hx
        rw [Array.getElem?_extract] at hv'
        split at hx
        · split at hv'
          · rw [List.getElem?_drop] at hx
            exact h3 _ x v hx hv'
          · cases hv'
        · cases hx
      · rw [Array.getElem?_extract] at hv'
        split at hv'
        · rw [cell_of_cells h1]; exact hv'
        · cases hv'
    · exact h.elim
  · exact h.elim

theorem load_sound {t : TypeId} (hok : okT P t = true) {H : AH} {a : AV} {k : AV → Prop} (h : seeK H a (if aggB P t then P.cellsOf t else 1) fun cs => oneK (aggB P t) cs k) :
    ∃ v, k v ∧ ∀ S W0 w u, RH S W0 H w → VR S w a u → ∃ r, (Instr.loadAt t u).run P w = .ok r w ∧ VR S w v r := by
  obtain ⟨cs, hk, hl, hs⟩ := seek_sound h
  unfold oneK at hk
  cases hag : aggB P t with
  | true =>
    simp only [hag, if_true] at hk hl
    refine ⟨_, hk, fun S W0 w u hr hv => ?_⟩
    obtain ⟨b, o, C, rfl, hC, hcell⟩ := hs S W0 w u hr hv
    refine ⟨.agg C, ?_, .ag cs C hC.1 hC.2⟩
    unfold Instr.loadAt
    simp only [Instr.sureAddr]
    rw [run_bind (a := (⟨b, o, none⟩ : Addr)) (w' := w) rfl]
    unfold loadVar
    rw [run_bind (isAgg_run hok w)]
    simp only [hag, if_true]
    rw [run_bind (sizeOf_run hok w)]
    have := run_loadCells_list (P := P) w ⟨b, o, none⟩ C.toList (fun j v hv' => by rw [Addr.add_plain]; exact hcell j v (by simpa using hv'))
    have e : C.toList.length = P.cellsOf t := by rw [← hl, hC.1]; simp
    rw [e] at this
    rw [run_bind this]
    rfl
  | false =>
    simp only [hag, Bool.false_eq_true, if_false] at hk hl
    split at hk
    · rename_i x
      refine ⟨_, hk, fun S W0 w u hr hv => ?_⟩
      obtain ⟨b, o, C, rfl, hC, hcell⟩ := hs S W0 w u hr hv
      have h1 : C.size = 1 := hC.1.symm
      have h2 : C[0]? = some C[0] := Array.getElem?_eq_getElem (by omega)
      refine ⟨C[0], ?_, hC.2 0 _ _ rfl h2⟩
      unfold Instr.loadAt
      simp only [Instr.sureAddr]
      rw [run_bind (a := (⟨b, o, none⟩ : Addr)) (w' := w) rfl]
      unfold loadVar
      rw [run_bind (isAgg_run hok w)]
      simp only [hag, Bool.false_eq_true, if_false, load, Sem.run]
      have h3 : w.cell? ⟨b, o, none⟩ = some C[0] := hcell 0 _ h2
      rw [h3]
    · exact hk.elim

theorem rd_sound {o : Oper} {ρ : Operand → AV} {H : AH} {k : AV → AH → Prop} (hk : kindOf o.op = .rd) (h : iop P ρ H k (compI P o.op)) : ∃ v, Rd P o ρ H v ∧ k v H := by
  obtain ⟨dst, op, type, pos, after, guard⟩ := o
  simp only at hk h ⊢
  cases op with
  | load t x =>
    simp only [compI] at h
    split at h
    · rename_i hok
      simp only [iop] at h
      obtain ⟨v, hv, hrun⟩ := load_sound hok h
      refine ⟨v, fun S W0 a w ha hr => ?_, hv⟩
      obtain ⟨r, h1, h2⟩ := hrun S W0 w (a x) hr (ha x (by simp [Op.operands]))
      refine ⟨r, ?_, h2⟩
      simp only [execOp]
      rw [run_bind h1]
      rfl
    · exact h.elim
  | lookup t x i ok => exact lookup_rd h
  | call c =>
    obtain ⟨callee, args, argTypes⟩ := c
    cases callee with
    | builtin b =>
      cases b with
      | len =>
        simp only [compI] at h
        split at h
        · rename_i x t hargs htypes
          obtain rfl : args = #[x] := by apply Array.toList_inj.1; exact hargs
          obtain rfl : argTypes = #[t] := by apply Array.toList_inj.1; exact htypes
          have fin : ∀ v, k v H → (∀ S (a : Operand → Value) w, VR S w (ρ x) (a x) → ∃ u, (Builtin.len_ #[t] type #[a x]).run P w = .ok u w ∧ VR S w v u) →
              ∃ v, Rd P ⟨dst, .call ⟨.builtin .len, #[x], #[t]⟩, type, pos, after, guard⟩ ρ H v ∧ k v H := by
            intro v hv hrun
            refine ⟨v, fun S W0 a w ha hr => ?_, hv⟩
            obtain ⟨u, h1, h2⟩ := hrun S a w (ha x (by simp [Op.operands, Call.operands]))
            refine ⟨u, ?_, h2⟩
            simp only [execOp, resolve]
            rw [run_bind (a := (⟨.builtin .len #[t] type (#[x].map fun | .const _ => true | _ => false), #[x].map a⟩ : Deferred)) (w' := w) rfl]
            simp only [invoke, builtin]
            have h1' : (Builtin.len_ #[t] type (#[x].map a)).run P w = .ok u w := by
              have e : #[x].map a = #[a x] := by simp
              rw [e]; exact h1
            rw [run_bind h1']
            rfl
          split at h
          · rename_i hu
            simp only [iop] at h
            split at h
            · rename_i s hx
              refine fin _ h fun S a w hx' => ?_
              rw [hx] at hx'
              rw [hx'.pl_inv]
              refine ⟨_, ?_, .pl _⟩
              simp only [Builtin.len_]
              show ((underlying t >>= fun d => _) : Sem Value).run P w = _
              rw [run_bind (underlying_run hu w)]
              rfl
            · exact h.elim
          · rename_i e hu
            have sl : ∀ (ad : Option Addr) (n c : Nat) (w : World), (Builtin.len_ #[t] type #[.slice ad n c]).run P w = .ok (.int .i64 n) w := by
              intro ad n c w
              simp only [Builtin.len_]
              show ((underlying t >>= fun d => _) : Sem Value).run P w = _
              rw [run_bind (underlying_run hu w)]
              rfl
            simp only [iop] at h
            split at h
            · rename_i ad n c hx
              refine fin _ h fun S a w hx' => ?_
              rw [hx] at hx'
              rw [hx'.pl_inv]
              exact ⟨_, sl _ _ _ w, .pl _⟩
            · rename_i b o n sz xx hx
              refine fin _ h fun S a w hx' => ?_
              rw [hx] at hx'
              generalize a x = u at hx'
              cases hx' with
              | sl _ _ _ _ c _ C T F _ _ _ _ => exact ⟨_, sl _ _ _ w, .pl _⟩
            · rename_i n xx cs hx
              refine fin _ h fun S a w hx' => ?_
              rw [hx] at hx'
              generalize a x = u at hx'
              cases hx' with
              | vnil _ ad c _ => exact ⟨_, sl _ _ _ w, .pl _⟩
              | vs b o _ c _ _ g hS hn hx2 hb hc hv => exact ⟨_, sl _ _ _ w, .pl _⟩
            · exact h.elim
          · rename_i ke ee hu
            obtain ⟨v, hv, hrun⟩ := mlen_rd hu h type
            refine ⟨v, fun S W0 a w ha hr => ?_, hv⟩
            obtain ⟨u, h1, h2⟩ := hrun S W0 a w hr (ha x (by simp [Op.operands, Call.operands]))
            refine ⟨u, ?_, h2⟩
            simp only [execOp, resolve]
            rw [run_bind (a := (⟨.builtin .len #[t] type (#[x].map fun | .const _ => true | _ => false), #[x].map a⟩ : Deferred)) (w' := w) rfl]
            simp only [invoke, builtin]
            have h1' : (Builtin.len_ #[t] type (#[x].map a)).run P w = .ok u w := by
              have e : #[x].map a = #[a x] := by simp
              rw [e]; exact h1
            rw [run_bind h1']
            rfl
          · exact h.elim
        · exact h.elim
      | _ => simp [kindOf] at hk
    | _ => simp [kindOf] at hk
  | _ => simp [kindOf] at hk

theorem evo_write {S : Nat → Prop} {W0 w w' : World} {H : AH} {b : Nat} {cs0 cs : List AV} {C C' : Array Value} {T : TypeId} (hr : RH S W0 H w) (hb : H b = some (.cells cs0)) (hC : w.heap[b]? = some (.cells C T (0, 0)))
    (hos : w'.os = w.os) (htape : w'.tape = w.tape) (hout : w'.output = w.output) (hsz : w'.heap.size = w.heap.size) (hne : ∀ k, k ≠ b → w'.heap[k]? = w.heap[k]?) (hC' : w'.heap[b]? = some (.cells C' T (0, 0))) (hs : C'.size = C.size)
    (hl : cs.length ≤ C'.size) (hv : ∀ (j : Nat) (a : AV) (v : Value), cs[j]? = some a → C'[j]? = some v → VR S w a v) :
    Evo S H w S (upd H b (.cells cs)) w' ∧ RH S W0 (upd H b (.cells cs)) w' := by
  have hev : Evo S H w S (upd H b (.cells cs)) w' := by
    refine ⟨by omega, fun k hk hn => hne k (fun e => by rw [e, hb] at hn; exact hn rfl), ?_, fun _ h => h, fun _ h => .inl h, ?_⟩
    · intro k D T' F hk
      by_cases e : k = b
      · subst e
        rw [hC] at hk
        simp only [Option.some.injEq, Obj.cells.injEq] at hk
        obtain ⟨rfl, rfl, rfl⟩ := hk
        exact ⟨C', _, hC', hs⟩
      · exact ⟨D, F, (hne k e).trans hk, rfl⟩
    · intro k
      rw [kd_upd]
      split
      · rename_i e; subst e; exact .inr (.inl (by rw [hb]; rfl))
      · exact .inr (.inl rfl)
  have hbb : W0.heap.size ≤ b := by
    rcases Nat.lt_or_ge b W0.heap.size with h | h
    · exact absurd (hr.sub b h) (hr.free b (by rw [hb]; rfl))
    · exact h
  refine ⟨hev, ⟨hr.below.trans ⟨hos, htape, hout, by omega, fun k hk => hne k (by omega)⟩, hr.sub, fun k hk => by rw [hsz]; exact hr.bound k hk, ?_, ?_, ?_⟩⟩
  · intro k o hk
    rw [hsz]
    unfold upd at hk
    split at hk
    · rename_i e; subst e; exact hr.lt _ _ hb
    · exact hr.lt k o hk
  · intro k hk
    rw [kd_upd] at hk
    split at hk
    · rename_i e; subst e; exact hr.free _ (by rw [hb]; rfl)
    · exact hr.free k hk
  · intro k o hk
    unfold upd at hk
    split at hk
    · rename_i e
      subst e
      obtain rfl := Option.some.inj hk
      exact ⟨C', T, hC', hl, fun j a v ha hv' => (hv j a v ha hv').evo hr hev⟩
    · rename_i e
      exact (hr.obj k o hk).evo hr hev (hne k e)

theorem VR.one {S : Nat → Prop} {w : World} {a : AV} {v : Value} (h : VR S w a v) (ho : a.one = true) : v.oneCell' = true := by
  cases h <;> first | rfl | exact ho | (simp [AV.one] at ho)

theorem flatten_rep (z : List AV) (hz : 0 < z.length) : ∀ (n j : Nat), ((List.replicate n z).flatten)[j]? = if j < n * z.length then z[j % z.length]? else none
  | 0, j => by simp
  | n + 1, j => by
    rw [List.replicate_succ, List.flatten_cons, List.getElem?_append]
    by_cases h : j < z.length
    · rw [if_pos h, if_pos (by rw [Nat.succ_mul]; omega), Nat.mod_eq_of_lt h]
    · rw [if_neg h, flatten_rep z hz n]
      have e : (j - z.length) % z.length = j % z.length := by
        conv => rhs; rw [show j = (j - z.length) + z.length by omega]
        rw [Nat.add_mod_right]
      rw [e]
      by_cases h2 : j < (n + 1) * z.length
      · rw [if_pos h2, if_pos (by rw [Nat.succ_mul] at h2; omega)]
      · rw [if_neg h2, if_neg (by rw [Nat.succ_mul] at h2; omega)]

theorem rep_sound {S : Nat → Prop} {w : World} (v : Value) (n : Nat) (hz : 0 < v.cells.size) :
    VRa S w (List.replicate n (v.cells.toList.map .pl)).flatten ((Array.range (n * v.cells.size)).map (v.cells[· % v.cells.size]!)) := by
  have hl : (v.cells.toList.map AV.pl).length = v.cells.size := by simp
  refine ⟨by simp, fun j a u ha hu => ?_⟩
  rw [flatten_rep _ (by rw [hl]; exact hz), hl] at ha
  split at ha
  · rename_i hj
    have hu' : u = v.cells[j % v.cells.size]! := by
      have : ((Array.range (n * v.cells.size)).map (v.cells[· % v.cells.size]!))[j]? = some (v.cells[j % v.cells.size]!) := by simp [hj]
      rw [this] at hu
      exact (Option.some.inj hu).symm
    have hm : j % v.cells.size < v.cells.size := Nat.mod_lt _ hz
    rw [List.getElem?_map] at ha
    have h2 : v.cells.toList[j % v.cells.size]? = some v.cells[j % v.cells.size] := by simp [hm]
    rw [h2] at ha
    obtain rfl := Option.some.inj ha
    rw [hu', getElem!_pos v.cells _ hm]
    exact .pl _
  · cases ha

theorem callFunc_run {f : FuncId} (h : goodCallee P f = true) (args : Array Value) (w : World) : (callFunc f args).run P w = .ok (.enter f args) w := by
  unfold goodCallee at h
  split at h
  · rename_i fn hf
    simp only [Bool.and_eq_true, Bool.not_eq_true'] at h
    unfold callFunc
    rw [run_bind (a := P) (w' := w) rfl]
    simp only [hf]
    rw [if_neg (by rw [h.1]; simp), if_neg (by cases hb : fn.body <;> simp_all)]
    rfl
  · cases h

theorem call_op {f : FuncId} {args : Array Value} {w : World} {H : AH} {S : Nat → Prop} {W0 : World} {as : List AV} {k : AV → AH → Prop} (hr : RH S W0 H w) (h : ACall P f as H k) (ha : VRs S w as args.toList) :
    upon P (fun v w' => ∃ S' x H', Evo S H w S' H' w' ∧ RH S' W0 H' w' ∧ VR S' w' x v ∧ k x H') (.ok (.enter f args) w) := by
  refine (h S W0 w args hr ha).mono ?_
  rintro e w' ⟨u, S', x, H', rfl, h1, h2, h3, h4⟩
  exact ⟨S', x, H', h1, h2, h3, h4⟩

theorem VRs_map {S : Nat → Prop} {w : World} {ρ : Operand → AV} {a : Operand → Value} {args : Array Operand} (h : ∀ x ∈ args, VR S w (ρ x) (a x)) : VRs S w (args.toList.map ρ) (args.map a).toList := by
  refine ⟨by simp, fun j x v hx hv => ?_⟩
  rw [Array.toList_map] at hv
  simp only [List.getElem?_map, Option.map_eq_some_iff] at hx hv
  obtain ⟨p, hp, rfl⟩ := hx
  obtain ⟨q, hq, rfl⟩ := hv
  rw [hp] at hq
  obtain rfl := Option.some.inj hq
  exact h p (by rw [← Array.mem_toList_iff]; exact List.mem_of_getElem? hp)

theorem store_sound {t : TypeId} (hok : okT P t = true) {H : AH} {b o : Nat} {y : AV} {cs ds : List AV} (hH : H b = some (.cells cs)) (hds : y.cells = some ds) (hl : ds.length = P.cellsOf t) (hle : o + P.cellsOf t ≤ cs.length) (hone : ds.all AV.one = true)
    {S : Nat → Prop} {W0 w : World} {v : Value} (hr : RH S W0 H w) (hv : VR S w y v) :
    ∃ w', (Instr.storeAt t (.pointer (some ⟨b, o, none⟩)) v).run P w = .ok () w' ∧ Evo S H w S (upd H b (.cells (cs.take o ++ ds ++ cs.drop (o + P.cellsOf t)))) w' ∧
      RH S W0 (upd H b (.cells (cs.take o ++ ds ++ cs.drop (o + P.cellsOf t)))) w' := by
  obtain ⟨C, T, h1, h2, h3⟩ := hr.obj b _ hH
  obtain ⟨c1, c2⟩ := cells_sound hv hds
  have hvs : v.cells.size = P.cellsOf t := c1 ▸ hl
  have h1c : ∀ x ∈ v.cells.toList, x.oneCell' = true := by
    intro x hx
    obtain ⟨j, hj⟩ := List.getElem?_of_mem hx
    have hj' : v.cells[j]? = some x := by simpa using hj
    have hlt : j < v.cells.size := (Array.getElem?_eq_some_iff.1 hj').1
    have hd : ds[j]? = some (ds[j]'(by omega)) := List.getElem?_eq_getElem (by omega)
    exact (c2 j _ x hd hj').one (List.all_eq_true.1 hone _ (List.getElem_mem _))
  have hst := run_storeCells_at (P := P) b o T v.cells.toList 0 C w h1 (by simp; omega) h1c
  refine ⟨w.setRow b (C.toList.take o ++ v.cells.toList ++ C.toList.drop (o + v.cells.size)).toArray, ?_, ?_⟩
  · unfold Instr.storeAt
    simp only [Instr.sureAddr]
    rw [run_bind (a := (⟨b, o, none⟩ : Addr)) (w' := w) rfl]
    unfold storeVar
    rw [run_bind (sizeOf_run hok w)]
    simp only
    rw [if_neg (by rw [hvs]; simp)]
    simpa using hst
  · refine evo_write hr hH h1 rfl rfl rfl (setRow_size _ _ _) (fun k hk => setRow_other _ _ _ _ hk) (setRow_heap w b C _ T _ h1) (by simp; omega) (by simp; omega) ?_
    intro j a u ha hu
    have hu' : (C.toList.take o ++ v.cells.toList ++ C.toList.drop (o + v.cells.size))[j]? = some u := by simpa using hu
    rw [List.append_assoc, List.getElem?_append] at ha hu'
    have e1 : (cs.take o).length = o := by simp; omega
    have e2 : (C.toList.take o).length = o := by simp; omega
    rw [e1] at ha
    rw [e2] at hu'
    by_cases g1 : j < o
    · rw [if_pos g1, List.getElem?_take, if_pos g1] at ha hu'
      exact h3 j a u ha (by simpa using hu')
    · rw [if_neg g1, List.getElem?_append] at ha hu'
      rw [hl] at ha
      have e3 : v.cells.toList.length = P.cellsOf t := by simpa using hvs
      rw [e3] at hu'
      by_cases g2 : j - o < P.cellsOf t
      · rw [if_pos g2] at ha hu'
        exact c2 _ a u ha (by simpa using hu')
      · rw [if_neg g2, List.getElem?_drop] at ha hu'
        rw [hvs] at hu'
        exact h3 _ a u ha (by simpa using hu')

theorem news_sound {H : AH} {y : AV} {sz : Nat} {k : Nat → List AV → Prop} (h : newsK H y sz k) :
    ∃ m ns, k m ns ∧ ns.length = m * sz ∧ ∀ S W0 w u, RH S W0 H w → VR S w y u → ∃ ad c, u = .slice ad m c ∧
      (m = 0 ∨ ∃ a C, ad = some a ∧ VRs S w ns C ∧ ∀ (j : Nat) (v : Value), C[j]? = some v → w.cell? (a.add j) = some v) := by
  unfold newsK at h
  split at h
  · exact ⟨0, [], h, by simp, fun S W0 w u hr hv => ⟨none, 0, hv.pl_inv, .inl rfl⟩⟩
  · rename_i m x cs
    obtain ⟨hl, h⟩ := h
    refine ⟨m, _, h, by simp; omega, fun S W0 w u hr hv => ?_⟩
    cases hv with
    | vnil _ ad c _ => exact ⟨ad, c, rfl, .inl rfl⟩
    | vs b o _ c _ _ f hS hn hx hb hc hv =>
      refine ⟨_, c, rfl, .inr ⟨_, (List.range (m * sz)).map f, rfl, ⟨by simp; omega, fun j x v hx hv' => ?_⟩, fun j v hv' => ?_⟩⟩
      · rw [List.getElem?_take] at hx
        split at hx
        · rename_i hj
          have e : ((List.range (m * sz)).map f)[j]? = some (f j) := by simp [hj]
          rw [e] at hv'
          obtain rfl := Option.some.inj hv'
          exact hv j x hx
        · cases hx
      · have hj : j < m * sz := by
          have := (List.getElem?_eq_some_iff.1 hv').1
          simpa using this
        have e : ((List.range (m * sz)).map f)[j]? = some (f j) := by simp [hj]
        rw [e] at hv'
        obtain rfl := Option.some.inj hv'
        rw [Addr.add_plain]
        exact hc j _ (List.getElem?_eq_getElem (by omega))
  · rename_i b o m sz' x
    obtain ⟨rfl, h⟩ := h
    split at h
    · rename_i cs hH
      obtain ⟨hl, h⟩ := h
      refine ⟨m, _, h, by simp; omega, fun S W0 w u hr hv => ?_⟩
      obtain ⟨C, T, h1, h2, h3⟩ := hr.obj b _ hH
      cases hv with
      | sl _ _ _ _ c _ C' T' F _ _ _ _ =>
        refine ⟨_, c, rfl, .inr ⟨_, (C.toList.drop o).take (m * sz'), rfl, ⟨by simp; omega, fun j x v hx hv' => ?_⟩, fun j v hv' => ?_⟩⟩
        · rw [List.getElem?_take] at hx hv'
          split at hx
          · rename_i hj
            rw [if_pos hj, List.getElem?_drop] at hv'
            rw [List.getElem?_drop] at hx
            exact h3 _ x v hx (by simpa using hv')
          · cases hx
        · rw [List.getElem?_take] at hv'
          split at hv'
          · rw [List.getElem?_drop] at hv'
            rw [Addr.add_plain, cell_of_cells h1]
            simpa using hv'
          · cases hv'
    · exact h.elim
  · exact h.elim

section
variable {t ty e : TypeId} {i : TypeInfo} {w : World}

theorem run_append_zero (ht : P.underlying t = some (.slice e)) (hi : P.info? e = some i) (base : Option Addr) (n c : Nat) (hn : n ≤ c) (ay : Option Addr) (cy : Nat) :
    (Builtin.append_ #[t, t] ty #[.slice base n c, .slice ay 0 cy]).run P w = .ok (.slice base n c) w := by
  cases base <;> cases ay <;> simp [Builtin.append_, run_underlying ht, sizeOf, typeInfo, hi, Builtin.lenOf, Builtin.firstCells, loadCells, loadCellsFrom, storeCells, hn]

theorem run_append_in (ht : P.underlying t = some (.slice e)) (hi : P.info? e = some i)
    (g sLen sCap : Nat) (cur : Array Value) (T : TypeId) (hg : w.heap[g]? = some (.cells cur T (0, 0)))
    (a : Addr) (m c : Nat) (news : List Value) (hl : news.length = m * i.size) (hnews : ∀ j u, news[j]? = some u → w.cell? (a.add j) = some u) (h1 : ∀ u ∈ news, u.oneCell' = true)
    (hroom : sLen + m ≤ sCap) (hfit : sLen * i.size + news.length ≤ cur.size) :
    (Builtin.append_ #[t, t] ty #[.slice (some ⟨g, 0, none⟩) sLen sCap, .slice (some a) m c]).run P w =
      .ok (.slice (some ⟨g, 0, none⟩) (sLen + m) sCap) (w.setRow g (cur.toList.take (sLen * i.size) ++ news ++ cur.toList.drop (sLen * i.size + news.length)).toArray) := by
  have hf := run_firstCells_some (P := P) w i.size m a m c news hl hnews
  have hst := run_storeCells_at (P := P) g (sLen * i.size) T news 0 cur w hg (by simpa using hfit) h1
  simp only [Nat.add_zero] at hst
  simp [Builtin.append_, run_underlying ht, sizeOf, typeInfo, hi, Builtin.lenOf, hroom, hf, Addr.add_plain, hst]
end

theorem zeroCells_rep {S : Nat → Prop} {w : World} (v : Value) (n : Nat) (hz : 0 < v.cells.size) : VRa S w (List.replicate n (v.cells.toList.map .pl)).flatten (Builtin.zeroCells v.cells n) := rep_sound v n hz
theorem zeroCells_size (v : Value) (n : Nat) : (Builtin.zeroCells v.cells n).size = n * v.cells.size := by simp [Builtin.zeroCells]

theorem apz_ef {dst : Option Tmp} {type : TypeId} {pos : String} {after : Array Edge} {guard : Option (Nat × Bool)} {ρ : Operand → AV} {H : AH} {k : AV → AH → Prop} {x y : Operand} {t t' e : TypeId} {kn : IntKind} {z : List AV} (hu : P.underlying t = some (.slice e)) (hu' : P.underlying t' = some (.int kn)) (hz : zeroA P e = some z)
    (hok : okT P e = true) (hzl : z.length = P.cellsOf e) (hszp : 0 < P.cellsOf e) (hbyp : 0 < P.bytesOf e) (h : iop P ρ H k (.apz (P.cellsOf e) (P.bytesOf e) z x y)) : OpR P ⟨dst, .call ⟨.builtin .append, #[x, y], #[t, t']⟩, type, pos, after, guard⟩ ρ H k := by
  obtain ⟨⟨ti, hti⟩, _⟩ := okT_parts hok
  have hsz : ti.size = P.cellsOf e := by simp [Program.cellsOf, hti]
  have hby : ti.bytes = P.bytesOf e := by simp [Program.bytesOf, hti]
  obtain ⟨zv, hzv, hzc⟩ : ∃ zv, ti.zero = some zv ∧ z = zv.cells.toList.map .pl := by
    simp only [zeroA, hti, Option.bind_some, Option.map_eq_some_iff] at hz
    obtain ⟨zv, h1, h2⟩ := hz
    exact ⟨zv, h1, h2.symm⟩
  have hzs : zv.cells.size = P.cellsOf e := by rw [← hzl, hzc]; simp
  have hexec : ∀ (a : Operand → Value) (w w' : World) (r : Value), (Builtin.append_ #[t, t'] type #[a x, a y]).run P w = .ok r w' →
      (execOp a ⟨dst, .call ⟨.builtin .append, #[x, y], #[t, t']⟩, type, pos, after, guard⟩).run P w = .ok (.value r) w' := by
    intro a w w' r hrun
    simp only [execOp, resolve]
    rw [run_bind (a := (⟨.builtin .append #[t, t'] type (#[x, y].map fun | .const _ => true | _ => false), #[x, y].map a⟩ : Deferred)) (w' := w) rfl]
    simp only [invoke, builtin]
    have e1 : #[x, y].map a = #[a x, a y] := by simp
    rw [e1, run_bind hrun]
    rfl
  simp only [iop] at h
  split at h
  · rename_i k0 m hx hy
    obtain ⟨hm0, hmb, h0, h1⟩ := h
    intro S W0 a w ha hr
    have hvx := ha x (by simp [Op.operands, Call.operands])
    have hvy := ha y (by simp [Op.operands, Call.operands])
    rw [hx] at hvx
    rw [hy] at hvy
    obtain ⟨n, rfl⟩ : ∃ n : Nat, m = n := ⟨m.toNat, by omega⟩
    simp only [Int.toNat_natCast] at hmb h1
    by_cases hn : n = 0
    · subst hn
      have hrun : (Builtin.append_ #[t, t'] type #[.slice none 0 0, .int k0 (0 : Nat)]).run P w = .ok (.slice none 0 0) w := by
        simp [Builtin.append_, run_underlying hu, run_underlying hu', sizeOf, typeInfo, hti, asInt, asIntOf, IntKind.wrap_i64]
      rw [hexec a w w _ (by rw [hvx.pl_inv, hvy.pl_inv]; exact hrun)]
      exact ⟨S, _, H, Evo.refl _ _ _, hr, .pl _, h0 rfl⟩
    · have hmb1 : n * 1 ≤ n * ti.bytes := Nat.mul_le_mul_left _ (by rw [hby]; exact hbyp)
      have hrun := Lib.run_append_nil_zeros (P := P) w t t' type e ti zv k0 kn hu hu' hti hzv n (by omega) (by rw [hsz]; exact hszp) (by rw [hby] at hmb1; omega) (by rw [hby]; omega)
      rw [hexec a w _ _ (by rw [hvx.pl_inv, hvy.pl_inv]; exact hrun)]
      have hR' : RH S W0 H w.drew := ⟨hr.below.drew, hr.sub, hr.bound, hr.lt, hr.free, fun k o hk => (hr.obj k o hk).evo hr (⟨Nat.le_refl _, fun _ _ _ => rfl, fun _ C _ F h => ⟨C, F, h, rfl⟩, fun _ h => h, fun _ h => .inl h, fun _ => .inr (.inl rfl)⟩ : Evo S H w S H w.drew) rfl⟩
      have hE' : Evo S H w S H w.drew := ⟨Nat.le_refl _, fun _ _ _ => rfl, fun _ C _ F h => ⟨C, F, h, rfl⟩, fun _ h => h, fun _ h => .inl h, fun _ => .inr (.inl rfl)⟩
      have hcap : n ≤ grownCap w n 0 e := by simp [grownCap, Question.cut]
      have hrep := zeroCells_rep (S := S) (w := w.drew) zv n (by rw [hzs]; exact hszp)
      have hsize : (Builtin.zeroCells zv.cells n ++ Builtin.zeroCells zv.cells (grownCap w n 0 e - n)).size = grownCap w n 0 e * P.cellsOf e := by
        rw [Array.size_append, zeroCells_size, zeroCells_size, hzs, ← Nat.add_mul]
        congr 1; omega
      have hlen : (List.replicate n z).flatten.length = n * P.cellsOf e := by simp [hzl]
      have hal := evo_alloc hR' (List.replicate n z).flatten (Builtin.zeroCells zv.cells n ++ Builtin.zeroCells zv.cells (grownCap w n 0 e - n)) e (by rw [hsize, hlen]; exact Nat.mul_le_mul_right _ hcap) (by
        intro j p u hp hu1
        have hlt : j < (Builtin.zeroCells zv.cells n).size := by
          have := (List.getElem?_eq_some_iff.1 hp).1
          rw [hlen] at this
          rw [zeroCells_size, hzs]; exact this
        rw [Array.getElem?_append, if_pos hlt] at hu1
        rw [hzc] at hp
        exact hrep.2 j p u hp hu1)
      refine ⟨S, _, _, hE'.trans hal.2.1, hal.2.2, ?_, h1 (by omega) _ hal.1⟩
      refine .sl _ 0 n _ (grownCap w n 0 e) false (Builtin.zeroCells zv.cells n ++ Builtin.zeroCells zv.cells (grownCap w n 0 e - n)) e (0, 0) ?_ (by rw [hsize]; omega) hcap (fun h => by cases h)
      show (w.heap.push _)[w.heap.size]? = _
      simp
  · exact h.elim

theorem mks_ef {dst : Option Tmp} {type : TypeId} {pos : String} {after : Array Edge} {guard : Option (Nat × Bool)} {ρ : Operand → AV} {H : AH} {k : AV → AH → Prop} {x y : Operand} {t e : TypeId} {z : List AV} (hu : P.underlying t = some (.slice e)) (hz : zeroA P e = some z)
    (hok : okT P e = true) (hzl : z.length = P.cellsOf e) (hszp : 0 < P.cellsOf e) (hbyp : 0 < P.bytesOf e) (h : iop P ρ H k (.mks (P.cellsOf e) (P.bytesOf e) z x y)) : OpR P ⟨dst, .makeSlice t x y, type, pos, after, guard⟩ ρ H k := by
  obtain ⟨⟨ti, hti⟩, _⟩ := okT_parts hok
  have hsz : ti.size = P.cellsOf e := by simp [Program.cellsOf, hti]
  have hby : ti.bytes = P.bytesOf e := by simp [Program.bytesOf, hti]
  obtain ⟨zv, hzv, hzc⟩ : ∃ zv, ti.zero = some zv ∧ z = zv.cells.toList.map .pl := by
    simp only [zeroA, hti, Option.bind_some, Option.map_eq_some_iff] at hz
    obtain ⟨zv, h1, h2⟩ := hz
    exact ⟨zv, h1, h2.symm⟩
  have hzs : zv.cells.size = P.cellsOf e := by rw [← hzl, hzc]; simp
  simp only [iop] at h
  split at h
  · rename_i k0 m k1 m1 hx hy
    obtain ⟨rfl, hm0, hmb, h1⟩ := h
    intro S W0 a w ha hr
    have hvx := ha x (by simp [Op.operands])
    have hvy := ha y (by simp [Op.operands])
    rw [hx] at hvx
    rw [hy] at hvy
    obtain ⟨n, rfl⟩ : ∃ n : Nat, m = n := ⟨m.toNat, by omega⟩
    simp only [Int.toNat_natCast] at hmb h1
    have hmb1 : n * 1 ≤ n * ti.bytes := Nat.mul_le_mul_left _ (by rw [hby]; exact hbyp)
    have hw : IntKind.i64.wrap (n : Int) = n := by rw [IntKind.wrap_i64]; rw [hby] at hmb1; omega
    have hbig : ¬ (281474976710656 < (ti.bytes : Int) * (n : Int)) := by
      rw [← Int.natCast_mul, Nat.mul_comm, hby]; omega
    have hneg : ¬ ((n : Int) < 0) := by omega
    have hrun : (Instr.makeSlice t (.int k0 n) (.int k1 n)).run P w = .ok (.slice (some ⟨w.heap.size, 0, none⟩) n n) (w.alloc (.cells (Builtin.zeroCells zv.cells n) e)) := by
      by_cases hn : n = 0
      · subst hn
        simp [Instr.makeSlice, run_underlying hu, sizeOf, typeInfo, hti, asInt, asIntOf, IntKind.wrap_i64, newRow, Builtin.zeroCells, show Array.range 0 = #[] from rfl]
      · have hns : ¬ (n * ti.size = 0) := Nat.mul_ne_zero hn (by omega)
        simp [Instr.makeSlice, run_underlying hu, sizeOf, typeInfo, zeroValue, hti, hzv, asInt, asIntOf, hw, hbig, hneg, hns, hn, newRow, Builtin.zeroCells, hzs, hsz]
        intro h0
        exact absurd h0 (by rw [← hsz]; exact hns)
    have hexec : (execOp a ⟨dst, .makeSlice t x y, type, pos, after, guard⟩).run P w = .ok (.value (.slice (some ⟨w.heap.size, 0, none⟩) n n)) (w.alloc (.cells (Builtin.zeroCells zv.cells n) e)) := by
      simp only [execOp, hvx.pl_inv, hvy.pl_inv]
      rw [run_bind hrun]
      rfl
    rw [hexec]
    have hrep := zeroCells_rep (S := S) (w := w) zv n (by rw [hzs]; exact hszp)
    have hlen : (List.replicate n z).flatten.length = n * P.cellsOf e := by simp [hzl]
    have hal := evo_alloc hr (List.replicate n z).flatten (Builtin.zeroCells zv.cells n) e (by rw [hlen, zeroCells_size, hzs]; exact Nat.le_refl _) (by
      intro j p u hp hu1
      rw [hzc] at hp
      exact hrep.2 j p u hp hu1)
    refine ⟨S, _, _, hal.2.1, hal.2.2, ?_, h1 _ hal.1⟩
    refine .sl _ 0 n _ n true (Builtin.zeroCells zv.cells n) e (0, 0) ?_ (by rw [zeroCells_size, hzs]; omega) (Nat.le_refl _) (fun _ => rfl)
    show (w.heap.push _)[w.heap.size]? = _
    simp
  · exact h.elim

theorem clr_ef {dst : Option Tmp} {type : TypeId} {pos : String} {after : Array Edge} {guard : Option (Nat × Bool)} {ρ : Operand → AV} {H : AH} {k : AV → AH → Prop} {x : Operand} {t e : TypeId} {z : List AV} (hu : P.underlying t = some (.slice e)) (hz : zeroA P e = some z)
    (hok : okT P e = true) (hzl : z.length = P.cellsOf e) (hszp : 0 < P.cellsOf e) (h : iop P ρ H k (.clr (P.cellsOf e) z x)) : OpR P ⟨dst, .call ⟨.builtin .clear, #[x], #[t]⟩, type, pos, after, guard⟩ ρ H k := by
  obtain ⟨⟨ti, hti⟩, _⟩ := okT_parts hok
  obtain ⟨zv, hzv, hzc⟩ : ∃ zv, ti.zero = some zv ∧ z = zv.cells.toList.map .pl := by
    simp only [zeroA, hti, Option.bind_some, Option.map_eq_some_iff] at hz
    obtain ⟨zv, h1, h2⟩ := hz
    exact ⟨zv, h1, h2.symm⟩
  have hzs : zv.cells.size = P.cellsOf e := by rw [← hzl, hzc]; simp
  have hexec : ∀ (a : Operand → Value) (w w' : World) (r : Value), (Builtin.clear_ #[t] type #[a x]).run P w = .ok r w' →
      (execOp a ⟨dst, .call ⟨.builtin .clear, #[x], #[t]⟩, type, pos, after, guard⟩).run P w = .ok (.value r) w' := by
    intro a w w' r hrun
    simp only [execOp, resolve]
    rw [run_bind (a := (⟨.builtin .clear #[t] type (#[x].map fun | .const _ => true | _ => false), #[x].map a⟩ : Deferred)) (w' := w) rfl]
    simp only [invoke, builtin]
    have e1 : #[x].map a = #[a x] := by simp
    rw [e1, run_bind hrun]
    rfl
  have none_run : ∀ (w : World) (n c : Nat), (Builtin.clear_ #[t] type #[.slice none n c]).run P w = .ok (.tuple #[]) w := by
    intro w n c
    simp [Builtin.clear_, run_underlying hu]
  have zero_run : ∀ (w : World) (ad : Option Addr) (c : Nat), (Builtin.clear_ #[t] type #[.slice ad 0 c]).run P w = .ok (.tuple #[]) w := by
    intro w ad c
    cases ad <;> simp [Builtin.clear_, run_underlying hu]
  simp only [iop] at h
  obtain ⟨hone, h⟩ := h
  split at h
  · rename_i b o n sz' xf hx
    obtain ⟨rfl, h⟩ := h
    split at h
    · rename_i cs hH
      obtain ⟨hle, h⟩ := h
      intro S W0 a w ha hr
      have hv := ha x (by simp [Op.operands, Call.operands])
      rw [hx] at hv
      obtain ⟨C, T, o1, o2, o3⟩ := hr.obj b _ hH
      generalize hxv : a x = xv at hv
      cases hv with
      | sl _ _ _ _ cap _ C1 T1 F1 g1 g2 g3 g4 =>
        have hrep := zeroCells_rep (S := S) (w := w) zv n (by rw [hzs]; exact hszp)
        have hzn : (Builtin.zeroCells zv.cells n).size = n * P.cellsOf e := by rw [zeroCells_size, hzs]
        have honev : ∀ v ∈ (Builtin.zeroCells zv.cells n).toList, v.oneCell' = true := by
          intro v hv
          obtain ⟨j, hj⟩ := List.getElem?_of_mem hv
          have hj' : (Builtin.zeroCells zv.cells n)[j]? = some v := by simpa using hj
          have hlt : j < (List.replicate n (zv.cells.toList.map AV.pl)).flatten.length := by rw [hrep.1]; exact (Array.getElem?_eq_some_iff.1 hj').1
          refine (hrep.2 j _ v (List.getElem?_eq_getElem hlt) hj').one ?_
          have hmem := List.getElem_mem hlt
          obtain ⟨l, hl1, hl2⟩ := List.mem_flatten.1 hmem
          obtain ⟨_, rfl⟩ := List.mem_replicate.1 hl1
          rw [hzc] at hone
          exact List.all_eq_true.1 hone _ hl2
        have hrun : (Builtin.clear_ #[t] type #[.slice (some ⟨b, o, none⟩) n cap]).run P w = .ok (.tuple #[]) (w.setRow b (C.toList.take o ++ (Builtin.zeroCells zv.cells n).toList ++ C.toList.drop (o + n * P.cellsOf e)).toArray) := by
          have hst := run_storeCells_at (P := P) b o T (Builtin.zeroCells zv.cells n).toList 0 C w o1 (by simp [hzn]; omega) honev
          simp only [Nat.add_zero, Array.length_toList, hzn] at hst
          by_cases hn : n = 0
          · subst hn
            rw [zero_run]
            simp only [Nat.zero_mul, Nat.add_zero]
            have e0 : (Builtin.zeroCells zv.cells 0).toList = [] := by simp [Builtin.zeroCells, show Array.range 0 = #[] from rfl]
            rw [e0, List.append_nil, List.take_append_drop, Array.toArray_toList, setRow_self w b C T (0, 0) o1]
          · obtain ⟨n', rfl⟩ : ∃ n', n = n' + 1 := ⟨n - 1, by omega⟩
            simp [Builtin.clear_, run_underlying hu, zeroValue, typeInfo, hti, hzv, hst]
        rw [hexec a w _ _ (by rw [hxv]; exact hrun)]
        have hCs : o + n * P.cellsOf e ≤ C.size := by omega
        have ev := evo_write (w' := w.setRow b (C.toList.take o ++ (Builtin.zeroCells zv.cells n).toList ++ C.toList.drop (o + n * P.cellsOf e)).toArray) (cs := cs.take o ++ (List.replicate n z).flatten ++ cs.drop (o + n * P.cellsOf e)) (C' := (C.toList.take o ++ (Builtin.zeroCells zv.cells n).toList ++ C.toList.drop (o + n * P.cellsOf e)).toArray) hr hH o1 rfl rfl rfl (setRow_size _ _ _) (fun k hk => setRow_other _ _ _ _ hk) (setRow_heap w b C _ T _ o1)
          (by simp [hzn]; omega) (by simp [hzn, hzl]; omega) (by
          intro j p u hp hu1
          have hu' : (C.toList.take o ++ (Builtin.zeroCells zv.cells n).toList ++ C.toList.drop (o + n * P.cellsOf e))[j]? = some u := by simpa using hu1
          rw [List.append_assoc, List.getElem?_append] at hp hu'
          have e1 : (cs.take o).length = o := by simp; omega
          have e2 : (C.toList.take o).length = o := by simp; omega
          rw [e1] at hp
          rw [e2] at hu'
          by_cases q1 : j < o
          · rw [if_pos q1, List.getElem?_take, if_pos q1] at hp hu'
            exact o3 j p u hp (by simpa using hu')
          · rw [if_neg q1, List.getElem?_append] at hp hu'
            have e3 : (List.replicate n z).flatten.length = n * P.cellsOf e := by simp [hzl]
            have e4 : (Builtin.zeroCells zv.cells n).toList.length = n * P.cellsOf e := by simpa using hzn
            rw [e3] at hp
            rw [e4] at hu'
            by_cases q2 : j - o < n * P.cellsOf e
            · rw [if_pos q2] at hp hu'
              rw [hzc] at hp
              exact hrep.2 _ p u hp (by simpa using hu')
            · rw [if_neg q2, List.getElem?_drop] at hp hu'
              exact o3 _ p u hp (by simpa using hu'))
        exact ⟨S, _, _, ev.1, ev.2, .tp [] #[] rfl (fun j a v ha => by simp at ha), h⟩
    · exact h.elim
  · rename_i xf cs hx
    intro S W0 a w ha hr
    have hv := ha x (by simp [Op.operands, Call.operands])
    rw [hx] at hv
    generalize hxv : a x = xv at hv
    obtain ⟨ad, c, rfl⟩ : ∃ ad c, xv = .slice ad 0 c := by
      cases hv with
      | vnil _ ad c => exact ⟨ad, c, rfl⟩
      | vs b o _ c => exact ⟨_, c, rfl⟩
    rw [hexec a w w _ (by rw [hxv]; exact zero_run w ad c)]
    exact ⟨S, _, H, Evo.refl _ _ _, hr, .tp [] #[] rfl (fun j a v ha => by simp at ha), h⟩
  · rename_i n c hx
    intro S W0 a w ha hr
    have hv := ha x (by simp [Op.operands, Call.operands])
    rw [hx] at hv
    rw [hexec a w w _ (by rw [hv.pl_inv]; exact none_run w n c)]
    exact ⟨S, _, H, Evo.refl _ _ _, hr, .tp [] #[] rfl (fun j a v ha => by simp at ha), h⟩
  · exact h.elim

theorem ef_sound {o : Oper} {ρ : Operand → AV} (hρ : ∀ f, ρ (.func f) = .pl (.func (.func f) #[] #[])) {H : AH} {k : AV → AH → Prop} (hk : kindOf o.op = .ef) (h : iop P ρ H k (compI P o.op)) : OpR P o ρ H k := by
  obtain ⟨dst, op, type, pos, after, guard⟩ := o
  simp only at hk h ⊢
  cases op with
  | mapUpdate t x i y => exact mupd_ef (.inl rfl) h
  | insert t x i y => exact mupd_ef (.inr rfl) h
  | makeMap t r => exact mmk_ef h
  | range t x => exact mrng_ef h
  | next x s => exact mnxt_ef h
  | entry x => exact ment_ef h
  | makeSlice t l c =>
    simp only [compI] at h
    split at h
    · rename_i e hu
      split at h
      · rename_i z hz
        split at h
        · rename_i hcond
          exact mks_ef hu hz hcond.1 hcond.2.1 hcond.2.2.1 hcond.2.2.2 h
        · exact h.elim
      · exact h.elim
    · exact h.elim
  | box e x =>
    simp only [compI] at h
    split at h
    · rename_i hok
      simp only [iop] at h
      split at h
      · rename_i cs hcs
        obtain ⟨hl, h⟩ := h
        intro S W0 a w ha hr
        have hv := ha x (by simp [Op.operands])
        obtain ⟨c1, c2⟩ := cells_sound hv hcs
        have hrun : (execOp a ⟨dst, .box e x, type, pos, after, guard⟩).run P w = .ok (.value (.pointer (some ⟨w.heap.size, 0, none⟩))) (w.alloc (.cells (a x).cells e)) := rfl
        rw [hrun]
        obtain ⟨h1, h2, h3⟩ := evo_alloc hr cs (a x).cells e (by omega) c2
        exact ⟨S, _, _, h2, h3, .pl _, h _ h1⟩
      · exact h.elim
    · exact h.elim
  | buildSlice t n parts =>
    simp only [compI] at h
    split at h
    · rename_i e hu
      split at h
      · rename_i z ps hz hps
        split at h
        · rename_i hcond
          obtain ⟨hzl, hszp, hle⟩ := hcond
          split at hps
          · rename_i hok
            simp only [iop] at h
            split at h
            · rename_i cs hf
              intro S W0 a w ha hr
              obtain ⟨v, hv1, hv2⟩ := zero_run hz w
              have hvs : v.cells.size = P.cellsOf e := by rw [← hzl, hv2]; simp
              have hvp : 0 < v.cells.size := by
                rw [hvs]; exact hszp
              have hrep := rep_sound (S := S) (w := w) v n hvp
              rw [← hv2] at hrep
              obtain ⟨D, hD, hvD⟩ := fill_sound (S := S) (w := w) (a := a) parts.toList ps _ cs _ (fun p hp => ha p.2 (by simp only [Op.operands]; simp; exact ⟨p.1, by simpa using hp⟩)) hps hrep hf
              have hrun : (Instr.buildSlice t n (parts.map fun (i, x) => (i, a x))).run P w = .ok (.slice (some ⟨w.heap.size, 0, none⟩) n n) (w.alloc (.cells D e)) := by
                unfold Instr.buildSlice
                rw [run_bind (underlying_run hu w)]
                simp only
                rw [run_bind (sizeOf_run hok w)]
                rw [if_neg (by omega)]
                rw [hvs] at hD
                by_cases hn0 : n = 0
                · subst hn0
                  rw [if_pos (by simp)]
                  rw [run_bind (a := #[]) (w' := w) rfl]
                  have hD' : Instr.fill (fun i => some (i * P.cellsOf e, P.cellsOf e)) #[] (parts.map fun (i, x) => (i, a x)).toList = some D := by
                    rw [Array.toList_map]
                    simpa [show Array.range 0 = #[] from rfl] using hD
                  have e0 : (Array.range (0 * P.cellsOf e)).map ((#[] : Array Value)[· % (#[] : Array Value).size]!) = #[] := by simp [show Array.range 0 = #[] from rfl]
                  rw [e0, hD']
                  rfl
                · rw [if_neg (fun h0 => by rcases Nat.mul_eq_zero.1 h0 with h1 | h1 <;> omega)]
                  rw [run_bind hv1]
                  rw [run_bind (a := v.cells) (w' := w) rfl]
                  rw [Array.toList_map]
                  rw [hvs, hD]
                  rfl
              have hDs : D.size = n * P.cellsOf e := by
                rw [← hvD.1]
                have gen : ∀ (ps : List ((Nat × Nat) × AV)) (cs out : List AV), fillA cs ps = some out → out.length = cs.length := by
                  intro ps
                  induction ps with
                  | nil => intro cs out h; simp only [fillA, Option.some.injEq] at h; rw [h]
                  | cons p ps ih =>
                    intro cs out h
                    obtain ⟨⟨off, sz⟩, y⟩ := p
                    simp only [fillA] at h
                    split at h
                    · split at h
                      · rename_i hc; rw [ih _ _ h]; simp; omega
                      · cases h
                    · cases h
                rw [gen _ _ _ hf]
                simp [hzl]
              have hexec : (execOp a ⟨dst, .buildSlice t n parts, type, pos, after, guard⟩).run P w = .ok (.value (.slice (some ⟨w.heap.size, 0, none⟩) n n)) (w.alloc (.cells D e)) := by
                simp only [execOp]
                rw [run_bind hrun]
                rfl
              rw [hexec]
              obtain ⟨h1, h2, h3⟩ := evo_alloc hr cs D e (by rw [hvD.1]; exact Nat.le_refl _) hvD.2
              refine ⟨S, _, _, h2, h3, ?_, h _ h1⟩
              exact .sl _ 0 n _ n true D e (0, 0) (by show (w.heap.push _)[w.heap.size]? = _; simp) (by omega) (Nat.le_refl _) (fun _ => rfl)
            · exact h.elim
          · cases hps
        · exact h.elim
      · exact h.elim
    · exact h.elim
  | store t x y =>
    simp only [compI] at h
    split at h
    · rename_i hok
      simp only [iop] at h
      split at h
      · rename_i b o ds hx hy
        split at h
        · rename_i cs hH
          obtain ⟨hl, hle, hone, h⟩ := h
          intro S W0 a w ha hr
          have h1 := ha x (by simp [Op.operands])
          have h2 := ha y (by simp [Op.operands])
          rw [hx] at h1
          obtain ⟨w', g1, g2, g3⟩ := store_sound hok hH hy hl hle hone hr h2
          have hexec : (execOp a ⟨dst, .store t x y, type, pos, after, guard⟩).run P w = .ok .skip w' := by
            simp only [execOp, h1.pl_inv]
            rw [run_bind g1]
            rfl
          rw [hexec]
          exact ⟨S, undefA, _, g2, g3, .pl _, h⟩
        · exact h.elim
      · exact h.elim
    · exact h.elim
  | call c =>
    obtain ⟨callee, args, argTypes⟩ := c
    cases callee with
    | value f =>
      cases f with
      | func f =>
        simp only [compI] at h
        split at h
        · rename_i hg
          simp only [iop] at h
          intro S W0 a w ha hr
          have hf := ha (.func f) (by simp [Op.operands, Call.operands])
          rw [hρ f] at hf
          have hexec : (execOp a ⟨dst, .call ⟨.value (.func f), args, argTypes⟩, type, pos, after, guard⟩).run P w = .ok (.enter f (args.map a)) w := by
            simp only [execOp, resolve, hf.pl_inv, Deferred.ofValue]
            rw [run_bind (a := (⟨.fn (.func f) #[], #[] ++ args.map a⟩ : Deferred)) (w' := w) rfl]
            simp only [invoke]
            rw [callFunc_run hg]
            simp
          rw [hexec]
          exact call_op hr h (VRs_map fun x hx => ha x (by simp [Op.operands, Call.operands, hx]))
        · exact h.elim
      | tmp t =>
        simp only [compI, iop] at h
        have key : ∀ (a : Operand → Value) w (g : FuncId) (fv cv : Array Value), goodCallee P g = true → a (.tmp t) = .func (.func g) fv cv →
            (execOp a ⟨dst, .call ⟨.value (.tmp t), args, argTypes⟩, type, pos, after, guard⟩).run P w = .ok (.enter g (fv ++ args.map a ++ cv)) w := by
          intro a w g fv cv hg hf
          simp only [execOp, resolve, hf, Deferred.ofValue]
          rw [run_bind (a := (⟨.fn (.func g) cv, fv ++ args.map a⟩ : Deferred)) (w' := w) rfl]
          simp only [invoke]
          rw [callFunc_run hg]
        split at h
        · rename_i g first cap hx
          obtain ⟨hg, h⟩ := h
          intro S W0 a w ha hr
          have hv := ha (.tmp t) (by simp [Op.operands, Call.operands])
          rw [hx] at hv
          have hargs := VRs_map (args := args) fun x hx => ha x (by simp [Op.operands, Call.operands, hx])
          generalize hu : a (.tmp t) = u at hv
          cases hv with
          | fn _ _ _ fv cv h1 h2 h3 h4 =>
            rw [key a w g fv cv hg hu]
            refine call_op hr h ⟨?_, fun j x v hx' hv' => ?_⟩
            · have := hargs.1
              simp at this ⊢
              omega
            · rw [List.append_assoc, List.getElem?_append] at hx'
              simp only [Array.toList_append] at hv'
              rw [List.append_assoc, List.getElem?_append] at hv'
              have e1 : fv.toList.length = first.length := by simpa using h1.symm
              rw [e1] at hv'
              split at hx'
              · rename_i hj
                rw [if_pos hj] at hv'
                exact h3 j x v hx' (by simpa using hv')
              · rename_i hj
                rw [if_neg hj, List.getElem?_append] at hv'
                rw [List.getElem?_append] at hx'
                rw [hargs.1] at hx'
                split at hx'
                · rename_i hj2
                  rw [if_pos hj2] at hv'
                  exact hargs.2 _ x v hx' hv'
                · rename_i hj2
                  rw [if_neg hj2] at hv'
                  exact h4 _ x v hx' (by simpa using hv')
        · rename_i g fv cv hx
          obtain ⟨rfl, rfl, hg, h⟩ := h
          intro S W0 a w ha hr
          have hv := ha (.tmp t) (by simp [Op.operands, Call.operands])
          rw [hx] at hv
          rw [key a w g #[] #[] hg hv.pl_inv]
          have e : #[] ++ args.map a ++ #[] = args.map a := by simp
          rw [e]
          exact call_op hr h (VRs_map fun x hx => ha x (by simp [Op.operands, Call.operands, hx]))
        · rename_i l fv cv hx
          obtain ⟨rfl, rfl, h⟩ := h
          intro S W0 a w ha hr
          have hv := ha (.tmp t) (by simp [Op.operands, Call.operands])
          rw [hx] at hv
          have hexec : (execOp a ⟨dst, .call ⟨.value (.tmp t), args, argTypes⟩, type, pos, after, guard⟩).run P w = (Instr.yield l (args.map a)).run P w := by
            simp only [execOp, resolve, hv.pl_inv, Deferred.ofValue]
            rw [run_bind (a := (⟨.fn (.yield l) #[], #[] ++ args.map a⟩ : Deferred)) (w' := w) rfl]
            simp [invoke]
          rw [hexec]
          obtain ⟨fn, tm, as, bd, h1, h2⟩ := h S W0 w (args.map a) hr (VRs_map fun x hx => ha x (by simp [Op.operands, Call.operands, hx]))
          rw [h1]
          refine RoundIn.mono h2 ?_
          rintro e w' ⟨u, S', x, H', rfl, h3, h4, h5, h6⟩
          exact ⟨S', x, H', h3, h4, h5, h6⟩
        · exact h.elim
      | _ => simp only [compI, iop] at h
    | builtin b =>
      cases b with
      | delete => exact mdel_ef h
      | append =>
        simp only [compI] at h
        split at h
        · rename_i x y t t' hargs htypes
          obtain rfl : args = #[x, y] := by apply Array.toList_inj.1; exact hargs
          obtain rfl : argTypes = #[t, t'] := by apply Array.toList_inj.1; exact htypes
          split at h
          · rename_i e hu
            split at h
            · rename_i z hz
              split at h
              · rename_i hcond
                obtain ⟨rfl, hok, hzl, hszp, hbyp⟩ := hcond
                obtain ⟨⟨ti, hti⟩, _⟩ := okT_parts hok
                have hsz : ti.size = P.cellsOf e := by simp [Program.cellsOf, hti]
                have hby : ti.bytes = P.bytesOf e := by simp [Program.bytesOf, hti]
                obtain ⟨zv, hzv, hzc⟩ : ∃ zv, ti.zero = some zv ∧ z = zv.cells.toList.map .pl := by
                  simp only [zeroA, hti, Option.bind_some, Option.map_eq_some_iff] at hz
                  obtain ⟨zv, h1, h2⟩ := hz
                  exact ⟨zv, h1, h2.symm⟩
                have hzs : zv.cells.size = P.cellsOf e := by rw [← hzl, hzc]; simp
                simp only [iop] at h
                obtain ⟨m, ns, h, hnl, hns⟩ := news_sound h
                obtain ⟨hone, h⟩ := h
                have hexec : ∀ (a : Operand → Value) (w w' : World) (r : Value), (Builtin.append_ #[t, t] type #[a x, a y]).run P w = .ok r w' →
                    (execOp a ⟨dst, .call ⟨.builtin .append, #[x, y], #[t, t]⟩, type, pos, after, guard⟩).run P w = .ok (.value r) w' := by
                  intro a w w' r hrun
                  simp only [execOp, resolve]
                  rw [run_bind (a := (⟨.builtin .append #[t, t] type (#[x, y].map fun | .const _ => true | _ => false), #[x, y].map a⟩ : Deferred)) (w' := w) rfl]
                  simp only [invoke, builtin]
                  have e1 : #[x, y].map a = #[a x, a y] := by simp
                  rw [e1, run_bind hrun]
                  rfl
                have c_one : ∀ (S : Nat → Prop) (w : World) (C : List Value), VRs S w ns C → ∀ u ∈ C, u.oneCell' = true := by
                  intro S w C hC u hu
                  obtain ⟨j, hj⟩ := List.getElem?_of_mem hu
                  have hlt : j < ns.length := by rw [hC.1]; exact (List.getElem?_eq_some_iff.1 hj).1
                  exact (hC.2 j _ u (List.getElem?_eq_getElem hlt) hj).one (List.all_eq_true.1 hone _ (List.getElem_mem _))
                -- a new row
                have grown : ∀ (S : Nat → Prop) (W0 w : World) (Hx : AH) (olds : List AV) (D C : List Value) (need cap : Nat), Evo S H w S Hx w → RH S W0 Hx w → VRs S w olds D → VRs S w ns C → (olds ++ ns).length = need * P.cellsOf e → need ≤ cap →
                    Hx w.heap.size = none ∧ Evo S H w S (upd Hx w.heap.size (.cells (olds ++ ns))) (w.drew.alloc (.cells (D.toArray ++ C.toArray ++ Builtin.zeroCells zv.cells (cap - need)) e)) ∧
                      RH S W0 (upd Hx w.heap.size (.cells (olds ++ ns))) (w.drew.alloc (.cells (D.toArray ++ C.toArray ++ Builtin.zeroCells zv.cells (cap - need)) e)) ∧
                      VR S (w.drew.alloc (.cells (D.toArray ++ C.toArray ++ Builtin.zeroCells zv.cells (cap - need)) e)) (.sl w.heap.size 0 need (P.cellsOf e) false) (.slice (some ⟨w.heap.size, 0, none⟩) need cap) := by
                  intro S W0 w Hx olds D C need cap hE hR hD hC hlen hcap
                  have hR' : RH S W0 Hx w.drew := ⟨hR.below.drew, hR.sub, hR.bound, hR.lt, hR.free, fun k o hk => (hR.obj k o hk).evo hR (⟨Nat.le_refl _, fun _ _ _ => rfl, fun _ C _ F h => ⟨C, F, h, rfl⟩, fun _ h => h, fun _ h => .inl h, fun _ => .inr (.inl rfl)⟩ : Evo S Hx w S Hx w.drew) rfl⟩
                  have hE' : Evo S H w S Hx w.drew := ⟨hE.size, hE.same, hE.cells, hE.up, hE.new, hE.dom⟩
                  have hsize : (D.toArray ++ C.toArray ++ Builtin.zeroCells zv.cells (cap - need)).size = cap * P.cellsOf e := by
                    simp only [Array.size_append, List.size_toArray, Builtin.zeroCells, Array.size_map, Array.size_range, hzs]
                    have h1 := hD.1
                    have h2 := hC.1
                    have h3 : olds.length + ns.length = need * P.cellsOf e := by simpa using hlen
                    have h4 : cap = need + (cap - need) := by omega
                    conv => rhs; rw [h4, Nat.add_mul]
                    omega
                  have hval : ∀ (j : Nat) (a : AV) (v : Value), (olds ++ ns)[j]? = some a → (D.toArray ++ C.toArray ++ Builtin.zeroCells zv.cells (cap - need))[j]? = some v → VR S w.drew a v := by
                    intro j x v hx hv
                    have back : VR S w x v → VR S w.drew x v := fun h => h.evo hR (⟨Nat.le_refl _, fun _ _ _ => rfl, fun _ C _ F h => ⟨C, F, h, rfl⟩, fun _ h => h, fun _ h => .inl h, fun _ => .inr (.inl rfl)⟩ : Evo S Hx w S Hx w.drew)
                    apply back
                    rw [List.getElem?_append] at hx
                    rw [Array.append_assoc, Array.getElem?_append] at hv
                    have e1 : D.toArray.size = olds.length := by simp [hD.1]
                    rw [e1] at hv
                    split at hx
                    · rename_i hj
                      rw [if_pos hj] at hv
                      exact hD.2 j x v hx (by simpa using hv)
                    · rename_i hj
                      rw [if_neg hj, Array.getElem?_append] at hv
                      have hlt : j - olds.length < ns.length := (List.getElem?_eq_some_iff.1 hx).1
                      rw [if_pos (by simp only [List.size_toArray]; rw [← hC.1]; exact hlt)] at hv
                      exact hC.2 _ x v hx (by simpa using hv)
                  have hal := evo_alloc hR' (olds ++ ns) (D.toArray ++ C.toArray ++ Builtin.zeroCells zv.cells (cap - need)) e (by rw [hsize, hlen]; exact Nat.mul_le_mul_right _ hcap) hval
                  refine ⟨hal.1, hE'.trans hal.2.1, hal.2.2, ?_⟩
                  refine .sl _ 0 need _ cap false (D.toArray ++ C.toArray ++ Builtin.zeroCells zv.cells (cap - need)) e (0, 0) ?_ (by rw [hsize]; omega) hcap (fun h => by cases h)
                  show (w.heap.push _)[w.heap.size]? = _
                  simp
                have drop : ∀ (S : Nat → Prop) (W0 w : World) (b : Nat), RH S W0 H w → Evo S H w S (del H b) w ∧ RH S W0 (del H b) w := by
                  intro S W0 w b hr
                  have sub : ∀ k o, del H b k = some o → H k = some o := by
                    intro k o hk
                    unfold del at hk
                    split at hk
                    · cases hk
                    · exact hk
                  refine ⟨⟨Nat.le_refl _, fun _ _ _ => rfl, fun _ C _ F h => ⟨C, F, h, rfl⟩, fun _ h => h, fun _ h => .inl h, fun k => ?_⟩, ⟨hr.below, hr.sub, hr.bound, fun k o hk => hr.lt k o (sub k o hk), fun k hk => hr.free k (kd_del_2 hk), fun k o hk => hr.obj k o (sub k o hk)⟩⟩
                  rw [kd_del]
                  split
                  · exact .inl rfl
                  · exact .inr (.inl rfl)
                have capge : ∀ (w : World) (need old : Nat), need ≤ grownCap w need old e := fun w need old => by simp [grownCap, Question.cut]
                intro S W0 a w ha hr
                have hx := ha x (by simp [Op.operands, Call.operands])
                have hy := ha y (by simp [Op.operands, Call.operands])
                obtain ⟨ad, c, hyv, hyd⟩ := hns S W0 w _ hr hy
                split at h
                · -- nil
                  rename_i hx0
                  rw [hx0] at hx
                  obtain ⟨hb, h0, h1⟩ := h
                  by_cases hm : m = 0
                  · rw [hexec a w w (.slice none 0 0) (by rw [hx.pl_inv, hyv, hm]; exact run_append_zero hu hti none 0 0 (Nat.le_refl _) ad c)]
                    exact ⟨S, _, H, Evo.refl _ _ _, hr, .pl _, h0 hm⟩
                  · rcases hyd with hm0 | ⟨a0, C, rfl, hC, hcell⟩
                    · exact absurd hm0 hm
                    · have hl : C.length = m * ti.size := by rw [← hC.1, hnl, hsz]
                      have hmb : m * 1 ≤ m * ti.bytes := Nat.mul_le_mul_left _ (by rw [hby]; exact hbyp)
                      have hrun := run_append_nil (P := P) w t type e ti zv hu hti hzv a0 m c C hl hcell (by omega) (by rw [hby] at hmb; omega) (by rw [hby]; omega)
                      rw [hexec a w _ _ (by rw [hx.pl_inv, hyv]; exact hrun)]
                      have g := grown S W0 w H [] [] C m (grownCap w m 0 e) (Evo.refl _ _ _) hr ⟨rfl, fun j a v ha _ => by simp at ha⟩ hC (by simpa using hnl) (capge _ _ _)
                      simp only [List.nil_append] at g
                      have e0 : ([] : List Value).toArray ++ C.toArray = C.toArray := by simp
                      rw [e0] at g
                      exact ⟨S, _, _, g.2.1, g.2.2.1, g.2.2.2, h1 hm _ g.1⟩
                · -- a row of one's own
                  rename_i b n sz' xf hx0
                  rw [hx0] at hx
                  obtain ⟨rfl, h⟩ := h
                  split at h
                  · rename_i cs hH
                    obtain ⟨hle, hb, h⟩ := h
                    obtain ⟨C0, T, o1, o2, o3⟩ := hr.obj b _ hH
                    generalize hxv : a x = xv at hx
                    cases hx with
                    | sl _ _ _ _ cap _ C1 T1 F1 g1 g2 g3 g4 =>
                      rw [o1] at g1
                      simp only [Option.some.injEq, Obj.cells.injEq] at g1
                      obtain ⟨rfl, rfl, rfl⟩ := g1
                      have holds : VRs S w (cs.take (n * P.cellsOf e)) (C0.toList.take (n * P.cellsOf e)) := by
                        refine ⟨by simp; omega, fun j a v ha hv => ?_⟩
                        rw [List.getElem?_take] at ha hv
                        split at ha
                        · rename_i hj
                          rw [if_pos hj] at hv
                          exact o3 j a v ha (by simpa using hv)
                        · cases ha
                      have hupd : upd (del H b) b (.cells (cs.take (n * P.cellsOf e) ++ ns)) = upd H b (.cells (cs.take (n * P.cellsOf e) ++ ns)) := by
                        funext k
                        simp only [upd, del]
                        split <;> rfl
                      by_cases hm : m = 0
                      · -- nothing
                        have hns0 : ns = [] := List.eq_nil_of_length_eq_zero (by rw [hnl, hm]; simp)
                        rw [hexec a w w (.slice (some ⟨b, 0, none⟩) n cap) (by rw [hxv, hyv, hm]; exact run_append_zero hu hti _ n cap g3 ad c)]
                        have ev := evo_write (cs := cs.take (n * P.cellsOf e) ++ ns) (C' := C0) hr hH o1 rfl rfl rfl rfl (fun _ _ => rfl) o1 rfl (by rw [hns0]; simp; omega) (by
                          intro j a v ha hv
                          rw [hns0, List.append_nil, List.getElem?_take] at ha
                          split at ha
                          · exact o3 j a v ha hv
                          · cases ha)
                        have hk := h b (.inl rfl)
                        rw [hupd] at hk
                        refine ⟨S, _, _, ev.1, ev.2, ?_, hk⟩
                        rw [hm]
                        exact .sl b 0 n _ cap false C0 T (0, 0) o1 g2 g3 (fun h => by cases h)
                      · rcases hyd with hm0 | ⟨a0, C, rfl, hC, hcell⟩
                        · exact absurd hm0 hm
                        · have hl : C.length = m * ti.size := by rw [← hC.1, hnl, hsz]
                          have hnm : (n + m) * 1 ≤ (n + m) * ti.bytes := Nat.mul_le_mul_left _ (by rw [hby]; exact hbyp)
                          by_cases hroom : n + m ≤ cap
                          · -- in place
                            have hfit : n * ti.size + C.length ≤ C0.size := by
                              rw [hl, hsz, ← Nat.add_mul]
                              have := Nat.mul_le_mul_right (P.cellsOf e) hroom
                              omega
                            have hrun := run_append_in (P := P) (ty := type) hu hti b n cap C0 T o1 a0 m c C hl hcell (c_one S w C hC) hroom hfit
                            rw [hexec a w _ _ (by rw [hxv, hyv]; exact hrun)]
                            have hsz2 : (C0.toList.take (n * ti.size) ++ C ++ C0.toList.drop (n * ti.size + C.length)).toArray.size = C0.size := by simp; omega
                            have hCl : C.length = ns.length := hC.1.symm
                            have ev := evo_write (w' := w.setRow b (C0.toList.take (n * ti.size) ++ C ++ C0.toList.drop (n * ti.size + C.length)).toArray) (cs := cs.take (n * P.cellsOf e) ++ ns) (C' := (C0.toList.take (n * ti.size) ++ C ++ C0.toList.drop (n * ti.size + C.length)).toArray) hr hH o1 rfl rfl rfl (setRow_size _ _ _) (fun k hk => setRow_other _ _ _ _ hk) (setRow_heap w b C0 _ T _ o1) hsz2 (by
                              rw [hsz2]
                              have : (cs.take (n * P.cellsOf e) ++ ns).length ≤ n * ti.size + C.length := by
                                rw [hsz]; simp; omega
                              omega) (by
                              intro j x v hx' hv
                              have hv' : (C0.toList.take (n * ti.size) ++ C ++ C0.toList.drop (n * ti.size + C.length))[j]? = some v := by simpa using hv
                              rw [List.getElem?_append] at hx'
                              rw [List.append_assoc, List.getElem?_append] at hv'
                              have e1 : (cs.take (n * P.cellsOf e)).length = n * P.cellsOf e := by simp; omega
                              have e2 : (C0.toList.take (n * ti.size)).length = n * P.cellsOf e := by rw [hsz]; simp; omega
                              rw [e1] at hx'
                              rw [e2] at hv'
                              split at hx'
                              · rename_i hj
                                rw [if_pos hj, hsz] at hv'
                                exact holds.2 j x v hx' hv'
                              · rename_i hj
                                rw [if_neg hj, List.getElem?_append] at hv'
                                have hlt : j - n * P.cellsOf e < ns.length := (List.getElem?_eq_some_iff.1 hx').1
                                rw [if_pos (by omega)] at hv'
                                exact hC.2 _ x v hx' hv')
                            have hk := h b (.inl rfl)
                            rw [hupd] at hk
                            refine ⟨S, _, _, ev.1, ev.2, ?_, hk⟩
                            exact .sl b 0 (n + m) _ cap false _ T (0, 0) (setRow_heap w b C0 _ T _ o1) (by rw [hsz2]; exact g2) hroom (fun h => by cases h)
                          · -- a new block
                            have hlo : (C0.toList.take (n * P.cellsOf e)).length = n * ti.size := by rw [hsz]; simp; omega
                            have hcellsO : ∀ (j : Nat) (v : Value), (C0.toList.take (n * P.cellsOf e))[j]? = some v → w.cell? ((⟨b, 0, none⟩ : Addr).add j) = some v := by
                              intro j v hv
                              rw [List.getElem?_take] at hv
                              split at hv
                              · rw [Addr.add_plain, cell_of_cells o1]
                                simpa using hv
                              · cases hv
                            have hrun := run_append_grow (P := P) w t type e ti zv hu hti hzv ⟨b, 0, none⟩ n cap _ hlo hcellsO a0 m c C hl hcell (by omega) (by rw [hby] at hnm; omega) (growslice_fits (by omega) (by rw [hby]; exact hb))
                            rw [hexec a w _ _ (by rw [hxv, hyv]; exact hrun)]
                            have hd := drop S W0 w b hr
                            have g := grown S W0 w (del H b) (cs.take (n * P.cellsOf e)) _ C (n + m) (grownCap w (n + m) cap e) hd.1 hd.2 holds hC (by rw [List.length_append, hnl, Nat.add_mul]; simp; omega) (capge _ _ _)
                            have hfree : H w.heap.size = none := by
                              cases e : H w.heap.size with
                              | none => rfl
                              | some o => exact absurd (hr.lt _ o e) (by omega)
                            exact ⟨S, _, _, g.2.1, g.2.2.1, g.2.2.2, h _ (.inr hfree)⟩
                  · exact h.elim
                · -- what stays, and is full
                  rename_i n cs hx0
                  rw [hx0] at hx
                  obtain ⟨hle, hb, h0, h1⟩ := h
                  generalize hxv : a x = xv at hx
                  have hx' := hx
                  cases hx with
                  | vnil _ ad0 c0 hc0 =>
                    obtain rfl := hc0 rfl
                    have hb : m * P.bytesOf e ≤ 140737488355328 := by simpa using hb
                    by_cases hm : m = 0
                    · rw [hexec a w w (.slice ad0 0 0) (by rw [hxv, hyv, hm]; exact run_append_zero hu hti ad0 0 0 (Nat.le_refl _) ad c)]
                      exact ⟨S, _, H, Evo.refl _ _ _, hr, hx', h0 hm⟩
                    · rcases hyd with hm0 | ⟨a0, C, rfl, hC, hcell⟩
                      · exact absurd hm0 hm
                      · have hl : C.length = m * ti.size := by rw [← hC.1, hnl, hsz]
                        have hmb : m * 1 ≤ m * ti.bytes := Nat.mul_le_mul_left _ (by rw [hby]; exact hbyp)
                        have g := grown S W0 w H [] [] C m (grownCap w m 0 e) (Evo.refl _ _ _) hr ⟨rfl, fun j a v ha _ => by simp at ha⟩ hC (by simpa using hnl) (capge _ _ _)
                        simp only [List.nil_append] at g
                        have e0 : ([] : List Value).toArray ++ C.toArray = C.toArray := by simp
                        have hk := h1 hm _ g.1
                        simp only [Nat.zero_mul, List.take_zero, List.nil_append, Nat.zero_add] at hk
                        cases ad0 with
                        | none =>
                          have hrun := run_append_nil (P := P) w t type e ti zv hu hti hzv a0 m c C hl hcell (by omega) (by rw [hby] at hmb; omega) (by rw [hby]; omega)
                          rw [hexec a w _ _ (by rw [hxv, hyv]; exact hrun)]
                          rw [e0] at g
                          exact ⟨S, _, _, g.2.1, g.2.2.1, g.2.2.2, hk⟩
                        | some b0 =>
                          have hrun := run_append_grow (P := P) w t type e ti zv hu hti hzv b0 0 0 [] (by simp) (fun j v hj => by simp at hj) a0 m c C hl hcell (by omega) (by rw [hby] at hmb; omega) (growslice_fits (by omega) (by rw [hby]; omega))
                          simp only [Nat.zero_add] at hrun
                          rw [hexec a w _ _ (by rw [hxv, hyv]; exact hrun)]
                          exact ⟨S, _, _, g.2.1, g.2.2.1, g.2.2.2, hk⟩
                  | vs b o _ cap _ _ f hS hn hxx hbl hc hv =>
                    have hcn : cap = n := hxx rfl
                    subst hcn
                    by_cases hm : m = 0
                    · rw [hexec a w w (.slice (some ⟨b, o, none⟩) cap cap) (by rw [hxv, hyv, hm]; exact run_append_zero hu hti _ cap cap (Nat.le_refl _) ad c)]
                      exact ⟨S, _, H, Evo.refl _ _ _, hr, hx', h0 hm⟩
                    · rcases hyd with hm0 | ⟨a0, C, rfl, hC, hcell⟩
                      · exact absurd hm0 hm
                      · have hl : C.length = m * ti.size := by rw [← hC.1, hnl, hsz]
                        have hnm : (cap + m) * 1 ≤ (cap + m) * ti.bytes := Nat.mul_le_mul_left _ (by rw [hby]; exact hbyp)
                        have holds : VRs S w (cs.take (cap * P.cellsOf e)) ((List.range (cap * P.cellsOf e)).map f) := by
                          refine ⟨by simp; omega, fun j a v ha hv' => ?_⟩
                          rw [List.getElem?_take] at ha
                          split at ha
                          · rename_i hj
                            have e : ((List.range (cap * P.cellsOf e)).map f)[j]? = some (f j) := by simp [hj]
                            rw [e] at hv'
                            obtain rfl := Option.some.inj hv'
                            exact hv j a ha
                          · cases ha
                        have hlo : ((List.range (cap * P.cellsOf e)).map f).length = cap * ti.size := by rw [hsz]; simp
                        have hcellsO : ∀ (j : Nat) (v : Value), ((List.range (cap * P.cellsOf e)).map f)[j]? = some v → w.cell? ((⟨b, o, none⟩ : Addr).add j) = some v := by
                          intro j v hv'
                          have hj : j < cap * P.cellsOf e := by
                            have := (List.getElem?_eq_some_iff.1 hv').1
                            simpa using this
                          have e : ((List.range (cap * P.cellsOf e)).map f)[j]? = some (f j) := by simp [hj]
                          rw [e] at hv'
                          obtain rfl := Option.some.inj hv'
                          rw [Addr.add_plain]
                          exact hc j _ (List.getElem?_eq_getElem (by omega))
                        have hrun := run_append_grow (P := P) w t type e ti zv hu hti hzv ⟨b, o, none⟩ cap cap _ hlo hcellsO a0 m c C hl hcell (by omega) (by rw [hby] at hnm; omega) (growslice_fits (by omega) (by rw [hby]; exact hb))
                        rw [hexec a w _ _ (by rw [hxv, hyv]; exact hrun)]
                        have g := grown S W0 w H (cs.take (cap * P.cellsOf e)) _ C (cap + m) (grownCap w (cap + m) cap e) (Evo.refl _ _ _) hr holds hC (by rw [List.length_append, hnl, Nat.add_mul]; simp; omega) (capge _ _ _)
                        exact ⟨S, _, _, g.2.1, g.2.2.1, g.2.2.2, h1 hm _ g.1⟩
                · exact h.elim
              · split at h
                · rename_i kn hu'
                  split at h
                  · rename_i hcond
                    obtain ⟨hok, hzl, hszp, hbyp⟩ := hcond
                    exact apz_ef hu hu' hz hok hzl hszp hbyp h
                  · exact h.elim
                · exact h.elim
            · exact h.elim
          · exact h.elim
        · exact h.elim
      | clear =>
        simp only [compI] at h
        split at h
        · rename_i x t hargs htypes
          obtain rfl : args = #[x] := by apply Array.toList_inj.1; exact hargs
          obtain rfl : argTypes = #[t] := by apply Array.toList_inj.1; exact htypes
          split at h
          · rename_i e hu
            split at h
            · rename_i z hz
              split at h
              · rename_i hcond
                exact clr_ef hu hz hcond.1 hcond.2.1 hcond.2.2 h
              · exact h.elim
            · exact h.elim
          · exact h.elim
        · exact h.elim
      | _ => first | (simp [kindOf] at hk; done) | (simp only [compI, iop] at h; done)
    | invoke r m => simp only [compI, iop] at h
  | _ => first | (simp [kindOf] at hk; done) | (simp only [compI, iop] at h; done)
end
end Go.Ab
