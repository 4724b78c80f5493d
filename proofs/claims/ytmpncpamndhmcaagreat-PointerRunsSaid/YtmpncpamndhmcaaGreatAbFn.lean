/-
  That the operations on maps do what their instructions tell.
-/
import Derived.Test.YtmpncpamndhmcaaGreatAbFm
namespace Go.Ab
open Go.RowKit
open Go.ChangeMaps (setBlock)
set_option linter.unusedSimpArgs false
set_option linter.unusedVariables false

section
variable {P : Program} {ρ : Operand → AV} {H : AH} {k : AV → AH → Prop}

/-- A map of the view, in a world. -/
theorem map_world {S : Nat → Prop} {W0 w : World} {b : Nat} {es : List (Value × AV)} {st : List Nat} {cl : Nat} (hr : RH S W0 H w) (hH : H b = some (.map es st cl)) :
    ∃ en : Array MapEntry, w.heap[b]? = some (.map en cl) ∧ ME S w en.toList es ∧ en.size = st.length ∧ (∀ (j : Nat) (e : MapEntry) (s : Nat), en[j]? = some e → st[j]? = some s → e.born = s) := by
  obtain ⟨en, h1, h2, h3, h4, h5⟩ := hr.obj b _ hH
  exact ⟨en, h1, ME.of h2 h5, h3, h4⟩

theorem lookup_rd {dst : Option Tmp} {t : TypeId} {x i : Operand} {ok : Bool} {type : TypeId} {pos : String} {after : Array Edge} {guard : Option (Nat × Bool)} (h : iop P ρ H k (compI P (.lookup t x i ok))) :
    ∃ v, Rd P ⟨dst, .lookup t x i ok, type, pos, after, guard⟩ ρ H v ∧ k v H := by
  simp only [compI] at h
  split at h
  · rename_i ke e hu
    split at h
    · rename_i kk z hkk hz
      obtain ⟨d, hd⟩ : ∃ d, P.underlying ke = some d := by
        cases hh : P.underlying ke with
        | none => rw [hh] at hkk; cases hkk
        | some d => exact ⟨d, rfl⟩
      rw [hd] at hkk
      simp only [iop] at h
      split at h
      · rename_i kv hkv
        have fin : ∀ (v : AV) (w : World) (a : Operand → Value) (u : Value), (Instr.lookup t (a x) (a i) ok).run P w = .ok u w →
            (execOp a ⟨dst, .lookup t x i ok, type, pos, after, guard⟩).run P w = .ok (.value u) w := by
          intro v w a u hrun
          simp only [execOp]
          rw [run_bind hrun]
          rfl
        -- the zero value comes out
        have zer : ∀ (w : World) (kv' : Value) (b : Option Nat) (en : Array MapEntry) (cl : Nat), (b = none ∧ en = #[] ∨ ∃ m, b = some m ∧ w.heap[m]? = some (.map en cl)) → Instr.findNow d kv' en.toList 0 = some none →
            ∃ u, z = cv u ∧ (Instr.lookup t (.map b) kv' ok).run P w = .ok (if ok then .tuple #[u, .bool false] else u) w := by
          intro w kv' b en cl hb hf
          obtain ⟨u, h1, h2⟩ := zeroV_run hz w
          refine ⟨u, h2, ?_⟩
          rcases hb with ⟨rfl, rfl⟩ | ⟨m, rfl, hm⟩
          · cases ok <;> simp [Instr.lookup, underlying_run hu w, checkKey_run hd hkk _ _ w, findKey_run hd hf w, h1, Result.andThen]
          · cases ok <;> simp [Instr.lookup, underlying_run hu w, getMap_run hm, checkKey_run hd hkk _ _ w, findKey_run hd hf w, h1, Result.andThen]
        split at h
        · rename_i hx
          refine ⟨_, fun S W0 a w ha hr => ?_, h⟩
          have hxv := ha x (by simp [Op.operands])
          have hiv := ha i (by simp [Op.operands])
          rw [hx] at hxv
          rw [hkv] at hiv
          obtain ⟨u, h1, h2⟩ := zer w kv none #[] 0 (.inl ⟨rfl, rfl⟩) rfl
          refine ⟨_, fin .any w a _ (by rw [hxv.pl_inv, hiv.pl_inv]; exact h2), ?_⟩
          cases ok with
          | false => simp only [Bool.false_eq_true, if_false]; rw [h1]; exact .cv u
          | true =>
            simp only [if_true]
            refine .tp _ _ rfl fun j a v ha hv => ?_
            match j with
            | 0 => simp at ha hv; subst ha; subst hv; rw [h1]; exact .cv u
            | 1 => simp at ha hv; subst ha; subst hv; exact .pl _
            | j + 2 => simp at ha
        · obtain ⟨b, es, st, cl, hx, hH, h⟩ := map_read h
          split at h
          · rename_i j v hf
            refine ⟨_, fun S W0 a w ha hr => ?_, h⟩
            have hxv := ha x (by simp [Op.operands])
            have hiv := ha i (by simp [Op.operands])
            rw [hx] at hxv
            rw [hkv] at hiv
            obtain ⟨en, g1, g2, g3, g4⟩ := map_world hr hH
            obtain ⟨u, f1, f2, _⟩ := mfind_sound (S := S) (w := w) hkk en.toList es 0 _ g2 hf
            refine ⟨if ok then .tuple #[u, .bool true] else u, fin .any w a _ ?_, ?_⟩
            · rw [hxv.pl_inv, hiv.pl_inv]
              cases ok <;> simp [Instr.lookup, underlying_run hu w, getMap_run g1, checkKey_run hd hkk _ _ w, findKey_run hd f1 w, Result.andThen]
            · cases ok with
              | false => exact f2
              | true =>
                refine .tp _ _ rfl fun j a v' ha hv => ?_
                match j with
                | 0 => simp at ha hv; subst ha; subst hv; exact f2
                | 1 => simp at ha hv; subst ha; subst hv; exact .pl _
                | j + 2 => simp at ha
          · rename_i hf
            refine ⟨_, fun S W0 a w ha hr => ?_, h⟩
            have hxv := ha x (by simp [Op.operands])
            have hiv := ha i (by simp [Op.operands])
            rw [hx] at hxv
            rw [hkv] at hiv
            obtain ⟨en, g1, g2, g3, g4⟩ := map_world hr hH
            have f1 := mfind_sound (S := S) (w := w) hkk en.toList es 0 _ g2 hf
            obtain ⟨u, h1, h2⟩ := zer w kv (some b) en cl (.inr ⟨b, rfl, g1⟩) f1
            refine ⟨_, fin .any w a _ (by rw [hxv.pl_inv, hiv.pl_inv]; exact h2), ?_⟩
            cases ok with
            | false => simp only [Bool.false_eq_true, if_false]; rw [h1]; exact .cv u
            | true =>
              simp only [if_true]
              refine .tp _ _ rfl fun j a v ha hv => ?_
              match j with
              | 0 => simp at ha hv; subst ha; subst hv; rw [h1]; exact .cv u
              | 1 => simp at ha hv; subst ha; subst hv; exact .pl _
              | j + 2 => simp at ha
          · exact h.elim
      · exact h.elim
    · exact h.elim
  · exact h.elim

theorem mlen_rd {t : TypeId} {x : Operand} {ke e : TypeId} (hu : P.underlying t = some (.map ke e)) (h : iop P ρ H k (.mlen x)) (type : TypeId) :
    ∃ v, k v H ∧ ∀ S W0 (a : Operand → Value) w, RH S W0 H w → VR S w (ρ x) (a x) → ∃ u, (Builtin.len_ #[t] type #[a x]).run P w = .ok u w ∧ VR S w v u := by
  simp only [iop] at h
  split at h
  · rename_i hx
    refine ⟨_, h, fun S W0 a w hr hv => ⟨_, ?_, .pl _⟩⟩
    rw [hx] at hv
    rw [hv.pl_inv]
    simp only [Builtin.len_]
    show ((underlying t >>= fun d => _) : Sem Value).run P w = _
    rw [run_bind (underlying_run hu w)]
    rfl
  · obtain ⟨b, es, st, cl, hx, hH, h⟩ := map_read h
    refine ⟨_, h, fun S W0 a w hr hv => ⟨_, ?_, .pl _⟩⟩
    rw [hx] at hv
    rw [hv.pl_inv]
    obtain ⟨en, g1, g2, g3, g4⟩ := map_world hr hH
    have : en.size = es.length := by have := g2.1; simpa using this
    simp [Builtin.len_, underlying_run hu w, getMap_run g1, Result.andThen, goInt, this]

theorem mmk_ef {dst : Option Tmp} {t : TypeId} {r : Option Operand} {type : TypeId} {pos : String} {after : Array Edge} {guard : Option (Nat × Bool)} (h : iop P ρ H k (compI P (.makeMap t r))) : OpR P ⟨dst, .makeMap t r, type, pos, after, guard⟩ ρ H k := by
  cases r with
  | some r => simp only [compI, iop] at h
  | none =>
    simp only [compI, iop] at h
    intro S W0 a w ha hr
    have hrun : (execOp a ⟨dst, .makeMap t none, type, pos, after, guard⟩).run P w = .ok (.value (.map (some w.heap.size))) (w.alloc (.map #[] 0)) := rfl
    rw [hrun]
    obtain ⟨h1, h2, h3⟩ := evo_new hr (.map #[] 0) (a' := .map [] [] 0) rfl (fun S' w' _ hb => ⟨#[], hb, rfl, rfl, fun j e b hj => by simp at hj, fun j e p hj => by simp at hj⟩)
    exact ⟨S, _, _, h2, h3, .pl _, h _ h1⟩

/-- What an update of a map does. -/
theorem mupd_run {t ke e : TypeId} {kk : Nat} {d : TypeDesc} (hu : P.underlying t = some (.map ke e)) (hd : P.underlying ke = some d) (hkk : kkOf (some d) = some kk) {x i y : Operand} (h : iop P ρ H k (.mupd kk x i y))
    {S : Nat → Prop} {W0 w : World} {vx vi vy : Value} (hr : RH S W0 H w) (hx' : VR S w (ρ x) vx) (hi' : VR S w (ρ i) vi) (hy' : VR S w (ρ y) vy) :
    ∃ w' H', (Instr.mapUpdate t vx vi vy).run P w = .ok () w' ∧ Evo S H w S H' w' ∧ RH S W0 H' w' ∧ k undefA H' := by
  simp only [iop] at h
  split at h
  · rename_i kv hkv
    obtain ⟨b, es, st, cl, hx, hH, h⟩ := map_read h
    rw [hx] at hx'
    rw [hkv] at hi'
    rw [hx'.pl_inv, hi'.pl_inv]
    obtain ⟨en, g1, g2, g3, g4⟩ := map_world hr hH
    have gl : en.size = es.length := by have := g2.1; simpa using this
    have kdb : kd (H b) = 2 := by rw [hH]; rfl
    have hnc : ∀ C T F, (Obj.map en cl) ≠ .cells C T F := fun _ _ _ => by simp
    split at h
    · rename_i j u hf
      obtain ⟨uu, f1, f2, f3, en1, f4, f5, f6⟩ := mfind_sound (S := S) (w := w) hkk en.toList es 0 _ g2 hf
      have hj : en[j]? = some en1 := by simpa using f4
      have hrun : (Instr.mapUpdate t (.map (some b)) kv vy).run P w = .ok () (setBlock w b (.map (en.modify j fun e => { e with key := kv, val := vy }) cl)) := by
        simp [Instr.mapUpdate, underlying_run hu w, getMap_run g1, checkKey_run hd hkk _ _ w, findKey_run hd f1 w, hj, keyStays_run f5 w, setObj_run' g1 hnc, Result.andThen]
      obtain ⟨e1, e2⟩ := evo_put (.map (en.modify j fun e => { e with key := kv, val := vy }) cl) (a' := .map (es.set j (kv, ρ y)) st cl) hr kdb g1 hnc rfl (fun S' w' hev hb => by
        refine ⟨_, hb, by simp [gl], by simp [g3], fun q e s hq hs => ?_, fun q e p hq hp => ?_⟩
        · rw [Array.getElem?_modify] at hq
          split at hq
          · simp only [Option.map_eq_some_iff] at hq
            obtain ⟨e0, hq, rfl⟩ := hq
            exact g4 q e0 s hq hs
          · exact g4 q e s hq hs
        · rw [Array.getElem?_modify] at hq
          rw [List.getElem?_set] at hp
          split at hq
          · rename_i hjq
            subst hjq
            simp only [Option.map_eq_some_iff] at hq
            obtain ⟨e0, hq, rfl⟩ := hq
            have hlt : j < es.length := by rw [← gl]; exact (Array.getElem?_eq_some_iff.1 hq).1
            rw [if_pos rfl, if_pos hlt] at hp
            obtain rfl := Option.some.inj hp
            exact ⟨rfl, hy'.evo hr hev⟩
          · rename_i hjq
            rw [if_neg hjq] at hp
            have := g2.2 q e p (by simpa using hq) hp
            exact ⟨this.1, this.2.evo hr hev⟩)
      exact ⟨_, _, hrun, e1, e2, h⟩
    · rename_i hf
      have f1 := mfind_sound (S := S) (w := w) hkk en.toList es 0 _ g2 hf
      have hrun : (Instr.mapUpdate t (.map (some b)) kv vy).run P w = .ok () (setBlock w b (.map (en.push { key := kv, val := vy, born := cl }) (cl + 1))) := by
        simp [Instr.mapUpdate, underlying_run hu w, getMap_run g1, checkKey_run hd hkk _ _ w, findKey_run hd f1 w, setObj_run' g1 hnc, Result.andThen]
      obtain ⟨e1, e2⟩ := evo_put (.map (en.push { key := kv, val := vy, born := cl }) (cl + 1)) (a' := .map (es ++ [(kv, ρ y)]) (st ++ [cl]) (cl + 1)) hr kdb g1 hnc rfl (fun S' w' hev hb => by
        refine ⟨_, hb, by simp [gl], by simp [g3], fun q e s hq hs => ?_, fun q e p hq hp => ?_⟩
        · rw [Array.getElem?_push] at hq
          rw [List.getElem?_append] at hs
          split at hq
          · rename_i e0
            obtain rfl := Option.some.inj hq
            rw [if_neg (by omega)] at hs
            have : q - st.length = 0 := by omega
            rw [this] at hs
            simpa using hs
          · rename_i e0
            have hlt : q < en.size := by
              rcases Nat.lt_or_ge q en.size with h | h
              · exact h
              · rw [Array.getElem?_eq_none h] at hq; cases hq
            rw [if_pos (by omega)] at hs
            exact g4 q e s hq hs
        · rw [Array.getElem?_push] at hq
          rw [List.getElem?_append] at hp
          split at hq
          · rename_i e0
            obtain rfl := Option.some.inj hq
            rw [if_neg (by omega)] at hp
            have : q - es.length = 0 := by omega
            rw [this] at hp
            obtain rfl : (kv, ρ y) = p := by simpa using hp
            exact ⟨rfl, hy'.evo hr hev⟩
          · rename_i e0
            have hlt : q < en.size := by
              rcases Nat.lt_or_ge q en.size with h | h
              · exact h
              · rw [Array.getElem?_eq_none h] at hq; cases hq
            rw [if_pos (by omega)] at hp
            have := g2.2 q e p (by simpa using hq) hp
            exact ⟨this.1, this.2.evo hr hev⟩)
      exact ⟨_, _, hrun, e1, e2, h⟩
    · exact h.elim
  · exact h.elim

theorem mupd_ef {dst : Option Tmp} {t : TypeId} {x i y : Operand} {op : Op} (hop : op = .mapUpdate t x i y ∨ op = .insert t x i y) {type : TypeId} {pos : String} {after : Array Edge} {guard : Option (Nat × Bool)} (h : iop P ρ H k (compI P op)) : OpR P ⟨dst, op, type, pos, after, guard⟩ ρ H k := by
  have hc : compI P op = compI P (.mapUpdate t x i y) := by rcases hop with rfl | rfl <;> rfl
  rw [hc] at h
  simp only [compI] at h
  split at h
  · rename_i ke e hu
    split at h
    · rename_i kk hkk
      obtain ⟨d, hd⟩ : ∃ d, P.underlying ke = some d := by
        cases hh : P.underlying ke with
        | none => rw [hh] at hkk; cases hkk
        | some d => exact ⟨d, rfl⟩
      rw [hd] at hkk
      intro S W0 a w ha hr
      have hxv := ha x (by rcases hop with rfl | rfl <;> simp [Op.operands])
      have hiv := ha i (by rcases hop with rfl | rfl <;> simp [Op.operands])
      have hyv := ha y (by rcases hop with rfl | rfl <;> simp [Op.operands])
      obtain ⟨w', H', h1, h2, h3, h4⟩ := mupd_run hu hd hkk h hr hxv hiv hyv
      have hexec : (execOp a ⟨dst, op, type, pos, after, guard⟩).run P w = .ok .skip w' := by
        rcases hop with rfl | rfl <;> simp only [execOp] <;> rw [run_bind h1] <;> rfl
      rw [hexec]
      exact ⟨S, undefA, H', h2, h3, .pl _, h4⟩
    · exact h.elim
  · exact h.elim

theorem mdel_ef {dst : Option Tmp} {args : Array Operand} {argTypes : Array TypeId} {type : TypeId} {pos : String} {after : Array Edge} {guard : Option (Nat × Bool)} (h : iop P ρ H k (compI P (.call ⟨.builtin .delete, args, argTypes⟩))) :
    OpR P ⟨dst, .call ⟨.builtin .delete, args, argTypes⟩, type, pos, after, guard⟩ ρ H k := by
  simp only [compI] at h
  split at h
  · rename_i x i t t' hargs htypes
    obtain rfl : args = #[x, i] := by apply Array.toList_inj.1; exact hargs
    obtain rfl : argTypes = #[t, t'] := by apply Array.toList_inj.1; exact htypes
    split at h
    · rename_i ke e hu
      split at h
      · rename_i kk hkk
        obtain ⟨d, hd⟩ : ∃ d, P.underlying ke = some d := by
          cases hh : P.underlying ke with
          | none => rw [hh] at hkk; cases hkk
          | some d => exact ⟨d, rfl⟩
        rw [hd] at hkk
        simp only [iop] at h
        split at h
        · rename_i kv hkv
          obtain ⟨b, es, st, cl, hx, hH, h⟩ := map_read h
          intro S W0 a w ha hr
          have hxv := ha x (by simp [Op.operands, Call.operands])
          have hiv := ha i (by simp [Op.operands, Call.operands])
          rw [hx] at hxv
          rw [hkv] at hiv
          obtain ⟨en, g1, g2, g3, g4⟩ := map_world hr hH
          have gl : en.size = es.length := by have := g2.1; simpa using this
          have kdb : kd (H b) = 2 := by rw [hH]; rfl
          have hnc : ∀ C T F, (Obj.map en cl) ≠ .cells C T F := fun _ _ _ => by simp
          have hexec : ∀ w', (Builtin.delete_ #[t, t'] type #[.map (some b), kv]).run P w = .ok (.tuple #[]) w' →
              (execOp a ⟨dst, .call ⟨.builtin .delete, #[x, i], #[t, t']⟩, type, pos, after, guard⟩).run P w = .ok (.value (.tuple #[])) w' := by
            intro w' hrun
            simp only [execOp, resolve]
            rw [run_bind (a := (⟨.builtin .delete #[t, t'] type (#[x, i].map fun | .const _ => true | _ => false), #[x, i].map a⟩ : Deferred)) (w' := w) rfl]
            simp only [invoke, builtin]
            have e1 : #[x, i].map a = #[.map (some b), kv] := by simp [hxv.pl_inv, hiv.pl_inv]
            rw [e1, run_bind hrun]
            rfl
          have top : ∀ (r : Option (Nat × Value)) (w' : World), Instr.findNow d kv en.toList 0 = some r →
              ((match r with | some (i, _) => setObj b (.map (en.eraseIdxIfInBounds i) cl) | none => setObj b (.map en cl)) : Sem Unit).run P w = .ok () w' → (Builtin.delete_ #[t, t'] type #[.map (some b), kv]).run P w = .ok (.tuple #[]) w' := by
            intro r w' hf hs
            cases r with
            | none => simp [Builtin.delete_, underlying_run hu w, getMap_run g1, checkKey_run hd hkk _ _ w, findKey_run hd hf w, hs, Result.andThen]
            | some r => simp [Builtin.delete_, underlying_run hu w, getMap_run g1, checkKey_run hd hkk _ _ w, findKey_run hd hf w, hs, Result.andThen]
          split at h
          · rename_i j u hf
            obtain ⟨uu, f1, f2, f3, en1, f4, f5, f6⟩ := mfind_sound (S := S) (w := w) hkk en.toList es 0 _ g2 hf
            have hj : en[j]? = some en1 := by simpa using f4
            have hlt : j < en.size := (Array.getElem?_eq_some_iff.1 hj).1
            rw [hexec _ (top _ _ f1 (setObj_run' g1 hnc _))]
            have el : (en.eraseIdxIfInBounds j).toList = en.toList.eraseIdx j := by simp
            have eg : ∀ q : Nat, (en.eraseIdxIfInBounds j)[q]? = (en.toList.eraseIdx j)[q]? := fun q => by rw [← Array.getElem?_toList, el]
            obtain ⟨e1, e2⟩ := evo_put (.map (en.eraseIdxIfInBounds j) cl) (a' := .map (es.eraseIdx j) (st.eraseIdx j) cl) hr kdb g1 hnc rfl (fun S' w' hev hb => by
              have e3 : (en.eraseIdxIfInBounds j).size = en.size - 1 := by
                rw [← Array.length_toList, el, List.length_eraseIdx, Array.length_toList, if_pos hlt]
              refine ⟨_, hb, ?_, ?_, fun q e s hq hs => ?_, fun q e p hq hp => ?_⟩
              · rw [e3, List.length_eraseIdx, if_pos (by omega)]; omega
              · rw [e3, List.length_eraseIdx, if_pos (by omega)]; omega
              · rw [eg, List.getElem?_eraseIdx] at hq
                rw [List.getElem?_eraseIdx] at hs
                split at hq
                · rename_i c; rw [if_pos c] at hs; exact g4 _ e s (by simpa using hq) hs
                · rename_i c; rw [if_neg c] at hs; exact g4 _ e s (by simpa using hq) hs
              · rw [eg, List.getElem?_eraseIdx] at hq
                rw [List.getElem?_eraseIdx] at hp
                split at hq
                · rename_i c
                  rw [if_pos c] at hp
                  have := g2.2 _ e p hq hp
                  exact ⟨this.1, this.2.evo hr hev⟩
                · rename_i c
                  rw [if_neg c] at hp
                  have := g2.2 _ e p hq hp
                  exact ⟨this.1, this.2.evo hr hev⟩)
            exact ⟨S, _, _, e1, e2, .tp [] #[] rfl (fun j a v ha => by simp at ha), h⟩
          · rename_i hf
            have f1 := mfind_sound (S := S) (w := w) hkk en.toList es 0 _ g2 hf
            have same : setBlock w b (.map en cl) = w := by
              have : w.heap.setIfInBounds b (.map en cl) = w.heap := by
                apply Array.ext_getElem?
                intro q
                rw [Array.getElem?_setIfInBounds]
                split
                · rename_i e; subst e
                  split
                  · rw [g1]
                  · rename_i hb; rw [Array.getElem?_eq_none (by omega)] at g1; cases g1
                · rfl
              show ({ w with heap := _ } : World) = w
              rw [this]
            rw [hexec _ (top _ _ f1 (setObj_run' g1 hnc _)), same]
            exact ⟨S, _, H, Evo.refl _ _ _, hr, .tp [] #[] rfl (fun j a v ha => by simp at ha), h⟩
          · exact h.elim
        · exact h.elim
      · exact h.elim
    · exact h.elim
  · exact h.elim

theorem mrng_ef {dst : Option Tmp} {t : TypeId} {x : Operand} {type : TypeId} {pos : String} {after : Array Edge} {guard : Option (Nat × Bool)} (h : iop P ρ H k (compI P (.range t x))) : OpR P ⟨dst, .range t x, type, pos, after, guard⟩ ρ H k := by
  simp only [compI] at h
  split at h
  · rename_i ke e hu
    simp only [iop] at h
    intro S W0 a w ha hr
    have hxv := ha x (by simp [Op.operands])
    split at h
    · rename_i hx
      rw [hx] at hxv
      have hrun : (Instr.range t (a x)).run P w = .ok (.pointer (some ⟨w.heap.size, 0, none⟩)) (w.alloc (.mapIter none 0 #[] 0)) := by
        rw [hxv.pl_inv]
        simp [Instr.range, underlying_run hu w, Result.andThen]
      have hexec : (execOp a ⟨dst, .range t x, type, pos, after, guard⟩).run P w = .ok (.value (.pointer (some ⟨w.heap.size, 0, none⟩))) (w.alloc (.mapIter none 0 #[] 0)) := by
        simp only [execOp]
        rw [run_bind hrun]
        rfl
      rw [hexec]
      obtain ⟨h1, h2, h3⟩ := evo_new hr (.mapIter none 0 #[] 0) (a' := .itn) rfl (fun S' w' _ hb => ⟨_, _, _, hb⟩)
      exact ⟨S, _, _, h2, h3, .pl _, h _ h1⟩
    · obtain ⟨m, es, st, cl, hx, hH, h⟩ := map_read h
      rw [hx] at hxv
      obtain ⟨en, g1, g2, g3, g4⟩ := map_world hr hH
      have hrun : (Instr.range t (a x)).run P w = .ok (.pointer (some ⟨w.heap.size, 0, none⟩)) (w.alloc (.mapIter (some m) cl #[] cl)) := by
        rw [hxv.pl_inv]
        simp [Instr.range, underlying_run hu w, getMap_run g1, Result.andThen]
      have hexec : (execOp a ⟨dst, .range t x, type, pos, after, guard⟩).run P w = .ok (.value (.pointer (some ⟨w.heap.size, 0, none⟩))) (w.alloc (.mapIter (some m) cl #[] cl)) := by
        simp only [execOp]
        rw [run_bind hrun]
        rfl
      rw [hexec]
      obtain ⟨h1, h2, h3⟩ := evo_new hr (.mapIter (some m) cl #[] cl) (a' := .it m cl cl []) rfl (fun S' w' _ hb => ⟨_, hb, rfl⟩)
      exact ⟨S, _, _, h2, h3, .pl _, h _ h1⟩
  · exact h.elim

theorem mnxt_ef {dst : Option Tmp} {x : Operand} {sb : Bool} {type : TypeId} {pos : String} {after : Array Edge} {guard : Option (Nat × Bool)} (h : iop P ρ H k (compI P (.next x sb))) : OpR P ⟨dst, .next x sb, type, pos, after, guard⟩ ρ H k := by
  cases sb with
  | true => simp only [compI, iop] at h
  | false =>
  simp only [compI, iop] at h
  split at h
  · rename_i b hx
    intro S W0 a w ha hr
    have hxv := ha x (by simp [Op.operands])
    rw [hx] at hxv
    have hexec : ∀ v w', (Instr.next (.pointer (some ⟨b, 0, none⟩)) false type).run P w = .ok v w' → (execOp a ⟨dst, .next x false, type, pos, after, guard⟩).run P w = .ok (.value v) w' := by
      intro v w' hrun
      simp only [execOp]
      rw [hxv.pl_inv, run_bind hrun]
      rfl
    have tf : ∀ w', VR S w' (.tp [.pl (.bool false)]) (.tuple #[.bool false]) := fun w' => .tp _ _ rfl fun j a v ha hv => by
      match j with
      | 0 => simp at ha hv; subst ha; subst hv; exact .pl _
      | j + 1 => simp at ha
    split at h
    · rename_i hb
      obtain ⟨s1, s2, s3, g⟩ := hr.obj b _ hb
      rw [hexec (.tuple #[.bool false]) w (by simp [Instr.next, getObj, Sem.run, g, bind, Sem.bind, pure])]
      exact ⟨S, _, H, Evo.refl _ _ _, hr, tf w, h⟩
    · rename_i m since last seen hb
      obtain ⟨m', es, st, cl, hm, hH, hs, hsl, h0, h1⟩ := map_read h
      simp only [AV.pl.injEq, Value.map.injEq, Option.some.injEq] at hm
      subst hm
      obtain ⟨sn, g, gsn⟩ := hr.obj b _ hb
      obtain ⟨en, g1, g2, g3, g4⟩ := map_world hr hH
      have gl : en.size = es.length := by have := g2.1; simpa using this
      have born : ∀ e ∈ en.toList, ∃ (j : Nat) (s : Nat), en[j]? = some e ∧ st[j]? = some s ∧ e.born = s := by
        intro e he
        obtain ⟨j, hj⟩ := List.getElem?_of_mem he
        have hj' : en[j]? = some e := by simpa using hj
        have hlt : j < st.length := by rw [← g3]; exact (Array.getElem?_eq_some_iff.1 hj').1
        exact ⟨j, _, hj', List.getElem?_eq_getElem hlt, g4 j e _ hj' (List.getElem?_eq_getElem hlt)⟩
      have hold : ∀ e ∈ en.toList, e.born < since := by
        intro e he
        obtain ⟨j, s, _, h2, h3⟩ := born e he
        rw [h3]
        exact hs s (List.mem_of_getElem? h2)
      have seenmem : ∀ n : Nat, sn.contains n = true ↔ n ∈ seen := by
        intro n
        rw [Array.contains_iff_mem, ← Array.mem_toList_iff, gsn]
        simp
      rcases run_next_at (P := P) w type b m since last sn en cl g g1 hold hsl with ⟨he, hrun⟩ | ⟨e, he, w1, hw1, hrun⟩
      · rw [hexec _ _ hrun]
        refine ⟨S, _, H, Evo.refl _ _ _, hr, tf w, h0 fun s hsm => ?_⟩
        obtain ⟨j, hj⟩ := List.getElem?_of_mem hsm
        have hlt : j < en.size := by rw [g3]; exact (List.getElem?_eq_some_iff.1 hj).1
        have hje : en[j]? = some en[j] := Array.getElem?_eq_getElem hlt
        have hb' := g4 j _ s hje hj
        refine (seenmem s).1 ?_
        cases hc : sn.contains s with
        | true => rfl
        | false =>
          exfalso
          have : en[j] ∈ (leftOf en sn).toList := by
            unfold leftOf
            simp [hb', hc]
            simpa using hc
          have hz : (leftOf en sn).toList = [] := List.eq_nil_of_length_eq_zero (by simpa using he)
          rw [hz] at this
          cases this
      · rw [hexec _ _ hrun]
        have hmem : e ∈ en.toList ∧ sn.contains e.born = false := by
          unfold leftOf at he
          simp at he
          exact ⟨by simpa using he.1, by simpa using he.2⟩
        obtain ⟨j, s, hj, hst, hbs⟩ := born e hmem.1
        have hlt : j < es.length := by rw [← gl]; exact (Array.getElem?_eq_some_iff.1 hj).1
        have hns : s ∉ seen := fun hmm => by
          have := (seenmem s).2 hmm
          rw [← hbs, hmem.2] at this
          cases this
        have hr1 : Evo S H w S H w1 ∧ RH S W0 H w1 := by
          rcases hw1 with rfl | rfl
          · exact ⟨Evo.refl _ _ _, hr⟩
          · exact hr.drew
        have gw1 : w1.heap[b]? = some (.mapIter (some m) since sn last) := by
          rcases hw1 with rfl | rfl <;> exact g
        obtain ⟨e1, e2⟩ := evo_put (.mapIter (some m) since (sn.push e.born) cl) (a' := .it m since cl (s :: seen)) hr1.2 (by rw [hb]; rfl) gw1 (fun _ _ _ => by simp) rfl (fun S' w' _ hb' => ⟨_, hb', by simp [gsn, hbs]⟩)
        refine ⟨S, _, _, hr1.1.trans e1, e2, ?_, h1 j _ s (List.getElem?_eq_getElem hlt) hst hns⟩
        obtain ⟨k1, k2⟩ := g2.2 j e _ (by simpa using hj) (List.getElem?_eq_getElem hlt)
        refine .tp _ _ rfl fun q a v ha hv => ?_
        match q with
        | 0 => simp at ha hv; subst ha; subst hv; exact .pl _
        | 1 => simp at ha hv; subst ha; subst hv; rw [← k1]; exact .pl _
        | 2 => simp at ha hv; subst ha; subst hv; exact k2.evo hr (hr1.1.trans e1)
        | q + 3 => simp at ha
    · exact h.elim
  · exact h.elim

theorem entF_sound {S : Nat → Prop} {w : World} {s : Nat} {e : Value × AV} : ∀ (L : List MapEntry) (es : List (Value × AV)) (st : List Nat), ME S w L es → L.length = st.length → (∀ (j : Nat) (e : MapEntry) (s : Nat), L[j]? = some e → st[j]? = some s → e.born = s) →
    entF es st s = some e → ∃ x, L.find? (·.born == s) = some x ∧ x.key = e.1 ∧ VR S w e.2 x.val
  | [], [], st, _, _, _, h => by simp [entF] at h
  | x :: L, p :: es, [], _, hl, _, _ => by simp at hl
  | x :: L, p :: es, b :: st, hm, hl, hb, h => by
    have h0 := hb 0 x b rfl rfl
    obtain ⟨h1, h2⟩ := hm.2 0 x p rfl rfl
    simp only [entF] at h
    split at h
    · rename_i e0
      obtain rfl := Option.some.inj h
      exact ⟨x, by simp [h0, e0], h1, h2⟩
    · rename_i e0
      obtain ⟨y, g1, g2, g3⟩ := entF_sound L es st hm.tail (by simpa using hl) (fun j e s hj hs => hb (j + 1) e s (by simpa using hj) (by simpa using hs)) h
      exact ⟨y, by rw [List.find?_cons, h0]; have : (b == s) = false := by simpa using e0
                   rw [this]; exact g1, g2, g3⟩
  | [], p :: es, st, hm, _, _, _ => by have := hm.1; simp at this
  | x :: L, [], st, hm, _, _, _ => by have := hm.1; simp at this

theorem ment_ef {dst : Option Tmp} {x : Operand} {type : TypeId} {pos : String} {after : Array Edge} {guard : Option (Nat × Bool)} (h : iop P ρ H k (compI P (.entry x))) : OpR P ⟨dst, .entry x, type, pos, after, guard⟩ ρ H k := by
  simp only [compI, iop] at h
  split at h
  · rename_i b hx
    intro S W0 a w ha hr
    have hxv := ha x (by simp [Op.operands])
    rw [hx] at hxv
    split at h
    · rename_i m since last s seen hb
      obtain ⟨m', es, st, cl, hm, hH, hcl, h5⟩ := map_read h
      clear h
      have h := h5
      clear h5
      simp only [AV.pl.injEq, Value.map.injEq, Option.some.injEq] at hm
      subst hm
      subst hcl
      split at h
      · rename_i e he
        obtain ⟨sn, g, gsn⟩ := hr.obj b _ hb
        obtain ⟨en, g1, g2, g3, g4⟩ := map_world hr hH
        obtain ⟨y, f1, f2, f3⟩ := entF_sound (S := S) (w := w) en.toList es st g2 (by simpa using g3) (fun j e s hj hs => g4 j e s (by simpa using hj) hs) he
        have hback : sn.back? = some s := by
          rw [← Array.getLast?_toList, gsn]
          simp
        have hfind : en.find? (·.born == s) = some y := by rw [← Array.find?_toList]; exact f1
        have hrun : (Instr.entry (.pointer (some ⟨b, 0, none⟩))).run P w = .ok (.tuple #[y.key, y.val]) w := by
          simp only [Instr.entry, getObj, Sem.run_bind, Sem.run, g, g1, Result.andThen, hback, bne_self_eq_false, Bool.false_eq_true, if_false, hfind]
          rfl
        have hexec : (execOp a ⟨dst, .entry x, type, pos, after, guard⟩).run P w = .ok (.value (.tuple #[y.key, y.val])) w := by
          simp only [execOp]
          rw [hxv.pl_inv, run_bind hrun]
          rfl
        rw [hexec]
        refine ⟨S, _, H, Evo.refl _ _ _, hr, ?_, h⟩
        refine .tp _ _ rfl fun q a v ha hv => ?_
        match q with
        | 0 => simp at ha hv; subst ha; subst hv; rw [f2]; exact .pl _
        | 1 => simp at ha hv; subst ha; subst hv; exact f3
        | q + 2 => simp at ha
      · exact h.elim
    · exact h.elim
  · exact h.elim
end
end Go.Ab
