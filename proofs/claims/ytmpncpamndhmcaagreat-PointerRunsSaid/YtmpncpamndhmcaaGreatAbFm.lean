/-
  Maps and iterators over maps: what the model's operations on them do to a view.
-/
import Derived.Test.YtmpncpamndhmcaaGreatAbF
import Derived.MapKept
import Derived.Laws.StructEq
import Derived.Maps.RangeRun
namespace Go.Ab
open Go.RowKit
open Go.ChangeMaps (setBlock)
set_option linter.unusedSimpArgs false
set_option linter.unusedVariables false

section
variable {P : Program}

theorem kkOf_some {d : Option TypeDesc} {kk : Nat} (h : kkOf d = some kk) : (d = some .bool ∧ kk = 0) ∨ (∃ k, d = some (.int k) ∧ kk = 1) ∨ (d = some .string ∧ kk = 2) := by
  unfold kkOf at h
  split at h
  · exact .inl ⟨rfl, (Option.some.inj h).symm⟩
  · exact .inr (.inl ⟨_, rfl, (Option.some.inj h).symm⟩)
  · exact .inr (.inr ⟨rfl, (Option.some.inj h).symm⟩)
  · cases h

theorem sameNow_of {d : TypeDesc} {kk : Nat} (h : kkOf (some d) = some kk) (a b : Value) {r : Bool} (hs : sameK kk a b = some r) : Instr.sameNow d a b = some r := by
  rcases kkOf_some h with ⟨h1, rfl⟩ | ⟨k, h1, rfl⟩ | ⟨h1, rfl⟩ <;> obtain rfl := Option.some.inj h1 <;> cases a <;> cases b <;> simp only [sameK, reduceCtorEq, Option.some.injEq] at hs <;> simp only [Instr.sameNow] <;> first | exact hs | (rw [beq_toListBytes, hs]) | (rw [hs])

theorem sameBits_of {kk : Nat} {a b : Value} (h : sameK kk a b = some true) (n : Nat) : Instr.sameBits n b a = true := by
  unfold sameK at h
  split at h
  · rename_i k a k' b
    split at h
    · rename_i e
      subst e
      have : a = b := by simpa using h
      subst this
      cases n <;> simp [Instr.sameBits]
    · cases h
  · rename_i a b
    have h0 : (a.toList == b.toList) = true := by simpa using h
    have : a = b := (MapKept.bytes_beq a b).1 (by rw [beq_toListBytes]; exact h0)
    subst this
    have e : (a == a) = true := (MapKept.bytes_beq a a).2 rfl
    cases n <;> simp [Instr.sameBits, e]
  · rename_i a b
    have : a = b := by simpa using h
    subst this
    cases n <;> simp [Instr.sameBits]
  · cases h

/-- A list of entries, as told. -/
def ME (S : Nat → Prop) (w : World) (L : List MapEntry) (es : List (Value × AV)) : Prop :=
  L.length = es.length ∧ ∀ (j : Nat) (e : MapEntry) (p : Value × AV), L[j]? = some e → es[j]? = some p → e.key = p.1 ∧ VR S w p.2 e.val

theorem ME.tail {S : Nat → Prop} {w : World} {e : MapEntry} {L : List MapEntry} {p : Value × AV} {es : List (Value × AV)} (h : ME S w (e :: L) (p :: es)) : ME S w L es :=
  ⟨by have := h.1; simpa using this, fun j x y hx hy => h.2 (j + 1) x y (by simpa using hx) (by simpa using hy)⟩

theorem mfind_sound {S : Nat → Prop} {w : World} {d : TypeDesc} {kk : Nat} (hd : kkOf (some d) = some kk) {kv : Value} : ∀ (L : List MapEntry) (es : List (Value × AV)) (i : Nat) (r : Option (Nat × AV)), ME S w L es → mfind kk kv es i = some r →
    match r with
    | none => Instr.findNow d kv L i = some none
    | some (j, a) => ∃ u, Instr.findNow d kv L i = some (some (j, u)) ∧ VR S w a u ∧ i ≤ j ∧ ∃ e, L[j - i]? = some e ∧ sameK kk kv e.key = some true ∧ e.val = u
  | [], [], i, r, _, h => by
    simp only [mfind, Option.some.injEq] at h
    subst h
    rfl
  | e :: L, p :: es, i, r, hm, h => by
    obtain ⟨h1, h2⟩ := hm.2 0 e p rfl rfl
    simp only [mfind] at h
    split at h
    · rename_i hs
      obtain rfl := Option.some.inj h
      refine ⟨e.val, ?_, h2, Nat.le_refl _, e, by simp, by rw [h1]; exact hs, rfl⟩
      simp only [Instr.findNow, h1, sameNow_of hd _ _ hs]
    · rename_i hs
      have ih := mfind_sound hd L es (i + 1) r hm.tail h
      have e1 : Instr.findNow d kv (e :: L) i = Instr.findNow d kv L (i + 1) := by simp only [Instr.findNow, h1, sameNow_of hd _ _ hs]
      rw [e1]
      cases r with
      | none => exact ih
      | some x =>
        obtain ⟨j, a⟩ := x
        obtain ⟨u, g1, g2, g3, e2, g4, g5, g6⟩ := ih
        refine ⟨u, g1, g2, by omega, e2, ?_, g5, g6⟩
        have : j - i = (j - (i + 1)) + 1 := by omega
        rw [this]
        exact g4
    · cases h
  | [], p :: es, i, r, hm, h => by have := hm.1; simp at this
  | e :: L, [], i, r, hm, h => by have := hm.1; simp at this

theorem checkKey_run {kt : TypeId} {d : TypeDesc} {kk : Nat} (hu : P.underlying kt = some d) (hd : kkOf (some d) = some kk) (em : Bool) (v : Value) (w : World) : (Instr.checkKey em 10000 kt v).run P w = .ok () w := by
  unfold Instr.checkKey
  rw [run_bind (underlying_run hu w)]
  rcases kkOf_some hd with ⟨h1, rfl⟩ | ⟨k, h1, rfl⟩ | ⟨h1, rfl⟩ <;> obtain rfl := Option.some.inj h1 <;> rfl

theorem findKey_run {kt : TypeId} {d : TypeDesc} (hu : P.underlying kt = some d) {kv : Value} {L : List MapEntry} {r : Option (Nat × Value)} (h : Instr.findNow d kv L 0 = some r) (w : World) : (Instr.findKey kt kv L).run P w = .ok r w := by
  unfold Instr.findKey
  rw [run_bind (underlying_run hu w), h]
  rfl

theorem getMap_run {w : World} {b : Nat} {en : Array MapEntry} {cl : Nat} (h : w.heap[b]? = some (.map en cl)) : (getObj b).run P w = .ok (.map en cl) w := by
  simp [getObj, Sem.run, h]

theorem setObj_run' {w : World} {b : Nat} {o : Obj} (h : w.heap[b]? = some o) (hn : ∀ C T F, o ≠ .cells C T F) (o' : Obj) : (setObj b o').run P w = .ok () (setBlock w b o') := by
  unfold setObj
  simp only [Sem.run, h]
  cases o <;> first | rfl | exact absurd rfl (hn _ _ _)

theorem keyStays_run {kk : Nat} {old new : Value} (h : sameK kk new old = some true) (w : World) : (Instr.keyThatStays old new).run P w = .ok new w := by
  unfold Instr.keyThatStays
  rw [if_pos (sameBits_of h _)]
  rfl

theorem zeroV_run {t : TypeId} {z : AV} (h : zeroV P t = some z) (w : World) : ∃ v, (zeroValue t).run P w = .ok v w ∧ z = cv v := by
  simp only [zeroV, Option.bind_eq_some_iff, Option.map_eq_some_iff] at h
  obtain ⟨i, h1, v, h2, rfl⟩ := h
  exact ⟨v, by simp only [zeroValue, typeInfo, program, bind, Sem.bind, Sem.run, h1, pure, h2], rfl⟩

/-- Reading a map. -/
theorem map_read {H : AH} {x : AV} {k : Nat → List (Value × AV) → List Nat → Nat → Prop} (h : mapK H x k) : ∃ b es st cl, x = .pl (.map (some b)) ∧ H b = some (.map es st cl) ∧ k b es st cl := by
  unfold mapK at h
  split at h
  · split at h
    · exact ⟨_, _, _, _, rfl, by assumption, h⟩
    · exact h.elim
  · exact h.elim

theorem ME.of {S : Nat → Prop} {w : World} {en : Array MapEntry} {es : List (Value × AV)} (h1 : en.size = es.length) (h2 : ∀ (j : Nat) (e : MapEntry) (p : Value × AV), en[j]? = some e → es[j]? = some p → e.key = p.1 ∧ VR S w p.2 e.val) : ME S w en.toList es :=
  ⟨by simpa using h1, fun j e p hj hp => h2 j e p (by simpa using hj) hp⟩

/-- An object that is no row of cells is written. -/
theorem evo_put {S : Nat → Prop} {W0 w : World} {H : AH} {b : Nat} {o : Obj} {a' : AO} (o' : Obj) (hr : RH S W0 H w) (hb : kd (H b) = 2) (ho : w.heap[b]? = some o) (hn : ∀ C T F, o ≠ .cells C T F) (hn' : kd (some a') = 2)
    (hOR : ∀ S' w', Evo S H w S' (upd H b a') w' → w'.heap[b]? = some o' → OR S' w' b a') :
    Evo S H w S (upd H b a') (setBlock w b o') ∧ RH S W0 (upd H b a') (setBlock w b o') := by
  have hlt : b < w.heap.size := by
    rcases Nat.lt_or_ge b w.heap.size with h | h
    · exact h
    · rw [Array.getElem?_eq_none h] at ho; cases ho
  have hne : ∀ k, k ≠ b → (setBlock w b o').heap[k]? = w.heap[k]? := fun k hk => by
    simp only [setBlock]
    rw [Array.getElem?_setIfInBounds, if_neg (Ne.symm hk)]
  have hbb : (setBlock w b o').heap[b]? = some o' := by
    simp only [setBlock]
    rw [Array.getElem?_setIfInBounds, if_pos rfl, if_pos hlt]
  have hsz : (setBlock w b o').heap.size = w.heap.size := by simp [setBlock]
  have hev : Evo S H w S (upd H b a') (setBlock w b o') := by
    refine ⟨by omega, fun k hk hn2 => hne k (fun e => by rw [e] at hn2; exact hn2 hb), ?_, fun _ h => h, fun _ h => .inl h, ?_⟩
    · intro k D T' F hk
      by_cases e : k = b
      · subst e; rw [ho] at hk; exact absurd (Option.some.inj hk) (hn _ _ _)
      · exact ⟨D, F, (hne k e).trans hk, rfl⟩
    · intro k
      rw [kd_upd]
      split
      · rename_i e; subst e; exact .inr (.inl (by rw [hb]; exact hn'))
      · exact .inr (.inl rfl)
  have hge : W0.heap.size ≤ b := by
    rcases Nat.lt_or_ge b W0.heap.size with h | h
    · exact absurd (hr.sub b h) (hr.free b hb)
    · exact h
  refine ⟨hev, ⟨hr.below.trans ⟨rfl, rfl, rfl, by omega, fun k hk => hne k (by omega)⟩, hr.sub, fun k hk => by rw [hsz]; exact hr.bound k hk, ?_, ?_, ?_⟩⟩
  · intro k o hk
    rw [hsz]
    unfold upd at hk
    split at hk
    · rename_i e; subst e; exact hlt
    · exact hr.lt k o hk
  · intro k hk
    rw [kd_upd] at hk
    split at hk
    · rename_i e; subst e; exact hr.free _ hb
    · exact hr.free k hk
  · intro k o hk
    unfold upd at hk
    split at hk
    · rename_i e
      subst e
      obtain rfl := Option.some.inj hk
      exact hOR S _ hev hbb
    · rename_i e
      exact (hr.obj k o hk).evo hr hev (hne k e)

/-- A new object that is no row of cells. -/
theorem evo_new {S : Nat → Prop} {W0 w : World} {H : AH} (hr : RH S W0 H w) (o : Obj) {a' : AO} (hn' : kd (some a') = 2)
    (hOR : ∀ S' w', Evo S H w S' (upd H w.heap.size a') w' → w'.heap[w.heap.size]? = some o → OR S' w' w.heap.size a') :
    H w.heap.size = none ∧ Evo S H w S (upd H w.heap.size a') (w.alloc o) ∧ RH S W0 (upd H w.heap.size a') (w.alloc o) := by
  have hn : H w.heap.size = none := by
    cases e : H w.heap.size with
    | none => rfl
    | some o => exact absurd (hr.lt _ o e) (by omega)
  have hsz : (w.alloc o).heap.size = w.heap.size + 1 := by show (w.heap.push _).size = _; simp
  have hbb : (w.alloc o).heap[w.heap.size]? = some o := by show (w.heap.push _)[w.heap.size]? = _; simp
  have hev : Evo S H w S (upd H w.heap.size a') (w.alloc o) := by
    refine ⟨by omega, fun b hb _ => Below.heap_alloc _ _ _ hb, ?_, fun _ h => h, fun _ h => .inl h, ?_⟩
    · intro b C' T F hb
      have hb' : b < w.heap.size := by
        rcases Nat.lt_or_ge b w.heap.size with h | h
        · exact h
        · rw [Array.getElem?_eq_none h] at hb; cases hb
      exact ⟨C', F, (Below.heap_alloc _ _ _ hb').trans hb, rfl⟩
    · intro b
      rw [kd_upd]
      split
      · rename_i e; exact .inr (.inr (by omega))
      · exact .inr (.inl rfl)
  refine ⟨hn, hev, ⟨hr.below.alloc hr.below.size _, hr.sub, fun b hb => by have := hr.bound b hb; omega, ?_, ?_, ?_⟩⟩
  · intro k o hk
    unfold upd at hk
    split at hk
    · rename_i e; omega
    · have := hr.lt k o hk; omega
  · intro k hk
    rw [kd_upd] at hk
    split at hk
    · rename_i e
      subst e
      intro hs
      have := hr.bound _ hs
      omega
    · exact hr.free k hk
  · intro k o' hk
    unfold upd at hk
    split at hk
    · rename_i e
      subst e
      obtain rfl := Option.some.inj hk
      exact hOR S _ hev hbb
    · exact (hr.obj k o' hk).evo hr hev (Below.heap_alloc _ _ _ (hr.lt k o' hk))

theorem RH.drew {S : Nat → Prop} {W0 w : World} {H : AH} (h : RH S W0 H w) : Evo S H w S H w.drew ∧ RH S W0 H w.drew := by
  have he : Evo S H w S H w.drew := ⟨Nat.le_refl _, fun _ _ _ => rfl, fun _ C _ F h => ⟨C, F, h, rfl⟩, fun _ h => h, fun _ h => .inl h, fun _ => .inr (.inl rfl)⟩
  exact ⟨he, ⟨h.below.drew, h.sub, h.bound, h.lt, h.free, fun k o hk => (h.obj k o hk).evo h he rfl⟩⟩
end
end Go.Ab
