/-
  Both tables at once: what New returns, and Feed, Pending and Longest of it, accepted or not. Conditions: as each lemma states them.
-/
import Derived.Test.YtbdcnoahalknkaaD12
namespace Go.Proofs.Ytbdcnoahalknkaa
open Go Go.Ab Go.RowKit
set_option linter.unusedSimpArgs false
set_option linter.unusedVariables false
set_option linter.unnecessarySimpa false

attribute [local simp] condK_true condK_false condK_not wpc_skip wpc_ret wpc_exit wpc_seq wpc_reg wpc_regD testA_bool wpc_cond wpc_block thenA_normal thenA_ret thenA_exit blockA_normal blockA_ret blockA_exit blockA_other endA_normal endA_ret ev_tmp' ev_const ev_func ev_global cv_int cv_bool cv_string cv_pointer cv_slice cv_agg cv_map put_some put_none wH_s setE_apply setE_env less_eq env_cons env_nil upd_upd upd_apply del_apply startA_eq cells_ag cells_sl one_sl cells_vs one_vs cells_ep one_ep cells_fn one_fn cells_int one_int cells_bool one_bool cells_string one_string cells_pointer one_pointer cells_slice one_slice cells_map one_map cells_agg resK_one resK_nil resK_two rvK_t rvK_c rvsK_nil rvsK_cons iseq_nil iseq_cons gdA_true gdA_false gdA_undef istep_free istep_guard istepV_free istepV_guard dseq_nil dseq_pu dseq_rd dseq_ef wpc_regT dtree_nil dtree_pu dtree_rd dtree_ef dtree_br chkAll_nil chkAll_cons andK_true pickK_true pickK_false pickK_tb pickK_fb bin2K_pl eqbK_eq eqbK_ne eqpK_eq eqpK_ne eqmK_eq eqmK_ne eqzK_eq eqzK_ne eqzK_sl eqzK_vs un1K_pl convK_int fillK_some fillA_cons fillA_nil cellsK_some needK_true needK_ok seeK_ep seeK_ptr oneK_agg oneK_one nilcK_ptr nilcK_ep fadrK_ptr fadrK_ep fldK_ag iadAK_ptr iadAK_ep iadSK_sl iadSK_vs extK_0 extK_1 extK_2 extK_3 lenK_pl lenK_sl lenK_vs lensK_pl boxK_some minmax1K_int storeK_ptr callvK_fn callvK_pl newsK_nil newsK_vs newsK_sl appK_nil appK_nil0 appK_sl appK_vs bnd1K_int bndK_none bndK_some slsK_vs slsK_nil slsK_sl0 slsK_sl slstrK_pl boolK_some eqsK_ag iop_eqs iop_sls iop_slstr seesK_some seesK_ro mapsK_some MAP_some findK_some findK_none plK_pl nmapK_none nmapK_some iop_mlook iop_mlen iop_mmk iop_mupd iop_mdel iop_mrng itK_none itK_some ptr0K_ptr iop_mnxt iop_ment it1K_some entK_some iop_mov iop_pick iop_bin iop_eqb iop_eqp iop_eqm iop_eqz iop_un iop_conv iop_build iop_load iop_nilc iop_fadr iop_fld iop_iadA iop_iadS iop_ext iop_mkf iop_len iop_lens iop_minmax iop_al iop_box iop_bsl iop_store iop_call iop_callv iop_app BIN_add BIN_sub BIN_mul BIN_and BIN_or BIN_xor BIN_andNot BIN_eql BIN_neq BIN_lss BIN_leq BIN_gtr BIN_geq BIN_quo BIN_rem BIN_shl BIN_shr BIN_sadd BIN_seql BIN_sneq BIN_slss BIN_sleq BIN_sgtr BIN_sgeq UN_neg UN_xor UN_not MM_nil MM_cons partsA argsA ptrA lessL eqL min2I slotN_int slotP_int slotI_int

/-- The sequences of the table that New returns. -/
def acc (S : List Sq) : List Sq := if newT S = 0 then S else []
def mkd (S : List Sq) : Bool := decide (newT S = 0)
theorem acc_acc (S : List Sq) : Acc (acc S) := by
  unfold acc
  split
  · exact newT_acc ‹_›
  · exact Acc.nil
theorem acc_len (S : List Sq) : (acc S).length ≤ S.length := by
  unfold acc; split <;> simp
/-- The program's table, or nil. -/
def TbX (H : AH) (t : AV) (S : List Sq) : Prop := (t = .pl (.pointer none) ∧ S = []) ∨ ∃ p nd mp, t = pA p ∧ Tb H p S nd mp
theorem TbX.sub {H H' : AH} {t : AV} {S : List Sq} (h : TbX H t S) (hs : Sub H H') : TbX H' t S := by
  rcases h with h | ⟨p, nd, mp, h1, h2⟩
  · exact .inl h
  · exact .inr ⟨p, nd, mp, h1, h2.sub hs⟩
def PtrIf (t : AV) (b : Bool) : Prop := t = .pl (.pointer none) ∧ b = false ∨ ∃ p, t = pA p ∧ b = true
theorem PtrIf.ne {t : AV} {b : Bool} (h : PtrIf t b) {k : AV → Prop} : @eqpK true t (.pl (.pointer none)) ⟨k⟩ = k (vb b) := by
  rcases h with ⟨rfl, rfl⟩ | ⟨p, rfl, rfl⟩ <;> rfl
theorem PtrIf.eq {t : AV} {b : Bool} (h : PtrIf t b) {k : AV → Prop} : @eqpK false t (.pl (.pointer none)) ⟨k⟩ = k (vb !b) := by
  rcases h with ⟨rfl, rfl⟩ | ⟨p, rfl, rfl⟩ <;> rfl
theorem c12x {H : AH} {K : AV → AH → Prop} {a : AV} {L : List (AV × Sq)} (ha : Sr H a L) (hl : ∀ x ∈ L, x.2.ks.length ≤ maxLen)
    (hk : ∀ H' t, Sub H H' → TbX H' t (acc (sqs L)) → PtrIf t (mkd (sqs L)) → K (.tp [t, vi (newT (sqs L))]) H') : @AC Try.prog 12 [a] H ⟨K⟩ := by
  refine c12 ha hl (fun h => ?_) fun h H' t nd mp hs hT _ _ => ?_
  · exact hk H _ (Sub.refl H) (.inl ⟨rfl, by simp [acc, h]⟩) (.inl ⟨rfl, by simp [mkd, h]⟩)
  · have := hk H' (pA t) hs (.inr ⟨t, nd, mp, rfl, by simpa [acc, h] using hT⟩) (.inr ⟨t, rfl, by simp [mkd, h]⟩)
    rwa [h] at this
theorem c14x {H : AH} {K : AV → AH → Prop} {a : AV} {L : List (AV × Sq)} (ha : Sr H a L) (hl : ∀ x ∈ L, x.2.ks.length ≤ maxLen) (hL : L.length ≤ maxLen)
    (hk : ∀ H' all L', Sub H H' → Sr H' all L' → sqs L' = acc (sqs L) → K (.tp [.ag [vb (mkd (sqs L)), all], vi (newT (sqs L))]) H') : @AC Try.prog 14 [a] H ⟨K⟩ := by
  refine c14 ha hl hL (fun h => ?_) fun h H' all L' hs hS he => ?_
  · have := hk H vnil [] (Sub.refl H) ⟨Rw.nil _ _, fun x hx => by simp at hx⟩ (by rw [show acc (sqs L) = [] by simp [acc, h]]; rfl)
    rwa [show mkd (sqs L) = false by simp [mkd, h]] at this
  · have := hk H' all L' hs hS (by simpa [acc, h] using he)
    rwa [h, show mkd (sqs L) = true by simp [mkd, h]] at this
theorem c17x {H : AH} {K : AV → AH → Prop} {t : AV} {S : List Sq} {a : AV} {w : List Int} (x : Int) (h : TbX H t S) (ha : Ri H a w) (hl : w.length ≤ 1000000)
    (hk : ∀ out H', Row H H' out ((feed S w x).w.map vi) (feed S w x).w.length 1 → K (.tp [.ag [out], vs8 (feed S w x).r, vi (feed S w x).n]) H') : @AC Try.prog 17 [t, .ag [a], vi x] H ⟨K⟩ := by
  rcases h with ⟨rfl, rfl⟩ | ⟨p, nd, mp, rfl, hT⟩
  · exact c17n ha (hk vnil H (Row.nil H 1))
  · exact c17 x hT ha hl hk
theorem c20x {H : AH} {K : AV → AH → Prop} {t : AV} {S : List Sq} {a : AV} {w : List Int} (h : TbX H t S) (ha : Ri H a w) (hl : w.length ≤ 1000000) (hS : S.length ≤ 1000000)
    (hk : ∀ out H', Row H H' out ((pend S w).map vi) (pend S w).length 1 → K out H') : @AC Try.prog 20 [t, .ag [a]] H ⟨K⟩ := by
  rcases h with ⟨rfl, rfl⟩ | ⟨p, nd, mp, rfl, hT⟩
  · exact c20n ha (hk vnil H (Row.nil H 1))
  · exact c20 hT ha hl hS hk
theorem c15x {H : AH} {K : AV → AH → Prop} {t : AV} {S : List Sq} (h : TbX H t S) (hk : K (vi (longest S)) H) : @AC Try.prog 15 [t] H ⟨K⟩ := by
  rcases h with ⟨rfl, rfl⟩ | ⟨p, nd, mp, rfl, hT⟩
  · exact c15n hk
  · exact c15 hT hk
theorem feed_len {S : List Sq} (h : Acc S) (w : List Int) (x : Int) : (feed S w x).w.length ≤ 5 := by
  have hw := was_len h (w := w)
  cases h1 : hit S (was S w ++ [x]) with
  | some s => rw [feed_hit h1]; simp
  | none =>
    cases h2 : opn S (was S w ++ [x]) with
    | true =>
      rw [feed_go h1 h2]
      have := was_len h (w := was S w ++ [x])
      rw [was_yes h2] at this
      exact this
    | false =>
      cases h3 : opn S w with
      | true => rw [feed_off h1 h2 h3]; simp
      | false => rw [feed_no h1 h2 h3]; simp
theorem bytes_self (r : ByteArray) : (r.toList == r.toList) = true := by simp
/-- A row of one's own is written at a place. -/
theorem own_store {H0 H1 : AH} {out : AV} {cs : List AV} {n : Nat} (h : Row H0 H1 out cs n 1) : Row H0 H1 out cs n 1 := h
end Go.Proofs.Ytbdcnoahalknkaa
