/-
  DeadkeyLongestMatch, walked: the law returns true. Conditions: as the theorem states them.
-/
import Derived.Test.YtbdcnoahalknkaaD15
namespace Go.Proofs.Ytbdcnoahalknkaa
open Go Go.Ab Go.RowKit
set_option linter.unusedSimpArgs false
set_option linter.unusedVariables false
set_option linter.unnecessarySimpa false

attribute [local simp] condK_true condK_false condK_not wpc_skip wpc_ret wpc_exit wpc_seq wpc_reg wpc_regD testA_bool wpc_cond wpc_block thenA_normal thenA_ret thenA_exit blockA_normal blockA_ret blockA_exit blockA_other endA_normal endA_ret ev_tmp' ev_const ev_func ev_global cv_int cv_bool cv_string cv_pointer cv_slice cv_agg cv_map put_some put_none wH_s setE_apply setE_env less_eq env_cons env_nil upd_upd upd_apply del_apply startA_eq cells_ag cells_sl one_sl cells_vs one_vs cells_ep one_ep cells_fn one_fn cells_int one_int cells_bool one_bool cells_string one_string cells_pointer one_pointer cells_slice one_slice cells_map one_map cells_agg resK_one resK_nil resK_two rvK_t rvK_c rvsK_nil rvsK_cons iseq_nil iseq_cons gdA_true gdA_false gdA_undef istep_free istep_guard istepV_free istepV_guard dseq_nil dseq_pu dseq_rd dseq_ef wpc_regT dtree_nil dtree_pu dtree_rd dtree_ef dtree_br chkAll_nil chkAll_cons andK_true pickK_true pickK_false pickK_tb pickK_fb bin2K_pl eqbK_eq eqbK_ne eqpK_eq eqpK_ne eqmK_eq eqmK_ne eqzK_eq eqzK_ne eqzK_sl eqzK_vs un1K_pl convK_int fillK_some fillA_cons fillA_nil cellsK_some needK_true needK_ok seeK_ep seeK_ptr oneK_agg oneK_one nilcK_ptr nilcK_ep fadrK_ptr fadrK_ep fldK_ag iadAK_ptr iadAK_ep iadSK_sl iadSK_vs extK_0 extK_1 extK_2 extK_3 lenK_pl lenK_sl lenK_vs lensK_pl boxK_some minmax1K_int storeK_ptr callvK_fn callvK_pl newsK_nil newsK_vs newsK_sl appK_nil appK_nil0 appK_sl appK_vs bnd1K_int bndK_none bndK_some slsK_vs slsK_nil slsK_sl0 slsK_sl slstrK_pl boolK_some eqsK_ag iop_eqs iop_sls iop_slstr seesK_some seesK_ro mapsK_some MAP_some findK_some findK_none plK_pl nmapK_none nmapK_some iop_mlook iop_mlen iop_mmk iop_mupd iop_mdel iop_mrng itK_none itK_some ptr0K_ptr iop_mnxt iop_ment it1K_some entK_some iop_mov iop_pick iop_bin iop_eqb iop_eqp iop_eqm iop_eqz iop_un iop_conv iop_build iop_load iop_nilc iop_fadr iop_fld iop_iadA iop_iadS iop_ext iop_mkf iop_len iop_lens iop_minmax iop_al iop_box iop_bsl iop_store iop_call iop_callv iop_app BIN_add BIN_sub BIN_mul BIN_and BIN_or BIN_xor BIN_andNot BIN_eql BIN_neq BIN_lss BIN_leq BIN_gtr BIN_geq BIN_quo BIN_rem BIN_shl BIN_shr BIN_sadd BIN_seql BIN_sneq BIN_slss BIN_sleq BIN_sgtr BIN_sgeq UN_neg UN_xor UN_not MM_nil MM_cons partsA argsA ptrA lessL eqL min2I slotN_int slotP_int slotI_int

theorem feed_nil_w {S : List Sq} : was S [] = [] := by
  have : opn S [] = false := by
    rw [Bool.eq_false_iff, ne_eq, opn_iff]
    exact fun h => h.1 rfl
  exact was_no this
theorem feed_seq {S : List Sq} (h : Acc S) {s : Sq} (hs : s ∈ S) {i : Nat} (hi : i < s.ks.length) : feed S (s.ks.take i) s.ks[i] = if i + 1 < s.ks.length then ⟨s.ks.take (i + 1), emp, 1⟩ else ⟨[], s.r, 2⟩ := by
  have et : s.ks.take i ++ [s.ks[i]] = s.ks.take (i + 1) := by rw [List.take_succ_eq_append_getElem hi]
  have op : ∀ j, 0 < j → j < s.ks.length → opn S (s.ks.take j) = true := by
    intro j h1 h2
    refine opn_iff.2 ⟨fun e => ?_, s, hs, by simp; omega, List.take_prefix _ _⟩
    have := congrArg List.length e
    simp at this
    rcases this with h3 | h3
    · omega
    · rw [h3] at h2; simp at h2
  have hw : was S (s.ks.take i) = s.ks.take i := by
    rcases Nat.eq_zero_or_pos i with rfl | h0
    · rw [List.take_zero]; exact feed_nil_w
    · exact was_yes (op i h0 hi)
  by_cases h1 : i + 1 < s.ks.length
  · rw [if_pos h1]
    have h2 := op (i + 1) (by omega) h1
    have h3 : hit S (s.ks.take (i + 1)) = none := hit_none.2 fun t ht e => by
      have h4 := h.apart t ht s hs (e ▸ List.take_prefix _ _)
      rw [h4] at e
      have := congrArg List.length e
      simp at this; omega
    have := feed_go (S := S) (w := s.ks.take i) (x := s.ks[i]) (by rw [hw, et]; exact h3) (by rw [hw, et]; exact h2)
    rw [this, hw, et]
  · rw [if_neg h1]
    obtain ⟨t, ht⟩ := hit_ex hs rfl
    have h5 := hit_some ht
    have h6 : t = s := h.apart t h5.1 s hs (h5.2 ▸ List.prefix_refl _)
    have := feed_hit (S := S) (w := s.ks.take i) (x := s.ks[i]) (s := t) (by rw [hw, et, List.take_of_length_le (by omega)]; exact ht)
    rw [this, h6]
theorem c6 {H : AH} {a : AV} {L : List (AV × Sq)} (n : Int) (hn0 : 0 ≤ n) (hn1 : n < 256) (ha : Sr H a L) (hl : ∀ x ∈ L, x.2.ks.length ≤ maxLen) (hL : L.length ≤ maxLen) :
    ACall Try.prog 6 [a, .pl (.int .u8 n)] H (fun v _ => v = vb true) := by
  have hmx : maxLen = 9223372036854775807 := rfl
  have la := fun k => ha.row.lenK (k := k)
  refine call_c follows cf6_ok (by simp) ?_
  by_cases c1 : (60 : Int) < L.length
  · simp [la, c1]
    refine c11.ac ?_
    simp
  simp [la, c1]
  refine c13 ha (by omega) fun o1 H1 hro => ?_
  have hS1 := hro.sub
  have hr1 := ha.of_row hro
  simp
  refine c12x hr1 hl fun H2 t hS2 hT2 hpt => ?_
  have ha2 := ha.sub (hS1.trans hS2)
  have hpn := fun k => hpt.ne (k := k)
  have hpe := fun k => hpt.eq (k := k)
  by_cases c2 : newT (sqs L) = 0
  case neg =>
    have hm : mkd (sqs L) = false := by simp [mkd, c2]
    rw [hm] at hpn
    simp [c2, hpn]
    refine c11.ac ?_
    simp
  have hm : mkd (sqs L) = true := by simp [mkd, c2]
  rw [hm] at hpn hpe
  by_cases c3 : L = []
  · subst c3
    simp [c2, hpn, la]
    refine c11.ac ?_
    simp
  have hpos := List.length_pos_iff.2 c3
  have c3' : ¬ (L.length : Int) = 0 := by omega
  have hacc : acc (sqs L) = sqs L := by simp [acc, c2]
  rw [hacc] at hT2
  have hA := newT_acc c2
  have hlt : n.toNat % L.length < L.length := Nat.mod_lt _ hpos
  obtain ⟨p, hp1, hp2⟩ := ha2.see hlt
  have w1 : IntKind.i64.wrap n = n := IntWalk.i64_in _ (by omega)
  have w2 : n.tmod L.length = ((n.toNat % L.length : Nat) : Int) := by
    rw [Int.tmod_eq_emod_of_nonneg hn0, Int.natCast_emod, Int.toNat_of_nonneg hn0]
  have hmem : L[n.toNat % L.length].2 ∈ sqs L := List.mem_map_of_mem (List.getElem_mem hlt)
  have hkey := ha2.key _ (List.getElem_mem hlt)
  generalize n.toNat % L.length = jx at *
  generalize L[jx] = xx at *
  obtain ⟨ax, sx⟩ := xx
  simp only at hmem hkey hp2
  have ox := hkey.one
  have cx := hkey.cells
  have hck := chk_ok (hA.chk sx hmem)
  have hseq := fun i (hi : i < sx.ks.length) => feed_seq hA hmem hi
  generalize hS : sqs L = S at *
  simp [c2, hpe, la, c3, w1, w2, hp1, hp2 _ (Sub.refl _), c3']
  refine newK_of fun yx hyx => ?_
  have hSx : Sub H2 (upd H2 yx (.cells [vnil, vs8 ⟨#[]⟩])) := (Sub.refl H2).upd hyx
  have hSx2 : Sub H2 (upd H2 yx (.cells [ax, vs8 sx.r])) := (Sub.refl H2).upd hyx
  simp [ox, cx, hp2 _ hSx]
  refine newK_of fun ys hys => ?_
  obtain ⟨n1, n2, hys2⟩ := upd_none'.1 hys
  simp
  have lx := fun k => hkey.lenK (k := k)
  refine wpc_loop (fun s => ∃ (i : Nat) (B : AH) (f : AV) (w : List Int), s.n = 116 ∧ s.H = upd B ys (.cells [f]) ∧ s.t 5 = t ∧ s.t 7 = pA yx ∧ s.t 8 = pA ys ∧ s.t 9 = vi i ∧ i ≤ sx.ks.length ∧ B ys = none ∧ B yx = some (.cells [ax, vs8 sx.r]) ∧ TbX B t S ∧ Ri B ax sx.ks ∧ Ri B f w ∧ (i < sx.ks.length → w = sx.ks.take i)) (fun s => sx.ks.length - slotN (s.t 9)) ?_ ?_
  · exact FgK.same ⟨0, upd H2 yx (.cells [ax, vs8 sx.r]), vnil, [], by simp, by simp, by simp, by simp, by simp, by simp, by omega, by simpa [upd_apply, n1] using hys2, by simp [upd_apply], hT2.sub hSx2, hkey.sub hSx2, Ri.nil _, by simp⟩
  rintro s ⟨i, B, f, w, gn, gH, g5, g7, g8, g9, hi, hBs, hBx, hT, hkx, hf, hw⟩
  have hxs : ¬ yx = ys := n2
  by_cases hit : i < sx.ks.length
  · obtain rfl := hw hit
    have wr := IntWalk.i64_in ((i : Int) + 1) (by omega)
    have wr2 : IntKind.i64.wrap ((sx.ks.length : Int) - 1) = (sx.ks.length : Int) - 1 := IntWalk.i64_in _ (by omega)
    have hBH : Sub B (upd B ys (.cells [f])) := (Sub.refl B).upd hBs
    obtain ⟨q, hq1, hq2⟩ := (hkx.sub hBH).see hit
    have gs : (upd B ys (.cells [f])) ys = some (.cells [f]) := by simp [upd_apply]
    have gx : (upd B ys (.cells [f])) yx = some (.cells [ax, vs8 sx.r]) := hBH.at hBx
    have hfd := hseq i hit
    generalize sx.ks[i] = x at *
    generalize hH0 : upd B ys (.cells [f]) = H0 at *
    simp (disch := omega) [gn, gH, g5, g7, g8, g9, lx, hit, gs, gx, hq1, hq2 _ (Sub.refl _)]
    refine c17x x (hT.sub hBH) (hf.sub hBH) (by simp; omega) fun k1 Ha hka => ?_
    have hSa := hka.sub
    have rk1 := hka.ri
    have ok1 := hka.one
    have ck1 := rk1.cells
    have lk1 := fun k => rk1.lenK (k := k)
    have gsa := hSa.at gs
    have gxa := hSa.at gx
    simp
    refine newK_of fun z1 hz1 => ?_
    have m1 := free_ne hz1 ys (by simp [gsa])
    have m2 := free_ne hz1 yx (by simp [gxa])
    have hSb : Sub Ha (upd Ha z1 (.cells [k1])) := (Sub.refl Ha).upd hz1
    have hSb0 : Sub Ha (upd Ha z1 (.cells [vnil])) := (Sub.refl Ha).upd hz1
    have hS0b := hSa.trans hSb
    have hBd : Sub B (del (upd Ha z1 (.cells [k1])) ys) := fun j o hj => by
      have : j ≠ ys := by rintro rfl; rw [hBs] at hj; cases hj
      simp only [del_apply, if_neg this]
      exact (hBH.trans hS0b) j o hj
    have rkd : Ri (del (upd Ha z1 (.cells [k1])) ys) k1 (feed S (sx.ks.take i) x).w := by
      have := row_del (z1 := ys) (z2 := ys) hka (by rw [gs]; simp) (by rw [gs]; simp) hSb
      have e : del (del (upd Ha z1 (.cells [k1])) ys) ys = del (upd Ha z1 (.cells [k1])) ys := by
        funext j; simp only [del_apply]; split <;> rfl
      rwa [e] at this
    have hsub1 : Sub (upd (del (upd Ha z1 (.cells [k1])) ys) ys (.cells [k1])) (upd (upd Ha z1 (.cells [k1])) ys (.cells [k1])) := fun j o hj => by
      simp only [upd_apply, del_apply] at hj ⊢
      repeat' split at hj
      all_goals first | (simp_all; done) | (cases hj; done) | skip
    by_cases d1 : i + 1 < sx.ks.length
    · rw [if_pos d1] at hfd
      rw [hfd] at lk1 rkd hka ⊢
      have d2 : (i : Int) < (sx.ks.length : Int) - 1 := by omega
      have d3 : ¬ (i : Int) = (sx.ks.length : Int) - 1 := by omega
      have hlen : (sx.ks.take (i + 1)).length = i + 1 := by simp; omega
      simp only [hlen] at lk1
      have e3 : ((i + 1 : Nat) : Int) = (i : Int) + 1 := by omega
      simp (disch := omega) [gsa, gxa, m1, m2, hq1, hq2 _ (hSa.trans hSb0), hq2 _ hS0b, ok1, ck1, lx, wr2, d2, d3, emp_tl, lk1, wr, e3]
      exact FgK.of _ hsub1 ⟨⟨i + 1, del (upd Ha z1 (.cells [k1])) ys, k1, sx.ks.take (i + 1), by simp, rfl, by simp [g5], by simp [g7], by simp [g8], by simp, by omega, by simp [del_apply], hBd.at hBx, hT.sub hBd, hkx.sub hBd, rkd, fun _ => rfl⟩, by simp [g9]; omega⟩
    · rw [if_neg d1] at hfd
      rw [hfd] at lk1 rkd hka ⊢
      have d2 : ¬ (i : Int) < (sx.ks.length : Int) - 1 := by omega
      have d3 : (i : Int) = (sx.ks.length : Int) - 1 := by omega
      have wr3 : IntKind.i64.wrap ((sx.ks.length : Int) - 1) = (i : Int) := by rw [wr2]; omega
      simp only [List.length_nil] at lk1
      simp (disch := omega) [gsa, gxa, m1, m2, hq1, hq2 _ (hSa.trans hSb0), hq2 _ hS0b, ok1, ck1, lx, wr3, lk1, wr]
      exact FgK.of _ hsub1 ⟨⟨i + 1, del (upd Ha z1 (.cells [k1])) ys, k1, [], by simp, rfl, by simp [g5], by simp [g7], by simp [g8], by simp, by omega, by simp [del_apply], hBd.at hBx, hT.sub hBd, hkx.sub hBd, rkd, fun h => by omega⟩, by simp [g9]; omega⟩
  · have gx : (upd B ys (.cells [f])) yx = some (.cells [ax, vs8 sx.r]) := by simp [upd_apply, n2, hBx]
    simp (disch := omega) [gn, gH, g5, g7, g8, g9, lx, hit, hBx, n2]
    refine c11.ac ?_
    simp
end Go.Proofs.Ytbdcnoahalknkaa
