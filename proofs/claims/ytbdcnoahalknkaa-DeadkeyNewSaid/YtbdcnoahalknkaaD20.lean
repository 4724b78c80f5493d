/-
  DeadkeyNew and DeadkeyApart, walked: the laws return true. Conditions: as the theorems state them.
-/
import Derived.Test.YtbdcnoahalknkaaD17
import Derived.Test.YtbdcnoahalknkaaD14
namespace Go.Proofs.Ytbdcnoahalknkaa
open Go Go.Ab Go.RowKit
set_option linter.unusedSimpArgs false
set_option linter.unusedVariables false
set_option linter.unnecessarySimpa false

attribute [local simp] condK_true condK_false condK_not wpc_skip wpc_ret wpc_exit wpc_seq wpc_reg wpc_regD testA_bool wpc_cond wpc_block thenA_normal thenA_ret thenA_exit blockA_normal blockA_ret blockA_exit blockA_other endA_normal endA_ret ev_tmp' ev_const ev_func ev_global cv_int cv_bool cv_string cv_pointer cv_slice cv_agg cv_map put_some put_none wH_s setE_apply setE_env less_eq env_cons env_nil upd_upd upd_apply del_apply startA_eq cells_ag cells_sl one_sl cells_vs one_vs cells_ep one_ep cells_fn one_fn cells_int one_int cells_bool one_bool cells_string one_string cells_pointer one_pointer cells_slice one_slice cells_map one_map cells_agg resK_one resK_nil resK_two rvK_t rvK_c rvsK_nil rvsK_cons iseq_nil iseq_cons gdA_true gdA_false gdA_undef istep_free istep_guard istepV_free istepV_guard dseq_nil dseq_pu dseq_rd dseq_ef wpc_regT dtree_nil dtree_pu dtree_rd dtree_ef dtree_br chkAll_nil chkAll_cons andK_true pickK_true pickK_false pickK_tb pickK_fb bin2K_pl eqbK_eq eqbK_ne eqpK_eq eqpK_ne eqmK_eq eqmK_ne eqzK_eq eqzK_ne eqzK_sl eqzK_vs un1K_pl convK_int fillK_some fillA_cons fillA_nil cellsK_some needK_true needK_ok seeK_ep seeK_ptr oneK_agg oneK_one nilcK_ptr nilcK_ep fadrK_ptr fadrK_ep fldK_ag iadAK_ptr iadAK_ep iadSK_sl iadSK_vs extK_0 extK_1 extK_2 extK_3 lenK_pl lenK_sl lenK_vs lensK_pl boxK_some minmax1K_int storeK_ptr callvK_fn callvK_pl newsK_nil newsK_vs newsK_sl appK_nil appK_nil0 appK_sl appK_vs bnd1K_int bndK_none bndK_some slsK_vs slsK_nil slsK_sl0 slsK_sl slstrK_pl boolK_some eqsK_ag iop_eqs iop_sls iop_slstr seesK_some seesK_ro mapsK_some MAP_some findK_some findK_none plK_pl nmapK_none nmapK_some iop_mlook iop_mlen iop_mmk iop_mupd iop_mdel iop_mrng itK_none itK_some ptr0K_ptr iop_mnxt iop_ment it1K_some entK_some iop_mov iop_pick iop_bin iop_eqb iop_eqp iop_eqm iop_eqz iop_un iop_conv iop_build iop_load iop_nilc iop_fadr iop_fld iop_iadA iop_iadS iop_ext iop_mkf iop_len iop_lens iop_minmax iop_al iop_box iop_bsl iop_store iop_call iop_callv iop_app BIN_add BIN_sub BIN_mul BIN_and BIN_or BIN_xor BIN_andNot BIN_eql BIN_neq BIN_lss BIN_leq BIN_gtr BIN_geq BIN_quo BIN_rem BIN_shl BIN_shr BIN_sadd BIN_seql BIN_sneq BIN_slss BIN_sleq BIN_sgtr BIN_sgeq UN_neg UN_xor UN_not MM_nil MM_cons partsA argsA ptrA lessL eqL min2I slotN_int slotP_int slotI_int

theorem c10 {H : AH} {K : AV → AH → Prop} {a : AV} {L : List (AV × Sq)} (ha : Sr H a L) (hk : K (vb (decide (60 < L.length) && decide (L.length ≤ 256))) H) : @AC Try.prog 10 [a] H ⟨K⟩ := by
  have la := fun k => ha.row.lenK (k := k)
  refine AC_of ?_
  refine call_c follows cf10_ok (by simp) ?_
  by_cases c1 : 60 < L.length
  · have c1' : (60 : Int) < L.length := by omega
    by_cases c2 : L.length ≤ 256
    · have c2' : (L.length : Int) ≤ 256 := by omega
      simp [la, c1', c2']
      simpa [c1, c2] using hk
    · have c2' : ¬ (L.length : Int) ≤ 256 := by omega
      simp [la, c1', c2']
      simpa [c1, c2] using hk
  · have c1' : ¬ (60 : Int) < L.length := by omega
    simp [la, c1']
    simpa [c1] using hk
theorem c3 {H : AH} {a : AV} {L : List (AV × Sq)} (ha : Sr H a L) (hl : ∀ x ∈ L, x.2.ks.length ≤ maxLen) (hL : L.length ≤ maxLen) (hz : L.length * 40 ≤ 140737488355328) :
    ACall Try.prog 3 [a] H (fun v _ => v = vb true) := by
  refine call_c follows cf3_ok (by simp) ?_
  simp
  refine c10 ha ?_
  by_cases c1 : 60 < L.length ∧ L.length ≤ 256
  · simp [c1.1, c1.2]
    refine c11.ac ?_
    simp
  have c1' : (decide (60 < L.length) && decide (L.length ≤ 256)) = false := by
    rw [Bool.eq_false_iff]; simpa using c1
  rw [c1']
  simp
  refine c13 ha hz fun o1 H1 hro => ?_
  have hS1 := hro.sub
  have hr1 := ha.of_row hro
  simp
  refine c12x hr1 hl fun H2 t hS2 hT2 hpt => ?_
  have ha2 := ha.sub (hS1.trans hS2)
  simp
  refine c14x ha2 hl hL fun H3 all L' hS3 hr3 he3 => ?_
  have hpn := fun k => hpt.ne (k := k)
  have oal := hr3.row.one
  have cal := Rw.cells hr3.row
  have hT3 := hT2.sub hS3
  simp [oal, cal]
  refine newK_of fun y1 hy1 => ?_
  have hS4 : Sub H3 (upd H3 y1 (.cells [vb (mkd (sqs L)), all])) := (Sub.refl H3).upd hy1
  have g1 : (upd H3 y1 (.cells [vb (mkd (sqs L)), all])) y1 = some (.cells [vb (mkd (sqs L)), all]) := by simp [upd_apply]
  have hT4 := hT3.sub hS4
  have hr4 := hr3.sub hS4
  simp [oal, cal]
  generalize upd H3 y1 (.cells [vb (mkd (sqs L)), all]) = H4 at *
  have hL' : L'.length ≤ 256 := by
    have h1 := congrArg List.length he3
    rw [sqs_len] at h1
    rw [h1]
    unfold acc
    split
    · rename_i h2
      unfold newT at h2
      split at h2
      · cases h2
      · omega
    · simp
  simp [hpn, g1]
  refine c15x hT4 ?_
  simp [g1]
  refine c16 hr4 (by omega) ?_
  rw [he3]
  simp
  refine c11.ac ?_
  simp
theorem newE_app {acc l r : List Sq} (h : newE acc l = 0) : newE acc (l ++ r) = newE (acc ++ l) r := by
  induction l generalizing acc with
  | nil => simp
  | cons s l ih =>
    by_cases h1 : chk s = 0
    · cases h2 : clash acc s with
      | true => rw [newE_clash h1 h2] at h; cases h
      | false =>
        rw [newE_step h1 h2] at h
        rw [List.cons_append, newE_step h1 h2, ih h]
        simp
    · rw [newE_chk h1] at h; exact absurd h h1
theorem allvi (l : List Int) : (l.map vi).all AV.one = true := by
  induction l with
  | nil => rfl
  | cons a l ih => simp only [List.map_cons, List.all_cons, ih, Bool.and_true]; rfl
theorem row_del1 {B H' : AH} {q : Nat} {X : AO} {out : AV} {cs : List AV} {n sz : Nat} (h : Row (upd B q X) H' out cs n sz) (hq : B q = none) : Row B (del H' q) out cs n sz := by
  have e : del (upd B q X) q = B := by
    funext j; simp only [del_apply, upd_apply]
    by_cases e : j = q
    · rw [if_pos e, e, hq]
    · rw [if_neg e, if_neg e]
  rcases h with ⟨h1, h2, h3, rfl⟩ | ⟨r, h1, hr, rfl⟩
  · exact .inl ⟨h1, h2, h3, e⟩
  · obtain ⟨n1, n2, hr2⟩ := upd_none'.1 hr
    refine .inr ⟨r, h1, hr2, ?_⟩
    funext j
    have := congrFun e j
    simp only [del_apply, upd_apply] at this ⊢
    by_cases e1 : j = q
    · rw [if_pos e1] at this ⊢
      rw [if_neg (by rw [e1]; exact n2)]
      exact this
    · rw [if_neg e1] at this ⊢
      rw [if_neg e1] at this
      rw [if_neg e1]
theorem apart_new {L : List (AV × Sq)} {kx : AV} {sx : Sq} {n : Nat} (h : newT (sqs L) = 0) (hL : L.length ≤ 60) (hm : sx ∈ sqs L) (h1 : 1 ≤ n) (h2 : n ≤ sx.ks.length) : newT (sqs (L ++ [(kx, ⟨sx.ks.take n, ⟨#[122]⟩⟩)])) = 7 := by
  have hA := newT_acc h
  have hck := chk_ok (hA.chk sx hm)
  have e : sqs (L ++ [(kx, ⟨sx.ks.take n, ⟨#[122]⟩⟩)]) = sqs L ++ [⟨sx.ks.take n, ⟨#[122]⟩⟩] := by simp [sqs]
  have hE : newE [] (sqs L) = 0 := by
    unfold newT at h
    split at h
    · cases h
    · exact h
  rw [e, newT, if_neg (by simp [sqs]; omega), newE_app hE, List.nil_append]
  refine newE_clash ?_ (clash_iff.2 ⟨sx, hm, .inr (List.take_prefix _ _)⟩)
  have hlen : (sx.ks.take n).length = n := by simp; omega
  unfold chk
  have hsz : (⟨#[122]⟩ : ByteArray).size = 1 := rfl
  rw [if_neg (by simp only [hlen]; omega), if_neg, if_neg (by simp only [hsz]; omega)]
  rintro ⟨k, hk, hk1⟩
  have := hck.2.2.1 k (List.take_subset _ _ hk)
  omega
theorem c9 {H : AH} {a : AV} {L : List (AV × Sq)} (n m : Int) (hn0 : 0 ≤ n) (hn1 : n < 256) (hm0 : 0 ≤ m) (hm1 : m < 256) (ha : Sr H a L) (hv : ∀ x ∈ L, x.1 = .vs x.2.ks.length false (x.2.ks.map vi)) (hl : ∀ x ∈ L, x.2.ks.length ≤ maxLen) (hL : L.length ≤ maxLen) :
    ACall Try.prog 9 [a, .pl (.int .u8 n), .pl (.int .u8 m)] H (fun v _ => v = vb true) := by
  have hmx : maxLen = 9223372036854775807 := rfl
  have la := fun k => ha.row.lenK (k := k)
  refine call_c follows cf9_ok (by simp) ?_
  by_cases c1 : (60 : Int) < L.length
  · simp [la, c1]
    refine c11.ac ?_
    simp
  simp [la, c1]
  refine c13 ha (by omega) fun o1 H1 hro => ?_
  have hS1 := hro.sub
  have hr1 := ha.of_row hro
  simp
  refine c12x hr1 hl fun H2 t hS2 hT2 hpt => ?_
  have ha2 := ha.sub (hS1.trans hS2)
  have hpn := fun k => hpt.ne (k := k)
  by_cases c2 : newT (sqs L) = 0
  case neg =>
    have hm : mkd (sqs L) = false := by simp [mkd, c2]
    rw [hm] at hpn
    simp [c2, hpn]
    refine c11.ac ?_
    simp
  have hmk : mkd (sqs L) = true := by simp [mkd, c2]
  rw [hmk] at hpn
  by_cases c3 : L = []
  · subst c3
    simp [c2, hpn, la]
    refine c11.ac ?_
    simp
  have hpos := List.length_pos_iff.2 c3
  have c3' : ¬ (L.length : Int) = 0 := by omega
  have hA := newT_acc c2
  have hlt : n.toNat % L.length < L.length := Nat.mod_lt _ hpos
  obtain ⟨p, hp1, hp2⟩ := ha2.see hlt
  have w1 : IntKind.i64.wrap n = n := IntWalk.i64_in _ (by omega)
  have w1m : IntKind.i64.wrap m = m := IntWalk.i64_in _ (by omega)
  have w2 : n.tmod L.length = ((n.toNat % L.length : Nat) : Int) := by
    rw [Int.tmod_eq_emod_of_nonneg hn0, Int.natCast_emod, Int.toNat_of_nonneg hn0]
  have hmem : L[n.toNat % L.length].2 ∈ sqs L := List.mem_map_of_mem (List.getElem_mem hlt)
  have hval := hv _ (List.getElem_mem hlt)
  generalize n.toNat % L.length = jx at *
  generalize L[jx] = xx at *
  obtain ⟨ax, sx⟩ := xx
  simp only at hmem hval hp2
  subst hval
  have hck := chk_ok (hA.chk sx hmem)
  have hlx : sx.ks.length ≠ 0 := by omega
  have hlx' : ¬ (sx.ks.length : Int) = 0 := by omega
  have hml : m.toNat % sx.ks.length < sx.ks.length := Nat.mod_lt _ (by omega)
  have w3 : m.tmod sx.ks.length = ((m.toNat % sx.ks.length : Nat) : Int) := by
    rw [Int.tmod_eq_emod_of_nonneg hm0, Int.natCast_emod, Int.toNat_of_nonneg hm0]
  have hnew := fun kx => apart_new (kx := kx) c2 (by omega) hmem (n := m.toNat % sx.ks.length + 1) (by omega) (by omega)
  generalize hjm : m.toNat % sx.ks.length = jm at *
  have w4 : IntKind.i64.wrap (1 + (jm : Int)) = ((jm + 1 : Nat) : Int) := by rw [IntWalk.i64_in _ (by omega)]; omega
  simp [c2, hpn, la, c3, w1, w2, hp1, hp2 _ (Sub.refl _), c3']
  refine newK_of fun yx hyx => ?_
  have hSx : Sub H2 (upd H2 yx (.cells [vnil, vs8 ⟨#[]⟩])) := (Sub.refl H2).upd hyx
  have hSx2 : Sub H2 (upd H2 yx (.cells [.vs sx.ks.length false (sx.ks.map vi), vs8 sx.r])) := (Sub.refl H2).upd hyx
  have gx : (upd H2 yx (.cells [.vs sx.ks.length false (sx.ks.map vi), vs8 sx.r])) yx = some (.cells [.vs sx.ks.length false (sx.ks.map vi), vs8 sx.r]) := by simp [upd_apply]
  have ha3 := ha2.sub hSx2
  have q1 : (0 : Int) ≤ ((jm + 1 : Nat) : Int) := by omega
  have q2 : ((jm + 1 : Nat) : Int) ≤ sx.ks.length := by omega
  generalize hcut : ((jm + 1 : Nat) : Int) = cut at *
  have q3 : cut.toNat = jm + 1 := by omega
  have hne := chk_nil (hA.chk sx hmem)
  simp [hp2 _ hSx, w1m, w3, hne, w4, q1, q2, q3]
  generalize upd H2 yx (.cells [.vs sx.ks.length false (sx.ks.map vi), vs8 sx.r]) = H3 at *
  have hcs : (sx.ks.map vi).take (jm + 1) = (sx.ks.take (jm + 1)).map vi := by rw [List.map_take]
  have htl : (sx.ks.take (jm + 1)).length = jm + 1 := by simp; omega
  have hkL := ha3.key
  have tail : ∀ (B H2' Hcur : AH) (o2 kx : AV) (b2 : Nat), Sub H3 B → Row B H2' o2 (flat sqc L) L.length 2 → Sub H2' Hcur → Ri B kx (sx.ks.take (jm + 1)) → kx.one = true → Hcur b2 = none →
      ∀ (k : AV → AH → Prop), (∀ o3 Hf, Sr Hf o3 (L ++ [(kx, ⟨sx.ks.take (jm + 1), ⟨#[122]⟩⟩)]) → k o3 Hf) → @appK (upd Hcur b2 (.cells [kx, vs8 ⟨#[122]⟩])) 2 40 o2 1 [kx, vs8 ⟨#[122]⟩] ⟨k⟩ := by
    intro B H2' Hcur o2 kx b2 hB hro2 hs hkx hok hb2 k hk
    refine hro2.app (hs.trans ((Sub.refl Hcur).upd hb2)) (by decide) (by simp [hok]) (flat_len sqc_len L) (by omega) fun r Hf hr hsf => hk _ _ ?_
    have hBr : Sub B (upd B r (.cells (flat sqc L ++ [kx, vs8 ⟨#[122]⟩]))) := (Sub.refl B).upd hr
    refine ⟨?_, fun x hx => ?_⟩
    · have e : flat sqc (L ++ [(kx, ⟨sx.ks.take (jm + 1), ⟨#[122]⟩⟩)]) = flat sqc L ++ [kx, vs8 ⟨#[122]⟩] := by rw [← flat_snoc]; rfl
      rw [List.length_append]
      exact (Rw.sl (by rw [flat_len sqc_len]; simp) (by rw [e]; simp [upd_apply])).sub hsf
    · rcases List.mem_append.1 hx with hx | hx
      · exact (hkL x hx).sub (hB.trans (hBr.trans hsf))
      · obtain rfl := List.mem_singleton.1 hx
        exact hkx.sub (hBr.trans hsf)
  have done : ∀ (Hf : AH) (o3 kx : AV) (K : AV → AH → Prop), Sr Hf o3 (L ++ [(kx, ⟨sx.ks.take (jm + 1), ⟨#[122]⟩⟩)]) → K (.tp [.pl (.pointer none), vi 7]) Hf → @AC Try.prog 12 [o3] Hf ⟨K⟩ := by
    intro Hf o3 kx K hs hk
    refine c12 hs (fun x hx => ?_) (fun _ => by rw [hnew]; exact hk) fun h => by rw [hnew] at h; cases h
    rcases List.mem_append.1 hx with hx | hx
    · exact hl x hx
    · obtain rfl := List.mem_singleton.1 hx
      simp only [htl]; omega
  have hcs2 : ((sx.ks.map vi).take (jm + 1)).take (jm + 1) = (sx.ks.take (jm + 1)).map vi := by rw [List.take_take, Nat.min_self, List.map_take]
  have hmin : jm + 1 ≤ min (jm + 1) sx.ks.length := by omega
  refine bothK_of ?_ ?_
  · simp
    refine c13 ha3 (by omega) fun o2 H4 hro2 => ?_
    have gx4 := hro2.sub.at gx
    simp [gx4]
    refine newK_of fun q hq => ?_
    have nq := free_ne hq yx (by simp [gx4])
    generalize hx1 : AV.sl q 0 0 1 true = x1
    simp [gx4, nq, q3, hlx, hmin]
    rw [← hx1, hcs2]
    refine sl_app hq (Sub.refl _) (allvi _) (by simp) (by omega) fun r1 H5 hr1 hs5 => ?_
    have hB1 : H3 r1 = none := hro2.sub.none_of hr1
    have hrow2 := row_beside hro2 hr1 (.cells ((sx.ks.take (jm + 1)).map vi))
    have hkr : Ri (upd H3 r1 (.cells ((sx.ks.take (jm + 1)).map vi))) (.sl r1 0 (0 + (jm + 1)) 1 false) (sx.ks.take (jm + 1)) := by
      rw [Nat.zero_add]
      have := Rw.sl (H := upd H3 r1 (.cells ((sx.ks.take (jm + 1)).map vi))) (b := r1) (n := (sx.ks.take (jm + 1)).length) (sz := 1) (f := false) (cs := (sx.ks.take (jm + 1)).map vi) (by simp) (by simp [upd_apply])
      rw [htl] at this
      have e := this
      unfold Ri
      rw [htl]
      exact e
    have hs5' : Sub (upd H4 r1 (.cells ((sx.ks.take (jm + 1)).map vi))) H5 := by
      have := hs5
      rw [List.nil_append] at this
      exact this
    have okr := hkr.one
    have ckr := hkr.cells
    generalize AV.sl r1 0 (0 + (jm + 1)) 1 false = kx at *
    simp [okr, ckr]
    refine newK_of fun b2 hb2 => ?_
    generalize hx4 : AV.sl b2 0 1 2 true = x4
    have hnw : ∀ k : Nat → List AV → Prop, @NEWS (upd H5 b2 (.cells [kx, vs8 ⟨#[122]⟩])) x4 2 ⟨k⟩ = k 1 [kx, vs8 ⟨#[122]⟩] := by intro k; rw [← hx4]; simp
    simp [hnw]
    refine tail _ _ H5 o2 kx b2 ((Sub.refl H3).upd hB1) hrow2 hs5' hkr okr hb2 _ fun o3 Hf hsr => ?_
    simp
    refine done _ _ kx _ hsr ?_
    simp
    refine c11.ac ?_
    simp
  · simp
    refine newK_of fun q hq => ?_
    have nq := free_ne hq yx (by simp [gx])
    have hSq : Sub H3 (upd H3 q (.cells [])) := (Sub.refl H3).upd hq
    generalize hx1 : AV.sl q 0 0 1 true = x1
    simp [gx, nq]
    refine c13 (ha3.sub hSq) (by omega) fun o2 H4 hro2 => ?_
    have gx4 := hro2.sub.at (hSq.at gx)
    simp [gx4, hmin, hlx]
    rw [← hx1, hcs2]
    have hrd := row_del1 hro2 hq
    have hHq : H4 q = some (.cells []) := hro2.sub.at (by simp [upd_apply])
    refine sl_app (H0 := del H4 q) (cs := []) (by simp [del_apply]) (fun j o hj => ?_) (allvi _) (by simp) (by omega) fun r1 H5 hr1 hs5 => ?_
    · simp only [upd_apply, del_apply] at hj
      by_cases e : j = q
      · rw [if_pos e] at hj; rw [e, hHq]; exact hj
      · rw [if_neg e, if_neg e] at hj; exact hj
    have hB1 : H3 r1 = none := hrd.sub.none_of hr1
    have hrow2 := row_beside hrd hr1 (.cells ((sx.ks.take (jm + 1)).map vi))
    have hkr : Ri (upd H3 r1 (.cells ((sx.ks.take (jm + 1)).map vi))) (.sl r1 0 (0 + (jm + 1)) 1 false) (sx.ks.take (jm + 1)) := by
      rw [Nat.zero_add]
      have := Rw.sl (H := upd H3 r1 (.cells ((sx.ks.take (jm + 1)).map vi))) (b := r1) (n := (sx.ks.take (jm + 1)).length) (sz := 1) (f := false) (cs := (sx.ks.take (jm + 1)).map vi) (by simp) (by simp [upd_apply])
      rw [htl] at this
      have e := this
      unfold Ri
      rw [htl]
      exact e
    have hs5' : Sub (upd (del H4 q) r1 (.cells ((sx.ks.take (jm + 1)).map vi))) H5 := by
      have := hs5
      rw [List.nil_append] at this
      exact this
    have okr := hkr.one
    have ckr := hkr.cells
    generalize AV.sl r1 0 (0 + (jm + 1)) 1 false = kx at *
    simp [okr, ckr]
    refine newK_of fun b2 hb2 => ?_
    generalize hx4 : AV.sl b2 0 1 2 true = x4
    have hnw : ∀ k : Nat → List AV → Prop, @NEWS (upd H5 b2 (.cells [kx, vs8 ⟨#[122]⟩])) x4 2 ⟨k⟩ = k 1 [kx, vs8 ⟨#[122]⟩] := by intro k; rw [← hx4]; simp
    simp [hnw]
    refine tail _ _ H5 o2 kx b2 ((Sub.refl H3).upd hB1) hrow2 hs5' hkr okr hb2 _ fun o3 Hf hsr => ?_
    simp
    refine done _ _ kx _ hsr ?_
    simp
    refine c11.ac ?_
    simp
end Go.Proofs.Ytbdcnoahalknkaa
