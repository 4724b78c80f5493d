/-
  The reference's layout: Move. Conditions: as each lemma states them.
-/
import Derived.Test.YtidcajmbkbamcaaL20
namespace Go.Proofs.Ytidcajmbkbamcaa
open Go Go.Ab Go.RowKit
set_option linter.unusedSimpArgs false
set_option linter.unusedVariables false
set_option linter.unnecessarySimpa false

attribute [local simp] condK_true condK_false condK_not wpc_skip wpc_ret wpc_exit wpc_seq wpc_reg wpc_regD testA_bool wpc_cond wpc_block thenA_normal thenA_ret thenA_exit blockA_normal blockA_ret blockA_exit blockA_other endA_normal endA_ret ev_tmp' ev_const ev_func ev_global cv_int cv_bool cv_string cv_pointer cv_slice cv_agg put_some put_none wH_s setE_apply setE_env less_eq env_cons env_nil upd_upd upd_apply del_apply startA_eq cells_ag cells_sl one_sl cells_vs one_vs cells_ep one_ep cells_fn one_fn cells_int one_int cells_bool one_bool cells_string one_string cells_pointer one_pointer cells_slice one_slice cells_map one_map cells_agg resK_one resK_nil resK_two rvK_t rvK_c rvsK_nil rvsK_cons iseq_nil iseq_cons gdA_true gdA_false gdA_undef istep_free istep_guard istepV_free istepV_guard dseq_nil dseq_pu dseq_rd dseq_ef chkAll_nil chkAll_cons andK_true pickK_true pickK_false pickK_tb pickK_fb bin2K_pl eqbK_eq eqbK_ne eqpK_eq eqpK_ne un1K_pl convK_int fillK_some fillA_cons fillA_nil cellsK_some needK_true needK_ok seeK_ep seeK_ptr oneK_agg oneK_one nilcK_ptr nilcK_ep fadrK_ptr fadrK_ep fldK_ag iadAK_ptr iadAK_ep iadSK_sl iadSK_vs extK_0 extK_1 extK_2 extK_3 lenK_pl lenK_sl lenK_vs lensK_pl boxK_some minmax1K_int storeK_ptr callvK_fn callvK_pl newsK_nil newsK_vs newsK_sl appK_nil appK_nil0 appK_sl appK_vs bnd1K_int bndK_none bndK_some slsK_vs slsK_nil slsK_sl0 slsK_sl slstrK_pl boolK_some eqsK_ag iop_eqs iop_sls iop_slstr seesK_some seesK_ro mapsK_some MAP_some findK_some findK_none plK_pl nmapK_none nmapK_some iop_mlook iop_mlen iop_mmk iop_mupd iop_mdel iop_mrng itK_none itK_some ptr0K_ptr iop_mnxt iop_ment it1K_some entK_some iop_mov iop_pick iop_bin iop_eqb iop_eqp iop_un iop_conv iop_build iop_load iop_nilc iop_fadr iop_fld iop_iadA iop_iadS iop_ext iop_mkf iop_len iop_lens iop_minmax iop_al iop_box iop_bsl iop_store iop_call iop_callv iop_app BIN_add BIN_sub BIN_mul BIN_and BIN_or BIN_xor BIN_andNot BIN_eql BIN_neq BIN_lss BIN_leq BIN_gtr BIN_geq BIN_quo BIN_rem BIN_shl BIN_shr BIN_sadd BIN_seql BIN_sneq BIN_slss BIN_sleq BIN_sgtr BIN_sgeq UN_neg UN_xor UN_not MM_nil MM_cons partsA argsA ptrA lessL eqL min2I slotN_int slotP_int slotI_int
attribute [local simp] oc_len oc_tt oc_dd oc_one oc_ag oc_t1 oc_t2 oc_t3 oc_t4 oc_t5 oc_t6 oc_t7 oc_d1 oc_d2 oc_d3 oc_d4 oc_d5 oc_d6 oc_d7 opq_len opq_tt opq_dd opq_one opq_ag opq_t1 opq_t2 opq_t3 opq_t4 opq_t5 opq_t6 opq_t7 opq_t8 opq_d1 opq_d2 opq_d3 opq_d4 opq_d5 opq_d6 opq_d7 opq_d8 rc_len rc_t4 rc_t1 rc_t2 rc_t3 rc_d1 rc_d2 rc_d3 rc_d4 rc_ag rc_one rc_eq min2_t min2_f

theorem fndF_spec {s : ByteArray} : ∀ (L : List O) (j : Int), (fndF s L j = -1 ∧ ∀ o ∈ L, o.nm ≠ s) ∨ ∃ (L1 : List O) (e : O) (L2 : List O), L = L1 ++ e :: L2 ∧ fndF s L j = j + L1.length ∧ e.nm = s ∧ ∀ o ∈ L1, o.nm ≠ s
  | [], j => .inl ⟨rfl, fun _ h => by cases h⟩
  | x :: L, j => by
    unfold fndF
    by_cases h : x.nm = s
    · rw [if_pos h]
      exact .inr ⟨[], x, L, rfl, by simp, h, fun _ h => by cases h⟩
    · rw [if_neg h]
      rcases fndF_spec L (j + 1) with ⟨h1, h2⟩ | ⟨L1, e, L2, h1, h2, h3, h4⟩
      · refine .inl ⟨h1, fun o ho => ?_⟩
        rcases List.mem_cons.1 ho with rfl | ho
        · exact h
        · exact h2 o ho
      · refine .inr ⟨x :: L1, e, L2, by rw [h1]; rfl, by rw [h2]; simp; omega, h3, fun o ho => ?_⟩
        rcases List.mem_cons.1 ho with rfl | ho
        · exact h
        · exact h4 o ho
def wmvE (L : List O) (s : ByteArray) (x y : Int) : Int := if fndF s L 0 < 0 then 8 else if chk (at_ (look L s) x y) ≠ 0 then chk (at_ (look L s) x y) else if ovkF (at_ (look L s) x y) (fndF s L 0) L 0 = true then 6 else 0
def wmvL (L : List O) (s : ByteArray) (x y : Int) : List O := if wmvE L s x y = 0 then L.set (fndF s L 0).toNat (at_ (look L s) x y) else L
theorem c42 {H : AH} {K : AV → AH → Prop} {x : AV} (L : List O) (s : ByteArray) (x0 y0 : Int) (hx : LR H x L) (hl : L.length ≤ 1000000)
    (hk : Back H (wmvL L s x0 y0) (wmvE L s x0 y0) K) : @AC Try.prog 42 [.ag [vb true, x], vs8 s, vi x0, vi y0] H ⟨K⟩ := by
  refine AC_of (.forget ?_)
  have ox := hx.one
  refine call_c follows cf42_ok (by simp) ?_
  simp [ox]
  refine newK_of fun z hz => ?_
  simp
  refine newK_of fun v hv => ?_
  obtain ⟨n1, n2, hv2⟩ := upd_none'.1 hv
  simp [n2]
  have hS : Sub H (upd (upd H z (.cells [vb true, x])) v (.cells [vb false, vnil])) := ((Sub.refl H).upd hz).upd hv2
  have h2z : (upd (upd H z (.cells [vb true, x])) v (.cells [vb false, vnil])) z = some (.cells [vb true, x]) := by simp [upd_apply, n2]
  have h2v : (upd (upd H z (.cells [vb true, x])) v (.cells [vb false, vnil])) v = some (.cells [vb false, vnil]) := by simp [upd_apply]
  generalize upd (upd H z (.cells [vb true, x])) v (.cells [vb false, vnil]) = H2 at *
  have hx2 := hx.sub hS
  have lx := fun k => hx.lenK (k := k)
  try simp [h2z, ox]
  refine c56 L s hx2 hl ?_
  have bad : ∀ {E} {H'}, Sub H2 H' → wmvE L s x0 y0 = E → E ≠ 0 → ∃ H1, Sub H1 (upd H' v (.cells [vb true, x])) ∧ K (.tp [.ag [vb true, x], vi E]) H1 := by
    intro E H' hs e1 e2
    have := hk x H (Sub.refl H) (by rw [wmvL, if_neg (by rw [e1]; exact e2)]; exact hx)
    rw [e1] at this
    exact ⟨H, (hS.trans hs).upd hv2, this⟩
  rcases fndF_spec (s := s) L 0 with ⟨h1, _⟩ | ⟨L1, e, L2, hL, h1, h3, h4⟩
  · have e1 : wmvE L s x0 y0 = 8 := by rw [wmvE, if_pos (by omega)]
    simp [h1, h2z, h2v, ox]
    exact bad (Sub.refl _) e1 (by decide)
  have hlk : look L s = e := by rw [hL]; exact look_mid h4 h3
  rw [Int.zero_add] at h1
  have hlt : L1.length < L.length := by rw [hL]; simp
  have hge : L[L1.length] = e := by simp [hL]
  have hd := oc_at hlt
  rw [hge] at hd
  have hbd : L1.length * 8 + 8 ≤ (flat oc L).length := by rw [oc_flat_len]; omega
  have hE : wmvE L s x0 y0 = if chk (at_ e x0 y0) ≠ 0 then chk (at_ e x0 y0) else if ovkF (at_ e x0 y0) L1.length L 0 = true then 6 else 0 := by
    rw [wmvE, if_neg (by omega), hlk, h1]
  obtain ⟨q, f, rfl, hqH⟩ := hx2.sl (by omega)
  have hneg : ¬ (L1.length : Int) < 0 := by omega
  rw [h1]
  simp (disch := omega) [h2z, h2v, ox, hqH, hd, hbd, hlt, hneg]
  refine newK_of fun u hu => ?_
  have nu1 := free_ne hu z (by simp [h2z])
  have nu2 := free_ne hu v (by simp [h2v])
  have nu3 := free_ne hu q (by simp [hqH])
  have hsu : Sub H2 (upd H2 u (.cells (oc (at_ e x0 y0)))) := (Sub.refl H2).upd hu
  have hcell : ([vs8 e.nm, vi e.w, vi e.h, vi e.rf, vi e.sc, vi e.tr, vi x0, vi y0] : List AV) = oc (at_ e x0 y0) := rfl
  have hat : (⟨e.nm, e.w, e.h, e.rf, e.sc, e.tr, x0, y0⟩ : O) = at_ e x0 y0 := rfl
  simp (disch := omega) [nu1, nu2, nu3, upd_upd, hcell, hat]
  have gz := hsu.at h2z
  have gv := hsu.at h2v
  have gq := hsu.at hqH
  have gu : upd H2 u (.cells (oc (at_ e x0 y0))) u = some (.cells (oc (at_ e x0 y0))) := by simp [upd_apply]
  have hx3 := hx2.sub hsu
  have huH := hS.none_of hu
  generalize upd H2 u (.cells (oc (at_ e x0 y0))) = H3 at *
  refine (c49 (at_ e x0 y0)).ac ?_
  by_cases c1 : chk (at_ e x0 y0) = 0
  case neg =>
    have e1 : wmvE L s x0 y0 = chk (at_ e x0 y0) := by rw [hE, if_pos c1]
    simp [c1, gz, gv, ox]
    exact bad hsu e1 c1
  simp [c1, gz, gv, gu, ox]
  refine c57 L (at_ e x0 y0) L1.length hx3 hl ?_
  cases c2 : ovkF (at_ e x0 y0) L1.length L 0 with
  | true =>
    have e1 : wmvE L s x0 y0 = 6 := by rw [hE, if_neg (by simp [c1]), if_pos c2]
    simp [gz, gv, ox]
    exact bad hsu e1 (by decide)
  | false =>
  have e1 : wmvE L s x0 y0 = 0 := by rw [hE, if_neg (by simp [c1]), if_neg (by simp [c2])]
  simp [gz, gv, gu, gq, ox]
  refine newK_of fun w hw => ?_
  have nw1 := free_ne hw z (by simp [gz])
  have nw2 := free_ne hw v (by simp [gv])
  have nw3 := free_ne hw q (by simp [gq])
  have nw4 := free_ne hw u (by simp [gu])
  have hn8 : L.length * 8 ≤ (flat oc L).length := by rw [oc_flat_len]; omega
  have htk : (flat oc L).take (L.length * 8) = flat oc L := List.take_of_length_le (by rw [oc_flat_len]; omega)
  have hall : (flat oc L).all AV.one = true := by
    rw [List.all_eq_true]
    intro c hc
    obtain ⟨cs, hcs, hc⟩ := List.mem_flatten.1 hc
    obtain ⟨o, _, rfl⟩ := List.mem_map.1 hcs
    have := oc_one o
    rw [List.all_eq_true] at this
    exact this c hc
  have hl72 : L.length * 72 ≤ 140737488355328 := by omega
  have hall' : ∀ c ∈ flat oc L, c.one = true := List.all_eq_true.1 hall
  simp [gz, gv, gu, gq, ox, nw1, nw2, nw3, nw4, hn8, htk, hall, hall', hl72]
  refine ownK_of fun g hg => ?_
  have hg3 : H3 g = none := by
    rcases hg with rfl | hg
    · exact hw
    · exact (upd_none'.1 hg).2.2
  have hSg : Sub H3 (upd (del (upd H3 w (.cells [])) w) g (.cells (flat oc L))) := by
    intro j o hj
    simp only [upd_apply, del_apply]
    rw [if_neg (by rintro rfl; rw [hg3] at hj; cases hj), if_neg (by rintro rfl; rw [hw] at hj; cases hj), if_neg (by rintro rfl; rw [hw] at hj; cases hj)]
    exact hj
  have rz := hSg.at gz
  have rv := hSg.at gv
  have ru := hSg.at gu
  have rg : upd (del (upd H3 w (.cells [])) w) g (.cells (flat oc L)) g = some (.cells (flat oc L)) := by simp [upd_apply]
  simp
  generalize upd (del (upd H3 w (.cells [])) w) g (.cells (flat oc L)) = H4 at *
  refine newK_of fun t ht => ?_
  have nt1 := free_ne ht v (by simp [rv])
  have nt2 := free_ne ht u (by simp [ru])
  have nt3 := free_ne ht g (by simp [rg])
  have nvg := free_ne hg3 v (by simp [gv])
  have hset : L.set L1.length (at_ e x0 y0) = L1 ++ at_ e x0 y0 :: L2 := by rw [hL]; simp
  have hf1 : flat oc L = flat oc L1 ++ (oc e ++ flat oc L2) := by rw [hL]; simp [flat]
  have hf2 : List.take (L1.length * 8) (flat oc L) ++ (oc (at_ e x0 y0) ++ List.drop (L1.length * 8 + 8) (flat oc L)) = flat oc (L.set L1.length (at_ e x0 y0)) := by
    rw [hset, hf1]
    have l1 : (flat oc L1).length = L1.length * 8 := oc_flat_len L1
    have t1 : List.take (L1.length * 8) (flat oc L1 ++ (oc e ++ flat oc L2)) = flat oc L1 := by rw [← l1, List.take_left]
    have t2 : List.drop (L1.length * 8 + 8) (flat oc L1 ++ (oc e ++ flat oc L2)) = flat oc L2 := by
      rw [← List.drop_drop, ← l1, List.drop_left]; rfl
    rw [t1, t2]
    simp [flat]
  have hM : wmvL L s x0 y0 = L.set L1.length (at_ e x0 y0) := by rw [wmvL, if_pos e1, h1, hlk]; simp
  have hgH : H g = none := (hS.trans hsu).none_of hg3
  have hS4 : Sub H H4 := (hS.trans hsu).trans hSg
  have htH : H t = none := hS4.none_of ht
  have fin : K (.tp [.ag [vb true, .sl g 0 L.length 8 false], vi 0]) (upd H g (.cells (flat oc (L.set L1.length (at_ e x0 y0))))) := by
    have := hk (.sl g 0 L.length 8 false) (upd H g (.cells (flat oc (L.set L1.length (at_ e x0 y0))))) ((Sub.refl H).upd hgH) (by
      rw [hM]
      refine ⟨oc_flat_len _, .inr ⟨g, false, by simp, by simp [upd_apply]⟩⟩)
    rwa [e1] at this
  simp (disch := omega) [rz, rv, ru, rg, nt1, nt2, nt3, h1, hbd, hlt, hneg, nvg, hf2]
  refine ⟨_, ?_, fin⟩
  intro j o hj
  simp only [upd_apply] at hj ⊢
  by_cases c5 : j = g
  · subst c5
    simp only [if_true] at hj
    rw [if_neg nvg.2, if_pos rfl]; exact hj
  · rw [if_neg c5] at hj
    have n1 : j ≠ v := by rintro rfl; rw [hv2] at hj; cases hj
    have n2 : j ≠ t := by rintro rfl; rw [htH] at hj; cases hj
    rw [if_neg n1, if_neg c5, if_neg n2]
    exact hS4 j o hj
end Go.Proofs.Ytidcajmbkbamcaa
