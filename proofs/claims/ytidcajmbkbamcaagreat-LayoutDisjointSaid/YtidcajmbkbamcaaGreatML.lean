/-
  Several texts in one: L1; L2; L3; L4; L5; L6; L7; L8; L10; L11; L12; L14; L15; L16; L17; L18; L19; L20; L21; L22; L23; L24. Conditions: as each lemma states them.
-/
import Derived.Test.YtidcajmbkbamcaaGreatMO
import Derived.Test.YtidcajmbkbamcaaGreatAbM
import Derived.Test.YtidcajmbkbamcaaGreatAbN
import Derived.Test.YtidcajmbkbamcaaGreatAbS
import Derived.Test.YtidcajmbkbamcaaGreatShelf
import Derived.Test.YtidcajmbkbamcaaGreatXRow
import Derived.Test.YtidcajmbkbamcaaGreatRows
import Derived.WalkKit
import Derived.ProofKit
/-! The layout: its map of outputs, their names in order, the outputs. Conditions: as each lemma states them. -/
section
namespace Go.Proofs.YtidcajmbkbamcaaGreat
open Go Go.Ab Go.RowKit
set_option linter.unusedSimpArgs false
set_option linter.unusedVariables false
set_option linter.unnecessarySimpa false

attribute [local simp] condK_true condK_false condK_not wpc_skip wpc_ret wpc_exit wpc_seq wpc_reg wpc_regD testA_bool wpc_cond wpc_block thenA_normal thenA_ret thenA_exit blockA_normal blockA_ret blockA_exit blockA_other endA_normal endA_ret ev_tmp' ev_const ev_func ev_global cv_int cv_bool cv_string cv_pointer cv_slice cv_agg cv_map put_some put_none wH_s setE_apply setE_env less_eq env_cons env_nil upd_upd upd_apply del_apply startA_eq cells_ag cells_sl one_sl cells_vs one_vs cells_ep one_ep cells_fn one_fn cells_int one_int cells_bool one_bool cells_string one_string cells_pointer one_pointer cells_slice one_slice cells_map one_map cells_agg resK_one resK_nil resK_two rvK_t rvK_c rvsK_nil rvsK_cons iseq_nil iseq_cons gdA_true gdA_false gdA_undef istep_free istep_guard istepV_free istepV_guard dseq_nil dseq_pu dseq_rd dseq_ef wpc_regT dtree_nil dtree_pu dtree_rd dtree_ef dtree_br chkAll_nil chkAll_cons andK_true pickK_true pickK_false pickK_tb pickK_fb bin2K_pl eqbK_eq eqbK_ne eqpK_eq eqpK_ne eqmK_eq eqmK_ne eqzK_eq eqzK_ne eqzK_sl eqzK_vs un1K_pl convK_int fillK_some fillA_cons fillA_nil cellsK_some needK_true needK_ok seeK_ep seeK_ptr oneK_agg oneK_one nilcK_ptr nilcK_ep fadrK_ptr fadrK_ep fldK_ag iadAK_ptr iadAK_ep iadSK_sl iadSK_vs extK_0 extK_1 extK_2 extK_3 lenK_pl lenK_sl lenK_vs lensK_pl boxK_some minmax1K_int storeK_ptr callvK_fn callvK_pl newsK_nil newsK_vs newsK_sl appK_nil appK_nil0 appK_sl appK_vs bnd1K_int bndK_none bndK_some slsK_vs slsK_nil slsK_sl0 slsK_sl slstrK_pl boolK_some eqsK_ag iop_eqs iop_sls iop_slstr seesK_some seesK_ro mapsK_some MAP_some findK_some findK_none plK_pl nmapK_none nmapK_some iop_mlook iop_mlen iop_mmk iop_mupd iop_mdel iop_mrng itK_none itK_some ptr0K_ptr iop_mnxt iop_ment it1K_some entK_some iop_mov iop_pick iop_bin iop_eqb iop_eqp iop_eqm iop_eqz iop_un capK_pl capK_sl capK_vs iop_cap apzK_nil iop_apz mksK_int iop_mks clrK_sl clrK_vs clrK_nil iop_clr iop_conv iop_build iop_load iop_nilc iop_fadr iop_fld iop_iadA iop_iadS iop_ext iop_mkf iop_len iop_lens iop_minmax iop_al iop_box iop_bsl iop_store iop_call iop_callv iop_app BIN_add BIN_sub BIN_mul BIN_and BIN_or BIN_xor BIN_andNot BIN_eql BIN_neq BIN_lss BIN_leq BIN_gtr BIN_geq BIN_quo BIN_rem BIN_shl BIN_shr BIN_sadd BIN_seql BIN_sneq BIN_slss BIN_sleq BIN_sgtr BIN_sgeq UN_neg UN_xor UN_not MM_nil MM_cons partsA argsA ptrA lessL eqL min2I slotN_int slotP_int slotI_int

theorem oc_len (r : O) : (oc r).length = 8 := rfl
theorem oc_tt (r : O) : (oc r).take 8 = oc r := rfl
theorem oc_dd (r : O) : (oc r).drop 8 = [] := rfl
theorem oc_one (r : O) : (oc r).all AV.one = true := rfl
theorem oc_t1 (r : O) : (oc r).take 1 = [vs8 r.nm] := rfl
theorem oc_d1 (r : O) : (oc r).tail = [vi r.w, vi r.h, vi r.rf, vi r.sc, vi r.tr, vi r.x, vi r.y] := rfl
theorem oc_t2 (r : O) : (oc r).take 2 = [vs8 r.nm, vi r.w] := rfl
theorem oc_d2 (r : O) : (oc r).drop 2 = [vi r.h, vi r.rf, vi r.sc, vi r.tr, vi r.x, vi r.y] := rfl
theorem oc_t3 (r : O) : (oc r).take 3 = [vs8 r.nm, vi r.w, vi r.h] := rfl
theorem oc_d3 (r : O) : (oc r).drop 3 = [vi r.rf, vi r.sc, vi r.tr, vi r.x, vi r.y] := rfl
theorem oc_t4 (r : O) : (oc r).take 4 = [vs8 r.nm, vi r.w, vi r.h, vi r.rf] := rfl
theorem oc_d4 (r : O) : (oc r).drop 4 = [vi r.sc, vi r.tr, vi r.x, vi r.y] := rfl
theorem oc_t5 (r : O) : (oc r).take 5 = [vs8 r.nm, vi r.w, vi r.h, vi r.rf, vi r.sc] := rfl
theorem oc_d5 (r : O) : (oc r).drop 5 = [vi r.tr, vi r.x, vi r.y] := rfl
theorem oc_t6 (r : O) : (oc r).take 6 = [vs8 r.nm, vi r.w, vi r.h, vi r.rf, vi r.sc, vi r.tr] := rfl
theorem oc_d6 (r : O) : (oc r).drop 6 = [vi r.x, vi r.y] := rfl
theorem oc_t7 (r : O) : (oc r).take 7 = [vs8 r.nm, vi r.w, vi r.h, vi r.rf, vi r.sc, vi r.tr, vi r.x] := rfl
theorem oc_d7 (r : O) : (oc r).drop 7 = [vi r.y] := rfl
theorem oc_ag (c0 : ByteArray) (c1 : Int) (c2 : Int) (c3 : Int) (c4 : Int) (c5 : Int) (c6 : Int) (c7 : Int) : AV.ag [vs8 c0, vi c1, vi c2, vi c3, vi c4, vi c5, vi c6, vi c7] = .ag (oc ⟨c0, c1, c2, c3, c4, c5, c6, c7⟩) := rfl
attribute [local simp] oc_len oc_tt oc_dd oc_one oc_ag oc_t1 oc_t2 oc_t3 oc_t4 oc_t5 oc_t6 oc_t7 oc_d1 oc_d2 oc_d3 oc_d4 oc_d5 oc_d6 oc_d7
abbrev okey (o : O) : ByteArray := o.nm
abbrev oval (o : O) : AV := .ag (oc o)
/-- The object, its map, the map's entries. -/
structure LS (H : AH) (p b : Nat) (m : List O) (st : List Nat) (cl : Nat) : Prop where
  ob : H p = some (.cells [vb true, .pl (.map (some b))])
  mp : H b = some (.map (mS okey oval m) st cl)
  ne : p ≠ b
  nd : (m.map okey).Nodup
  stp : Stp st cl m.length
theorem LS.sub {H H' : AH} {p b : Nat} {m : List O} {st : List Nat} {cl : Nat} (h : LS H p b m st cl) (hs : Sub H H') : LS H' p b m st cl := ⟨hs _ _ h.ob, hs _ _ h.mp, h.ne, h.nd, h.stp⟩
def upo (H : AH) (b : Nat) (m : List O) (st : List Nat) (cl : Nat) : AH := upd H b (.map (mS okey oval m) st cl)
theorem LS.new {H : AH} {p b : Nat} {m m' : List O} {st st' : List Nat} {cl cl' : Nat} (h : LS H p b m st cl) (nd : (m'.map okey).Nodup) (stp : Stp st' cl' m'.length) : LS (upo H b m' st' cl') p b m' st' cl' :=
  ⟨by simp only [upo, upd_apply, if_neg h.ne]; exact h.ob, by simp only [upo, upd_apply, if_true], h.ne, nd, stp⟩
theorem upd_self {H : AH} {b : Nat} {o : AO} (h : H b = some o) : upd H b o = H := by
  funext j; simp only [upd_apply]; split
  · rename_i e; rw [e, h]
  · rfl
theorem LS.self {H : AH} {p b : Nat} {m : List O} {st : List Nat} {cl : Nat} (h : LS H p b m st cl) : upo H b m st cl = H := upd_self h.mp
theorem c33 {H : AH} {K : AV → AH → Prop} {p b : Nat} {m : List O} {st : List Nat} {cl : Nat} (h : LS H p b m st cl) (hk : K (vb true) H) : @AC Tryz.prog 33 [pA p] H ⟨K⟩ := by
  have h1 := h.ob
  refine call_c follows cf33_ok (by simp) ?_
  simp [*]
theorem c6 {H : AH} {K : AV → AH → Prop} (hk : ∀ p b, H p = none → H b = none → LS (upd (upd H b (.map [] [] 0)) p (.cells [vb true, .pl (.map (some b))])) p b [] [] 0 → K (pA p) (upd (upd H b (.map [] [] 0)) p (.cells [vb true, .pl (.map (some b))]))) :
    @AC Tryz.prog 6 [] H ⟨K⟩ := by
  refine call_c follows cf6_ok (by simp) ?_
  simp
  refine newK_of fun b hb => ?_
  simp
  refine newK_of fun p hp => ?_
  obtain ⟨n1, n2, hp⟩ := upd_none'.1 hp
  simp
  exact hk p b hp hb ⟨by simp [upd_apply], by simp [upd_apply, n2, mS], n1, .nil, .nil⟩
/-- The names of the outputs, in order. -/
def snames (m : List O) : List ByteArray := (srtL (m.map fun o => o.nm.toList)).map toB
theorem snames_len (m : List O) : (snames m).length = m.length := by simp [snames, srtL]
theorem snames_of {l : List ByteArray} {m : List O} (h : l.Perm (m.map okey)) : (srtL (l.map (·.toList))).map toB = snames m := by
  unfold snames
  rw [srtL_perm (h.map _), List.map_map]
  rfl
theorem rowC_names (l : List ByteArray) : rowC encStr [] (l.map (·.toList)) [] = l.map vs8 := by
  simp only [rowC, List.nil_append, List.append_nil, List.map_map]
  refine List.map_congr_left fun b _ => ?_
  show AV.pl (.string ⟨b.toList.toArray⟩) = vs8 b
  rw [ByteArray.toList_eq]
theorem rowC_names' (z : List (List UInt8)) : rowC encStr [] z [] = (z.map toB).map vs8 := by
  simp only [rowC, List.nil_append, List.append_nil, List.map_map]
  rfl
def allO (x : O) : Bool := true
theorem c34 {H : AH} {K : AV → AH → Prop} {p b : Nat} {m : List O} {st : List Nat} {cl : Nat} (h : LS H p b m st cl) (hm : m.length ≤ 1000000)
    (hk : ∀ out H', Row H H' out ((snames m).map vs8) m.length 1 → K out H') : @AC Tryz.prog 34 [pA p] H ⟨K⟩ := by
  have h1 := h.ob
  have h2 := h.mp
  refine AC_of (.forget ?_)
  refine call_c follows cf34_ok (by simp) ?_
  simp [*]
  refine newK_of fun it hit => ?_
  have hbi : b ≠ it := ne_of_free h2 hit
  simp
  refine wpc_loop (fun s => ∃ (seen : List Nat) (out : AV) (l : List ByteArray), s.n = 21 ∧ s.t 3 = out ∧ s.t 9 = pA it ∧ Row (upd H it (.it b cl cl seen)) s.H out (l.map vs8) l.length 1 ∧ l.Perm ((vis allO m st seen).map okey))
    (fun s => left st (slotSn s.H it)) ?_ ?_
  · refine FgK.same ⟨[], vnil, [], by simp, by simp, by simp, Row.nil _ 1, ?_⟩
    rw [vis_nil]; exact .refl _
  rintro s ⟨seen, out, l, hn, e3, e9, hrow, hperm⟩
  have hsub := hrow.sub
  have hHi : s.H it = some (.it b cl cl seen) := hsub _ _ (by simp [upd_apply])
  have hHb : s.H b = some (.map (mS okey oval m) st cl) := hsub _ _ (by simp [upd_apply, hbi, h2])
  have hms : left st (slotSn s.H it) = left st seen := by rw [slotSn_of hHi]
  simp [hn, e3, e9, hHi, hHb]
  refine nextK_of h.stp.2.2 (Nat.le_refl _) (fun hall => ?_) (fun j e s1 hj hs1 hns => ?_)
  · have hp2 : l.Perm (m.map okey) := by
      have e := vis_all allO m st seen h.stp.1.symm hall
      rw [e] at hperm
      have : m.filter allO = m := List.filter_eq_self.2 fun _ _ => rfl
      rwa [this] at hperm
    have hln : l.length = m.length := by simpa using hp2.length_eq
    have hnm := snames_of hp2
    have hsubH : Sub H (upd H it (.it b cl cl seen)) := (Sub.refl H).upd hit
    rcases hrow with ⟨f1, f2, rfl, f4⟩ | ⟨q, rfl, hq, hsH⟩
    · obtain rfl : l = [] := by simpa using f2
      have : m.length = 0 := by simpa using hln.symm
      simp [hn, e3]
      refine AC_of (sort_nil Tryz.slices_Sort_string_none ?_)
      simp [hn, e3]
      refine ⟨H, by rw [f4]; exact hsubH, ?_⟩
      obtain rfl : m = [] := List.length_eq_zero_iff.1 this
      have e0 : snames ([] : List O) = [] := by simp [snames, srtL]
      exact hk vnil H (by rw [e0]; exact Row.nil H 1)
    · simp [hn, e3]
      have hq2 : H q = none ∧ q ≠ it := by
        have : q ≠ it := by rintro rfl; simp [upd_apply] at hq
        exact ⟨by simpa [upd_apply, this] using hq, this⟩
      refine AC_of ?_
      have hzl : (l.map (·.toList)).length = l.length := by simp
      rw [← hzl]
      refine sort_row (H := s.H) (enc := encStr) (b := q) (pre := []) (post := []) (zs := l.map (·.toList)) (fun blk off cap zs w => Tryz.slices_Sort_string blk off cap zs w) (by rw [hsH, rowC_names]; simp [upd_apply]) (by rw [hzl]; omega) ?_
      rw [rowC_names']
      have hnm' : ((l.map (·.toList)).mergeSort fun x y => decide (x ≤ y)).map toB = snames m := hnm
      rw [hnm']
      simp [hn, e3]
      refine ⟨upd H q (.cells ((snames m).map vs8)), ?_, ?_⟩
      · rw [hsH]
        intro j o hj
        simp only [upd_apply] at hj ⊢
        split
        · rename_i e; rw [if_pos e] at hj; exact hj
        · rename_i e
          rw [if_neg e] at hj
          rw [if_neg (by rintro rfl; rw [hit] at hj; cases hj)]
          exact hj
      · have := hk (.sl q 0 l.length 1 false) _ (by rw [hln]; exact Row.mk hq2.1)
        exact this
  · obtain ⟨x, hx, rfl⟩ : ∃ x, m[j]? = some x ∧ e = (.string (okey x), oval x) := by
      simp only [mS, List.getElem?_map, Option.map_eq_some_iff] at hj
      obtain ⟨x, h3, h4⟩ := hj
      exact ⟨x, h3, h4.symm⟩
    have he := entF_of (mS okey oval m) st j _ s1 h.stp.2.1 hj hs1
    have hst := vis_step allO m st seen j x s1 h.stp.2.1 hx hs1 hns
    have hrow2 := hrow.turn (X' := .it b cl cl (s1 :: seen))
    have hlt := left_lt (List.mem_of_getElem? hs1) hns
    have hll : l.length ≤ m.length := by
      have h3 := hperm.length_eq
      have h4 := (vis_sub allO m st seen)
      simp at h3; omega
    have hIt : upd s.H it (.it b cl cl (s1 :: seen)) it = some (.it b cl cl (s1 :: seen)) := by simp [upd_apply]
    have hMp : upd s.H it (.it b cl cl (s1 :: seen)) b = some (.map (mS okey oval m) st cl) := by simp [upd_apply, hbi, hHb]
    simp [hn, e3, e9, hHb, hbi, he]
    refine newK_of fun z hz => ?_
    have hsz : Sub (upd s.H it (.it b cl cl (s1 :: seen))) (upd (upd s.H it (.it b cl cl (s1 :: seen))) z (.cells [vs8 x.nm])) := (Sub.refl _).upd hz
    try simp [hn, e3, e9]
    refine hrow2.app (by exact hsz) (by decide) rfl (by simp) (by omega) fun q H' hq hsq => ?_
    simp [hn, e3, e9]
    refine FgK.of _ hsq ⟨⟨s1 :: seen, .sl q 0 (l.length + 1) 1 false, l ++ [x.nm], by simp [hn], by simp, by simp [e9], ?_, ?_⟩, ?_⟩
    · have := Row.mk (cs := l.map vs8 ++ [vs8 x.nm]) (n := l.length + 1) (sz := 1) hq
      simpa using this
    · have h5 := hst.symm.map okey
      simp only [allO, if_true, List.map_append, List.map_cons, List.map_nil] at h5
      exact (hperm.append_right _).trans h5
    · have hqi : q ≠ it := by rintro rfl; simp [upd_apply] at hq
      rw [slotSn_of (m := b) (since := cl) (last := cl) (seen := s1 :: seen) (by simp [upd_apply, Ne.symm hqi]), hms]; exact hlt
end Go.Proofs.YtidcajmbkbamcaaGreat
end

/-! The layout: its outputs and their areas in order. Conditions: as each lemma states them. -/
section
namespace Go.Proofs.YtidcajmbkbamcaaGreat
open Go Go.Ab Go.RowKit
set_option linter.unusedSimpArgs false
set_option linter.unusedVariables false
set_option linter.unnecessarySimpa false

attribute [local simp] condK_true condK_false condK_not wpc_skip wpc_ret wpc_exit wpc_seq wpc_reg wpc_regD testA_bool wpc_cond wpc_block thenA_normal thenA_ret thenA_exit blockA_normal blockA_ret blockA_exit blockA_other endA_normal endA_ret ev_tmp' ev_const ev_func ev_global cv_int cv_bool cv_string cv_pointer cv_slice cv_agg cv_map put_some put_none wH_s setE_apply setE_env less_eq env_cons env_nil upd_upd upd_apply del_apply startA_eq cells_ag cells_sl one_sl cells_vs one_vs cells_ep one_ep cells_fn one_fn cells_int one_int cells_bool one_bool cells_string one_string cells_pointer one_pointer cells_slice one_slice cells_map one_map cells_agg resK_one resK_nil resK_two rvK_t rvK_c rvsK_nil rvsK_cons iseq_nil iseq_cons gdA_true gdA_false gdA_undef istep_free istep_guard istepV_free istepV_guard dseq_nil dseq_pu dseq_rd dseq_ef wpc_regT dtree_nil dtree_pu dtree_rd dtree_ef dtree_br chkAll_nil chkAll_cons andK_true pickK_true pickK_false pickK_tb pickK_fb bin2K_pl eqbK_eq eqbK_ne eqpK_eq eqpK_ne eqmK_eq eqmK_ne eqzK_eq eqzK_ne eqzK_sl eqzK_vs un1K_pl convK_int fillK_some fillA_cons fillA_nil cellsK_some needK_true needK_ok seeK_ep seeK_ptr oneK_agg oneK_one nilcK_ptr nilcK_ep fadrK_ptr fadrK_ep fldK_ag iadAK_ptr iadAK_ep iadSK_sl iadSK_vs extK_0 extK_1 extK_2 extK_3 lenK_pl lenK_sl lenK_vs lensK_pl boxK_some minmax1K_int storeK_ptr callvK_fn callvK_pl newsK_nil newsK_vs newsK_sl appK_nil appK_nil0 appK_sl appK_vs bnd1K_int bndK_none bndK_some slsK_vs slsK_nil slsK_sl0 slsK_sl slstrK_pl boolK_some eqsK_ag iop_eqs iop_sls iop_slstr seesK_some seesK_ro mapsK_some MAP_some findK_some findK_none plK_pl nmapK_none nmapK_some iop_mlook iop_mlen iop_mmk iop_mupd iop_mdel iop_mrng itK_none itK_some ptr0K_ptr iop_mnxt iop_ment it1K_some entK_some iop_mov iop_pick iop_bin iop_eqb iop_eqp iop_eqm iop_eqz iop_un capK_pl capK_sl capK_vs iop_cap apzK_nil iop_apz mksK_int iop_mks clrK_sl clrK_vs clrK_nil iop_clr iop_conv iop_build iop_load iop_nilc iop_fadr iop_fld iop_iadA iop_iadS iop_ext iop_mkf iop_len iop_lens iop_minmax iop_al iop_box iop_bsl iop_store iop_call iop_callv iop_app BIN_add BIN_sub BIN_mul BIN_and BIN_or BIN_xor BIN_andNot BIN_eql BIN_neq BIN_lss BIN_leq BIN_gtr BIN_geq BIN_quo BIN_rem BIN_shl BIN_shr BIN_sadd BIN_seql BIN_sneq BIN_slss BIN_sleq BIN_sgtr BIN_sgeq UN_neg UN_xor UN_not MM_nil MM_cons partsA argsA ptrA lessL eqL min2I slotN_int slotP_int slotI_int
attribute [local simp] oc_len oc_tt oc_dd oc_one oc_ag oc_t1 oc_t2 oc_t3 oc_t4 oc_t5 oc_t6 oc_t7 oc_d1 oc_d2 oc_d3 oc_d4 oc_d5 oc_d6 oc_d7 rc_len rc_t4 rc_t1 rc_t2 rc_t3 rc_d1 rc_d2 rc_d3 rc_d4 rc_ag rc_one rc_eq

def o0 : O := ⟨⟨#[]⟩, 0, 0, 0, 0, 0, 0, 0⟩
def look (m : List O) (s : ByteArray) : O := (m.find? fun o => decide (o.nm = s)).getD o0
theorem look_mid {m1 m2 : List O} {x : O} {s : ByteArray} (h : ∀ y ∈ m1, okey y ≠ s) (hx : okey x = s) : look (m1 ++ x :: m2) s = x := by
  have h1 : m1.find? (fun o => decide (o.nm = s)) = none := by rw [List.find?_eq_none]; intro y hy; simpa using h y hy
  have h2 : decide (x.nm = s) = true := by simpa using hx
  simp [look, List.find?_append, h1, List.find?_cons, h2]
theorem look_of {m : List O} {x : O} (hn : (m.map okey).Nodup) (hx : x ∈ m) : look m x.nm = x := by
  obtain ⟨m1, m2, rfl⟩ := List.append_of_mem hx
  refine look_mid (fun y hy e => ?_) rfl
  rw [List.map_append, List.nodup_append] at hn
  exact hn.2.2 _ (List.mem_map.2 ⟨y, hy, rfl⟩) x.nm (by simp) e
theorem snames_perm (m : List O) : (snames m).Perm (m.map okey) := by
  unfold snames srtL
  refine ((List.mergeSort_perm _ _).map toB).trans ?_
  rw [List.map_map]
  have : (toB ∘ fun o : O => o.nm.toList) = okey := by funext o; exact toB_toList o.nm
  rw [this]
/-- The outputs in order. -/
def souts (m : List O) : List O := (snames m).map (look m)
theorem souts_perm {m : List O} (hn : (m.map okey).Nodup) : (souts m).Perm m := by
  unfold souts
  refine ((snames_perm m).map (look m)).trans ?_
  rw [List.map_map]
  have : m.map (look m ∘ okey) = m := by
    conv => rhs; rw [← List.map_id m]
    exact List.map_congr_left fun x hx => look_of hn hx
  rw [this]
theorem souts_len (m : List O) : (souts m).length = m.length := by simp [souts, snames_len]
theorem nm_at {l : List ByteArray} {j : Nat} (h : j < l.length) : ((l.map vs8).drop j).take 1 = [vs8 l[j]] := by
  rw [← List.map_drop, List.drop_eq_getElem_cons h]; rfl
theorem oc_flat_len (L : List O) : (flat oc L).length = L.length * 8 := flat_len (enc := oc) (fun _ => rfl) L
theorem take_snoc {E : Type} {L : List E} {i : Nat} (h : i < L.length) : L.take (i + 1) = L.take i ++ [L[i]] := List.take_succ_eq_append_getElem h
theorem c10 {H : AH} {K : AV → AH → Prop} {p b : Nat} {m : List O} {st : List Nat} {cl : Nat} (h : LS H p b m st cl) (hm : m.length ≤ 1000000)
    (hk : ∀ out H', Row H H' out (flat oc (souts m)) (souts m).length 8 → K out H') : @AC Tryz.prog 10 [pA p] H ⟨K⟩ := by
  refine AC_of (.forget ?_)
  refine call_c follows cf10_ok (by simp) ?_
  simp
  refine c33 h ?_
  simp
  refine c34 h hm fun on H2 hr => ?_
  have h2 := h.sub hr.sub
  have hS := hr.sub
  have hN := snames_perm m
  have hlen := snames_len m
  rw [← hlen] at hr
  have hx := hr.rin (by simp)
  have lx := fun k => hx.lenK (k := k)
  have ox := hx.one
  simp [lx]
  have hO : souts m = (snames m).map (look m) := rfl
  generalize snames m = N at *
  refine wpc_loop (fun s => ∃ (i : Nat) (out : AV) (L : List O), s.n = 27 ∧ s.t 0 = pA p ∧ s.t 3 = out ∧ s.t 10 = on ∧ s.t 11 = vi N.length ∧ s.t 12 = vi i ∧ i ≤ N.length ∧ L = (N.take i).map (look m) ∧ Row H2 s.H out (flat oc L) L.length 8) (fun s => N.length - slotN (s.t 12)) ?_ ?_
  · exact FgK.same ⟨0, vnil, [], by simp, by simp, by simp, by simp, by simp [hlen], by simp, by omega, by simp, by simp [flat_nil]; exact Row.nil _ 8⟩
  rintro s ⟨i, out, L, hn, e0, e3, e10, e11, e12, hi, hL, hrow⟩
  have w := IntWalk.i64_in ((i : Int) + 1) (by omega)
  have hsub := hrow.sub
  have h3 := h2.sub hsub
  have hone := hrow.one
  by_cases hlt : i < N.length
  · have hd := nm_at hlt
    have hsp := take_snoc hlt
    have hmem : N[i] ∈ m.map okey := hN.mem_iff.1 (List.getElem_mem hlt)
    generalize N[i] = nm at hd hsp hmem
    obtain ⟨q, f, rfl, hq⟩ := hx.sl (by omega)
    have hq3 := hsub.at hq
    have hob := h3.ob
    have hmp := h3.mp
    have hll : L.length = i := by rw [hL]; simp; omega
    have hml : (N.map vs8).length = N.length := by simp
    rcases splitS okey nm m with e | ⟨m1, x, m2, rfl, e4, e5⟩
    · obtain ⟨x, hx, rfl⟩ := List.mem_map.1 hmem
      exact absurd rfl (e x hx)
    · have ef := sfind_some (val := oval) (m2 := m2) m1 0 e4 e5
      have hlk : look (m1 ++ x :: m2) nm = x := look_mid e4 e5
      have hb1 : i + 1 ≤ N.length := by omega
      simp (disch := omega) [hn, e0, e3, e10, e11, e12, hlt, hq3, hd, hob, hmp, ef, hb1]
      refine newK_of fun u hu => ?_
      have hsu : Sub s.H (upd s.H u (.cells (oc x))) := (Sub.refl _).upd hu
      try simp (disch := omega) [hn, e0, e3, e10, e11, e12]
      refine hrow.app (by exact hsu) (by decide) rfl (by rw [oc_flat_len]) (by omega) fun g H' hg hsg => ?_
      simp (disch := omega) [hn, e0, e3, e10, e11, e12, w]
      refine FgK.of _ hsg ⟨⟨i + 1, .sl g 0 (L.length + 1) 8 false, L ++ [x], by simp [hn], by simp [e0], by simp, by simp [e10], by simp [e11], by simp, by omega, ?_, ?_⟩, by simp [e12]; omega⟩
      · rw [hL, hsp, List.map_append, List.map_cons, hlk]; rfl
      · rw [flat_snoc]
        have h9 := Row.mk (cs := flat oc (L ++ [x])) (n := L.length + 1) (sz := 8) hg
        simpa using h9
  · rw [List.take_of_length_le (by omega)] at hL
    rw [hO] at hk
    subst hL
    simp (disch := omega) [hn, e0, e3, e10, e11, e12, hlt]
    obtain ⟨H1, h3, h4⟩ := hrow.out hS
    exact ⟨H1, h3, hk _ _ h4⟩
def sareas (m : List O) : List R := (souts m).map lg
theorem rc_flat_len (L : List R) : (flat rc L).length = L.length * 4 := flat_len (enc := rc) (fun _ => rfl) L
theorem oc_at {L : List O} {i : Nat} (h : i < L.length) : ((flat oc L).drop (i * 8)).take 8 = oc L[i] := by
  rw [flat_drop (enc := oc) (fun _ => rfl) L i h]; rfl
theorem rc_at {L : List R} {i : Nat} (h : i < L.length) : ((flat rc L).drop (i * 4)).take 4 = rc L[i] := by
  rw [flat_drop (enc := rc) (fun _ => rfl) L i h]; rfl
theorem c36 {H : AH} {K : AV → AH → Prop} {p b : Nat} {m : List O} {st : List Nat} {cl : Nat} (h : LS H p b m st cl) (hm : m.length ≤ 1000000)
    (hk : ∀ out H', Row H H' out (flat rc (sareas m)) (sareas m).length 4 → K out H') : @AC Tryz.prog 36 [pA p] H ⟨K⟩ := by
  refine AC_of (.forget ?_)
  refine call_c follows cf36_ok (by simp) ?_
  simp
  refine c10 h hm fun on H2 hr => ?_
  have hS := hr.sub
  have hlen := souts_len m
  have hx := hr.rin (by rw [oc_flat_len])
  have lx := fun k => hx.lenK (k := k)
  simp [lx]
  have hA : sareas m = (souts m).map lg := rfl
  generalize souts m = N at *
  refine wpc_loop (fun s => ∃ (i : Nat) (out : AV) (L : List R), s.n = 20 ∧ s.t 3 = out ∧ s.t 7 = on ∧ s.t 8 = vi N.length ∧ s.t 9 = vi i ∧ i ≤ N.length ∧ L = (N.take i).map lg ∧ Row H2 s.H out (flat rc L) L.length 4) (fun s => N.length - slotN (s.t 9)) ?_ ?_
  · exact FgK.same ⟨0, vnil, [], by simp, by simp, by simp, by simp, by simp, by omega, by simp, by simp [flat_nil]; exact Row.nil _ 4⟩
  rintro s ⟨i, out, L, hn, e3, e7, e8, e9, hi, hL, hrow⟩
  have w := IntWalk.i64_in ((i : Int) + 1) (by omega)
  have hsub := hrow.sub
  by_cases hlt : i < N.length
  · have hd := oc_at hlt
    have hsp := take_snoc hlt
    have hbd : i * 8 + 8 ≤ (flat oc N).length := by rw [oc_flat_len]; omega
    generalize N[i] = x at hd hsp
    obtain ⟨q, f, rfl, hq⟩ := hx.sl (by omega)
    have hq3 := hsub.at hq
    have hll : L.length = i := by rw [hL]; simp; omega
    simp (disch := omega) [hn, e3, e7, e8, e9, hlt, hq3, hd, hbd]
    refine newK_of fun u hu => ?_
    have hsu : Sub s.H (upd s.H u (.cells (oc x))) := (Sub.refl _).upd hu
    simp (disch := omega) [hn, e3, e7, e8, e9]
    refine (c46 x).ac ?_
    simp (disch := omega) [hn, e3, e7, e8, e9]
    refine newK_of fun v hv => ?_
    have hsv := hsu.trans ((Sub.refl _).upd hv (o := .cells (rc (lg x))))
    try simp (disch := omega) [hn, e3, e7, e8, e9]
    refine hrow.app (by exact hsv) (by decide) rfl (by rw [rc_flat_len]) (by omega) fun g H' hg hsg => ?_
    simp (disch := omega) [hn, e3, e7, e8, e9, w]
    refine FgK.of _ hsg ⟨⟨i + 1, .sl g 0 (L.length + 1) 4 false, L ++ [lg x], by simp [hn], by simp, by simp [e7], by simp [e8], by simp, by omega, ?_, ?_⟩, by simp [e9]; omega⟩
    · rw [hL, hsp, List.map_append]; rfl
    · rw [flat_snoc]
      have h9 := Row.mk (cs := flat rc (L ++ [lg x])) (n := L.length + 1) (sz := 4) hg
      simpa using h9
  · rw [List.take_of_length_le (by omega)] at hL
    rw [hA] at hk
    subst hL
    simp (disch := omega) [hn, e3, e7, e8, e9, hlt]
    obtain ⟨H1, h3, h4⟩ := hrow.out hS
    exact ⟨H1, h3, hk _ _ h4⟩
end Go.Proofs.YtidcajmbkbamcaaGreat
end

/-! The layout: pixels of rectangles, distances, what overlaps. Conditions: as each lemma states them. -/
section
namespace Go.Proofs.YtidcajmbkbamcaaGreat
open Go Go.Ab Go.RowKit
set_option linter.unusedSimpArgs false
set_option linter.unusedVariables false
set_option linter.unnecessarySimpa false

attribute [local simp] condK_true condK_false condK_not wpc_skip wpc_ret wpc_exit wpc_seq wpc_reg wpc_regD testA_bool wpc_cond wpc_block thenA_normal thenA_ret thenA_exit blockA_normal blockA_ret blockA_exit blockA_other endA_normal endA_ret ev_tmp' ev_const ev_func ev_global cv_int cv_bool cv_string cv_pointer cv_slice cv_agg cv_map put_some put_none wH_s setE_apply setE_env less_eq env_cons env_nil upd_upd upd_apply del_apply startA_eq cells_ag cells_sl one_sl cells_vs one_vs cells_ep one_ep cells_fn one_fn cells_int one_int cells_bool one_bool cells_string one_string cells_pointer one_pointer cells_slice one_slice cells_map one_map cells_agg resK_one resK_nil resK_two rvK_t rvK_c rvsK_nil rvsK_cons iseq_nil iseq_cons gdA_true gdA_false gdA_undef istep_free istep_guard istepV_free istepV_guard dseq_nil dseq_pu dseq_rd dseq_ef wpc_regT dtree_nil dtree_pu dtree_rd dtree_ef dtree_br chkAll_nil chkAll_cons andK_true pickK_true pickK_false pickK_tb pickK_fb bin2K_pl eqbK_eq eqbK_ne eqpK_eq eqpK_ne eqmK_eq eqmK_ne eqzK_eq eqzK_ne eqzK_sl eqzK_vs un1K_pl convK_int fillK_some fillA_cons fillA_nil cellsK_some needK_true needK_ok seeK_ep seeK_ptr oneK_agg oneK_one nilcK_ptr nilcK_ep fadrK_ptr fadrK_ep fldK_ag iadAK_ptr iadAK_ep iadSK_sl iadSK_vs extK_0 extK_1 extK_2 extK_3 lenK_pl lenK_sl lenK_vs lensK_pl boxK_some minmax1K_int storeK_ptr callvK_fn callvK_pl newsK_nil newsK_vs newsK_sl appK_nil appK_nil0 appK_sl appK_vs bnd1K_int bndK_none bndK_some slsK_vs slsK_nil slsK_sl0 slsK_sl slstrK_pl boolK_some eqsK_ag iop_eqs iop_sls iop_slstr seesK_some seesK_ro mapsK_some MAP_some findK_some findK_none plK_pl nmapK_none nmapK_some iop_mlook iop_mlen iop_mmk iop_mupd iop_mdel iop_mrng itK_none itK_some ptr0K_ptr iop_mnxt iop_ment it1K_some entK_some iop_mov iop_pick iop_bin iop_eqb iop_eqp iop_eqm iop_eqz iop_un capK_pl capK_sl capK_vs iop_cap apzK_nil iop_apz mksK_int iop_mks clrK_sl clrK_vs clrK_nil iop_clr iop_conv iop_build iop_load iop_nilc iop_fadr iop_fld iop_iadA iop_iadS iop_ext iop_mkf iop_len iop_lens iop_minmax iop_al iop_box iop_bsl iop_store iop_call iop_callv iop_app BIN_add BIN_sub BIN_mul BIN_and BIN_or BIN_xor BIN_andNot BIN_eql BIN_neq BIN_lss BIN_leq BIN_gtr BIN_geq BIN_quo BIN_rem BIN_shl BIN_shr BIN_sadd BIN_seql BIN_sneq BIN_slss BIN_sleq BIN_sgtr BIN_sgeq UN_neg UN_xor UN_not MM_nil MM_cons partsA argsA ptrA lessL eqL min2I slotN_int slotP_int slotI_int
attribute [local simp] oc_len oc_tt oc_dd oc_one oc_ag oc_t1 oc_t2 oc_t3 oc_t4 oc_t5 oc_t6 oc_t7 oc_d1 oc_d2 oc_d3 oc_d4 oc_d5 oc_d6 oc_d7 rc_len rc_t4 rc_t1 rc_t2 rc_t3 rc_d1 rc_d2 rc_d3 rc_d4 rc_ag rc_one rc_eq min2_t min2_f

def rcont (r : R) (x y : Int) : Bool := decide ((rcan r).x0 ≤ x) && decide (x < (rcan r).x1) && decide ((rcan r).y0 ≤ y) && decide (y < (rcan r).y1)
theorem c45 (r : R) (x y : Int) : PC Tryz.prog 45 [.ag (rc r), vi x, vi y] (vb (rcont r x y)) := by
  refine .tell fun H => ?_
  refine call_c follows cf45_ok (by simp) ?_
  repeat' (first | simp [*] | (with_reducible (refine newK_of fun _ h_ => ?_); have hn_ := free_ne h_; (try simp only [upd_none', ne_eq] at h_)) | (with_reducible (refine condK_of (fun h_ => ?_) (fun h_ => ?_))) | with_reducible (refine (c67 ..).ac ?_))
  all_goals ((try with_reducible refine And.intro ?_ ?_) <;> (try (repeat' (first | with_reducible exact Sub.refl _ | with_reducible refine Sub.of_upd (by simp [*]) ?_))))
  all_goals (simp_all [rcont] <;> omega)
def rclamp (r : R) (x y : Int) : Int × Int := if rempty r = true then (0, 0) else (min (max x r.x0) (r.x1 - 1), min (max y r.y0) (r.y1 - 1))
theorem rne_ok {r : R} (h : rempty r = false) : (-16384 ≤ r.x0 ∧ r.x0 < r.x1 ∧ r.x1 ≤ 16384) ∧ -16384 ≤ r.y0 ∧ r.y0 < r.y1 ∧ r.y1 ≤ 16384 := by
  simp [rempty, rvalid, okc] at h
  omega
theorem c49 (r : R) (x y : Int) : PC Tryz.prog 49 [.ag (rc r), vi x, vi y] (.tp [vi (rclamp r x y).1, vi (rclamp r x y).2]) := by
  refine .tell fun H => ?_
  refine call_c follows cf49_ok (by simp) ?_
  simp
  refine newK_of fun z hz => ?_
  simp
  refine (c73 r).ac ?_
  cases h : rempty r with
  | true =>
    simp [rclamp, h]
    exact (Sub.refl H).upd hz
  | false =>
    have := rne_ok h
    have w1 := IntWalk.i64_in (r.x1 - 1) (by omega)
    have w2 := IntWalk.i64_in (r.y1 - 1) (by omega)
    simp [rclamp, h, w1, w2]
    exact (Sub.refl H).upd hz
abbrev vu (n : Int) : AV := .pl (.int .u64 n)
def awy (a b : Int) : Int := if a < b then IntKind.u64.wrap (IntKind.u64.wrap b - IntKind.u64.wrap a) else IntKind.u64.wrap (IntKind.u64.wrap a - IntKind.u64.wrap b)
theorem c51 (a b : Int) : PC Tryz.prog 51 [vi a, vi b] (vu (awy a b)) := by
  refine .tell fun H => ?_
  refine call_c follows cf51_ok (by simp) ?_
  by_cases h : a < b
  · simp [awy, h]
    exact Sub.refl H
  · simp [awy, h]
    exact Sub.refl H
def nrr (ax ay bx by_ : Int) : Bool :=
  if ax ≤ bx ∧ ay ≤ by_ then decide (ax < bx) || decide (ay < by_) else if bx ≤ ax ∧ by_ ≤ ay then false
  else if ax < bx then decide (IntKind.u64.wrap (ay - by_) < IntKind.u64.wrap (bx - ax)) else decide (IntKind.u64.wrap (ax - bx) < IntKind.u64.wrap (by_ - ay))
theorem c50 (a b c d : Int) : PC Tryz.prog 50 [vu a, vu b, vu c, vu d] (vb (nrr a b c d)) := by
  refine .tell fun H => ?_
  refine call_c follows cf50_ok (by simp) ?_
  by_cases h1 : a ≤ c <;> by_cases h2 : b ≤ d <;> by_cases h3 : c ≤ a <;> by_cases h4 : d ≤ b <;> by_cases h5 : a < c <;> by_cases h6 : b < d <;> (first | (exfalso; omega) | skip)
  all_goals simp [nrr, h1, h2, h3, h4, h5, h6]
  all_goals exact Sub.refl H
/-- The first output with the pixel. -/
def atF (L : List O) (x y : Int) : ByteArray := match L.find? fun o => rcont (lg o) x y with
  | some o => o.nm
  | none => ⟨#[]⟩
theorem c23 {H : AH} {K : AV → AH → Prop} {p b : Nat} {m : List O} {st : List Nat} {cl : Nat} (x y : Int) (h : LS H p b m st cl) (hm : m.length ≤ 1000000)
    (hk : K (vs8 (atF (souts m) x y)) H) : @AC Tryz.prog 23 [pA p, vi x, vi y] H ⟨K⟩ := by
  refine AC_of (.forget ?_)
  refine call_c follows cf23_ok (by simp) ?_
  simp
  refine c10 h hm fun on H2 hr => ?_
  have hS := hr.sub
  have hlen := souts_len m
  have hx := hr.rin (by rw [oc_flat_len])
  have lx := fun k => hx.lenK (k := k)
  simp [lx]
  generalize souts m = N at *
  refine wpc_loop (fun s => ∃ (i : Nat), s.n = 24 ∧ s.t 1 = vi x ∧ s.t 2 = vi y ∧ s.t 10 = on ∧ s.t 11 = vi N.length ∧ s.t 12 = vi i ∧ i ≤ N.length ∧ (∀ o ∈ N.take i, rcont (lg o) x y = false) ∧ s.H = H2) (fun s => N.length - slotN (s.t 12)) ?_ ?_
  · exact FgK.same ⟨0, by simp, by simp, by simp, by simp, by simp, by simp, by omega, by simp, by simp⟩
  rintro s ⟨i, hn, e1, e2, e10, e11, e12, hi, hO, hH⟩
  have w := IntWalk.i64_in ((i : Int) + 1) (by omega)
  by_cases hlt : i < N.length
  · have hd := oc_at hlt
    have hsp := take_snoc hlt
    have hfl : N = N.take i ++ N[i] :: N.drop (i + 1) := by rw [← List.drop_eq_getElem_cons hlt, List.take_append_drop]
    have hbd : i * 8 + 8 ≤ (flat oc N).length := by rw [oc_flat_len]; omega
    generalize N[i] = o at hd hsp hfl
    obtain ⟨q, f, rfl, hq⟩ := hx.sl (by omega)
    have hfin : rcont (lg o) x y = true → atF N x y = o.nm := fun ht => by
      have h1 : (N.take i).find? (fun o => rcont (lg o) x y) = none := by rw [List.find?_eq_none]; intro z hz; simp [hO z hz]
      rw [atF, hfl, List.find?_append, h1, List.find?_cons, ht]; rfl
    clear hfl
    simp (disch := omega) [hn, hH, e1, e2, e10, e11, e12, hlt, hq, hd, hbd]
    refine newK_of fun u hu => ?_
    have hsu : Sub H2 (upd H2 u (.cells (oc o))) := (Sub.refl _).upd hu
    simp (disch := omega) [hn, hH, e1, e2, e10, e11, e12]
    refine (c46 o).ac ?_
    simp (disch := omega) [hn, hH, e1, e2, e10, e11, e12]
    refine (c45 (lg o) x y).ac ?_
    cases ht : rcont (lg o) x y with
    | true =>
      rw [hfin ht] at hk
      simp (disch := omega) [hn, hH, e1, e2, e10, e11, e12, hu]
      exact ⟨H, hS.trans hsu, hk⟩
    | false =>
      simp (disch := omega) [hn, hH, e1, e2, e10, e11, e12, w]
      refine FgK.of _ hsu ⟨⟨i + 1, by simp [hn], by simp [e1], by simp [e2], by simp [e10], by simp [e11], by simp, by omega, ?_, rfl⟩, by simp [e12]; omega⟩
      rw [hsp]
      intro z hz
      rcases List.mem_append.1 hz with hz | hz
      · exact hO z hz
      · obtain rfl := List.mem_singleton.1 hz; exact ht
  · rw [List.take_of_length_le (by omega)] at hO
    have : atF N x y = ⟨#[]⟩ := by
      have h1 : N.find? (fun o => rcont (lg o) x y) = none := by rw [List.find?_eq_none]; intro z hz; simp [hO z hz]
      rw [atF, h1]
    rw [this] at hk
    simp (disch := omega) [hn, hH, e1, e2, e10, e11, e12, hlt]
    exact ⟨H, hS, hk⟩
def ovT (o x : O) : Bool := !decide (x.nm = o.nm) && !rempty (rcap (lg o) (lg x))
def ovl (m : List O) (o : O) : Bool := m.any (ovT o)
theorem c48 {H : AH} {K : AV → AH → Prop} {p b : Nat} {m : List O} {st : List Nat} {cl : Nat} (o : O) (h : LS H p b m st cl)
    (hk : K (vb (ovl m o)) H) : @AC Tryz.prog 48 [pA p, .ag (oc o)] H ⟨K⟩ := by
  refine AC_of (.forget ?_)
  refine call_c follows cf48_ok (by simp) ?_
  simp
  refine newK_of fun z hz => ?_
  have hz1 : Sub H (upd H z (.cells (oc o))) := (Sub.refl H).upd hz
  have hzz : upd H z (.cells (oc o)) z = some (.cells (oc o)) := by simp [upd_apply]
  have h' := h.sub hz1
  have h1 := h'.ob
  have h2 := h'.mp
  simp [h.ob, h.mp, free_ne hz p (by simp [h.ob]), free_ne hz b (by simp [h.mp])]
  generalize upd H z (.cells (oc o)) = H2 at *
  refine newK_of fun it hit => ?_
  have hbi : b ≠ it := ne_of_free h2 hit
  have hzi : z ≠ it := ne_of_free hzz hit
  have hHit : H it = none := hz1.none_of hit
  simp
  refine wpc_loop (fun s => ∃ (seen : List Nat), s.n = 30 ∧ s.t 3 = pA z ∧ s.t 11 = pA it ∧ s.H = upd H2 it (.it b cl cl seen) ∧ ∀ x ∈ vis allO m st seen, ovT o x = false)
    (fun s => left st (slotSn s.H it)) ?_ ?_
  · refine FgK.same ⟨[], by simp, by simp, by simp, by simp, by rw [vis_nil]; simp⟩
  rintro s ⟨seen, hn, e3, e11, hH, hall0⟩
  have hHi : s.H it = some (.it b cl cl seen) := by rw [hH]; simp [upd_apply]
  have hHb : s.H b = some (.map (mS okey oval m) st cl) := by rw [hH]; simp [upd_apply, hbi, h2]
  have hms : left st (slotSn s.H it) = left st seen := by rw [slotSn_of hHi]
  simp [hn, e3, e11, hHi, hHb]
  refine nextK_of h.stp.2.2 (Nat.le_refl _) (fun hall => ?_) (fun j e s1 hj hs1 hns => ?_)
  · have e := vis_all allO m st seen h.stp.1.symm hall
    have hfa : m.filter allO = m := List.filter_eq_self.2 fun _ _ => rfl
    rw [e, hfa] at hall0
    have : ovl m o = false := by rw [ovl, List.any_eq_false]; intro x hx; simp [hall0 x hx]
    rw [this] at hk
    simp [hn]
    refine ⟨H, ?_, hk⟩
    rw [hH]; exact hz1.upd hHit
  · obtain ⟨x, hx, rfl⟩ : ∃ x, m[j]? = some x ∧ e = (.string (okey x), oval x) := by
      simp only [mS, List.getElem?_map, Option.map_eq_some_iff] at hj
      obtain ⟨x, h3, h4⟩ := hj
      exact ⟨x, h3, h4.symm⟩
    have he := entF_of (mS okey oval m) st j _ s1 h.stp.2.1 hj hs1
    have hst := vis_step allO m st seen j x s1 h.stp.2.1 hx hs1 hns
    have hlt := left_lt (List.mem_of_getElem? hs1) hns
    have htrue : ovT o x = true → ovl m o = true := fun e => by rw [ovl, List.any_eq_true]; exact ⟨x, List.mem_of_getElem? hx, e⟩
    have hfalse : ovT o x = false → ∀ y ∈ vis allO m st (s1 :: seen), ovT o y = false := fun e y hy => by
      rcases List.mem_append.1 (hst.mem_iff.1 hy) with hy | hy
      · exact hall0 y hy
      · simp [allO] at hy
        rw [hy]; exact e
    have hup : upd s.H it (.it b cl cl (s1 :: seen)) = upd H2 it (.it b cl cl (s1 :: seen)) := by rw [hH, upd_upd]
    have hZ : upd H2 it (.it b cl cl (s1 :: seen)) z = some (.cells (oc o)) := by simp [upd_apply, hzi, hzz]
    have hB : upd H2 it (.it b cl cl (s1 :: seen)) b = some (.map (mS okey oval m) st cl) := by simp [upd_apply, hbi, h2]
    have hI : upd H2 it (.it b cl cl (s1 :: seen)) it = some (.it b cl cl (s1 :: seen)) := by simp [upd_apply]
    have hSI : Sub H (upd H2 it (.it b cl cl (s1 :: seen))) := hz1.upd hHit
    rw [hup]
    generalize hH3 : upd H2 it (.it b cl cl (s1 :: seen)) = H3 at *
    simp [hn, e3, e11, hB, hI, he]
    refine newK_of fun u hu => ?_
    have nu := free_ne hu z (by simp [hZ])
    have hsu : Sub H3 (upd H3 u (.cells (oc x))) := (Sub.refl _).upd hu
    have gz := hsu.at hZ
    have gu : upd H3 u (.cells (oc x)) u = some (.cells (oc x)) := by simp [upd_apply]
    simp [hn, e3, e11, nu]
    generalize upd H3 u (.cells (oc x)) = H4 at *
    have goal2 : ovT o x = false → Sub H3 H4 := fun _ => hsu
    by_cases c1 : x.nm = o.nm
    · have hf : ovT o x = false := by simp [ovT, c1]
      simp [hn, e3, e11, hZ, gz, bytes_beq, c1]
      refine FgK.of H3 hsu ⟨⟨s1 :: seen, by simp [hn], by simp [e3], by simp [e11], hH3.symm, hfalse hf⟩, ?_⟩
      rw [slotSn_of (m := b) (since := cl) (last := cl) (seen := s1 :: seen) hI, hms]; exact hlt
    · simp [hn, e3, e11, hZ, gz, gu, bytes_beq, c1]
      refine (c46 o).ac ?_
      try simp [hn, e3, e11, gz, gu]
      refine (c46 x).ac ?_
      try simp [hn, e3, e11]
      refine (c74 (lg o) (lg x)).ac ?_
      try simp [hn, e3, e11]
      refine (c73 _).ac ?_
      cases c2 : rempty (rcap (lg o) (lg x)) with
      | true =>
        have hf : ovT o x = false := by simp [ovT, c2]
        try simp [hn, e3, e11]
        refine FgK.of H3 hsu ⟨⟨s1 :: seen, by simp [hn], by simp [e3], by simp [e11], hH3.symm, hfalse hf⟩, ?_⟩
        rw [slotSn_of (m := b) (since := cl) (last := cl) (seen := s1 :: seen) hI, hms]; exact hlt
      | false =>
        have hf : ovT o x = true := by simp [ovT, c1, c2]
        rw [htrue hf] at hk
        simp [hn, e3, e11]
        exact ⟨H, hSI.trans hsu, hk⟩
end Go.Proofs.YtidcajmbkbamcaaGreat
end

/-! The layout: Plug, Unplug, Move, Clamp. Conditions: as each lemma states them. -/
section
namespace Go.Proofs.YtidcajmbkbamcaaGreat
open Go Go.Ab Go.RowKit
set_option linter.unusedSimpArgs false
set_option linter.unusedVariables false
set_option linter.unnecessarySimpa false

attribute [local simp] condK_true condK_false condK_not wpc_skip wpc_ret wpc_exit wpc_seq wpc_reg wpc_regD testA_bool wpc_cond wpc_block thenA_normal thenA_ret thenA_exit blockA_normal blockA_ret blockA_exit blockA_other endA_normal endA_ret ev_tmp' ev_const ev_func ev_global cv_int cv_bool cv_string cv_pointer cv_slice cv_agg cv_map put_some put_none wH_s setE_apply setE_env less_eq env_cons env_nil upd_upd upd_apply del_apply startA_eq cells_ag cells_sl one_sl cells_vs one_vs cells_ep one_ep cells_fn one_fn cells_int one_int cells_bool one_bool cells_string one_string cells_pointer one_pointer cells_slice one_slice cells_map one_map cells_agg resK_one resK_nil resK_two rvK_t rvK_c rvsK_nil rvsK_cons iseq_nil iseq_cons gdA_true gdA_false gdA_undef istep_free istep_guard istepV_free istepV_guard dseq_nil dseq_pu dseq_rd dseq_ef wpc_regT dtree_nil dtree_pu dtree_rd dtree_ef dtree_br chkAll_nil chkAll_cons andK_true pickK_true pickK_false pickK_tb pickK_fb bin2K_pl eqbK_eq eqbK_ne eqpK_eq eqpK_ne eqmK_eq eqmK_ne eqzK_eq eqzK_ne eqzK_sl eqzK_vs un1K_pl convK_int fillK_some fillA_cons fillA_nil cellsK_some needK_true needK_ok seeK_ep seeK_ptr oneK_agg oneK_one nilcK_ptr nilcK_ep fadrK_ptr fadrK_ep fldK_ag iadAK_ptr iadAK_ep iadSK_sl iadSK_vs extK_0 extK_1 extK_2 extK_3 lenK_pl lenK_sl lenK_vs lensK_pl boxK_some minmax1K_int storeK_ptr callvK_fn callvK_pl newsK_nil newsK_vs newsK_sl appK_nil appK_nil0 appK_sl appK_vs bnd1K_int bndK_none bndK_some slsK_vs slsK_nil slsK_sl0 slsK_sl slstrK_pl boolK_some eqsK_ag iop_eqs iop_sls iop_slstr seesK_some seesK_ro mapsK_some MAP_some findK_some findK_none plK_pl nmapK_none nmapK_some iop_mlook iop_mlen iop_mmk iop_mupd iop_mdel iop_mrng itK_none itK_some ptr0K_ptr iop_mnxt iop_ment it1K_some entK_some iop_mov iop_pick iop_bin iop_eqb iop_eqp iop_eqm iop_eqz iop_un capK_pl capK_sl capK_vs iop_cap apzK_nil iop_apz mksK_int iop_mks clrK_sl clrK_vs clrK_nil iop_clr iop_conv iop_build iop_load iop_nilc iop_fadr iop_fld iop_iadA iop_iadS iop_ext iop_mkf iop_len iop_lens iop_minmax iop_al iop_box iop_bsl iop_store iop_call iop_callv iop_app BIN_add BIN_sub BIN_mul BIN_and BIN_or BIN_xor BIN_andNot BIN_eql BIN_neq BIN_lss BIN_leq BIN_gtr BIN_geq BIN_quo BIN_rem BIN_shl BIN_shr BIN_sadd BIN_seql BIN_sneq BIN_slss BIN_sleq BIN_sgtr BIN_sgeq UN_neg UN_xor UN_not MM_nil MM_cons partsA argsA ptrA lessL eqL min2I slotN_int slotP_int slotI_int
attribute [local simp] oc_len oc_tt oc_dd oc_one oc_ag oc_t1 oc_t2 oc_t3 oc_t4 oc_t5 oc_t6 oc_t7 oc_d1 oc_d2 oc_d3 oc_d4 oc_d5 oc_d6 oc_d7 rc_len rc_t4 rc_t1 rc_t2 rc_t3 rc_d1 rc_d2 rc_d3 rc_d4 rc_ag rc_one rc_eq min2_t min2_f

def has (m : List O) (s : ByteArray) : Bool := m.any fun o => decide (o.nm = s)
theorem has_none {m : List O} {s : ByteArray} (h : ∀ x ∈ m, okey x ≠ s) : has m s = false := by
  rw [has, List.any_eq_false]; intro x hx; simpa using h x hx
theorem has_mid {m1 m2 : List O} {x : O} {s : ByteArray} (hx : okey x = s) : has (m1 ++ x :: m2) s = true := by
  rw [has, List.any_eq_true]; exact ⟨x, by simp, by simpa using hx⟩
def plugE (m : List O) (o : O) : Int := if chk o ≠ 0 then chk o else if has m o.nm = true then 7 else if ovl m o = true then 6 else if 8 ≤ m.length then 5 else 0
def plugM (m : List O) (o : O) : List O := if plugE m o = 0 then m ++ [o] else m
theorem c24 {H : AH} {K : AV → AH → Prop} {p b : Nat} {m : List O} {st : List Nat} {cl : Nat} (o : O) (h : LS H p b m st cl)
    (hk : ∀ st' cl', LS (upo H b (plugM m o) st' cl') p b (plugM m o) st' cl' → K (vi (plugE m o)) (upo H b (plugM m o) st' cl')) : @AC Tryz.prog 24 [pA p, .ag (oc o)] H ⟨K⟩ := by
  have same : ∀ {e}, plugE m o = e → e ≠ 0 → K (vi e) H := fun {e} h1 h2 => by
    have := hk st cl (by rw [plugM, if_neg (by rw [h1]; exact h2), h.self]; exact h)
    rwa [plugM, if_neg (by rw [h1]; exact h2), h.self, h1] at this
  refine AC_of (.forget ?_)
  refine call_c follows cf24_ok (by simp) ?_
  simp
  refine newK_of fun z hz => ?_
  have hz1 : Sub H (upd H z (.cells (oc o))) := (Sub.refl H).upd hz
  have hzz : upd H z (.cells (oc o)) z = some (.cells (oc o)) := by simp [upd_apply]
  have nzb := (free_ne hz b (by simp [h.mp]))
  have hcomm : ∀ X, Sub (upd H b X) (upd (upd H z (.cells (oc o))) b X) := fun X => hz1.cong
  have h' := h.sub hz1
  have h1 := h'.ob
  have h2 := h'.mp
  simp
  generalize upd H z (.cells (oc o)) = H2 at *
  refine c33 h' ?_
  simp [hzz]
  refine (c47 o).ac ?_
  by_cases c1 : chk o = 0
  · simp [c1, h1, h2, hzz]
    rcases splitS okey o.nm m with e | ⟨m1, x, m2, e0, e1, e2⟩
    · have ef := sfind_none (val := oval) m 0 e
      have hh := has_none e
      simp [ef]
      refine newK_of fun u hu => ?_
      have hsu : Sub H2 (upd H2 u (.cells (oc ⟨⟨#[]⟩, 0, 0, 0, 0, 0, 0, 0⟩))) := (Sub.refl _).upd hu
      have nub := free_ne hu b (by simp [h2])
      have nuz := free_ne hu z (by simp [hzz])
      have nup := free_ne hu p (by simp [h1])
      simp [h1, h2, hzz, nub, nuz, nup, ef]
      have g1 : upd H2 u (.cells (oc ⟨⟨#[]⟩, 0, 0, 0, 0, 0, 0, 0⟩)) p = some (.cells [vb true, .pl (.map (some b))]) := hsu.at h1
      have g2 := hsu.at h2
      have g3 := hsu.at hzz
      have hs2 := hz1.trans hsu
      have h5 := h'.sub hsu
      clear hsu
      generalize upd H2 u (.cells (oc ⟨⟨#[]⟩, 0, 0, 0, 0, 0, 0, 0⟩)) = H3 at *
      refine c48 o h5 ?_
      cases c2 : ovl m o with
      | true =>
        have e1 : plugE m o = 6 := by rw [plugE, if_neg (by simp [c1]), if_neg (by simp [hh]), if_pos c2]
        simp
        exact ⟨H, hs2, same e1 (by decide)⟩
      | false =>
        have hl := mS_len (key := okey) (val := oval) m
        by_cases c3 : 8 ≤ m.length
        · have e1 : plugE m o = 5 := by rw [plugE, if_neg (by simp [c1]), if_neg (by simp [hh]), if_neg (by simp [c2]), if_pos c3]
          have c3' : (8 : Int) ≤ m.length := by omega
          simp [g1, g2, hl, c3']
          exact ⟨H, hs2, same e1 (by decide)⟩
        · have e1 : plugE m o = 0 := by rw [plugE, if_neg (by simp [c1]), if_neg (by simp [hh]), if_neg (by simp [c2]), if_neg c3]
          have c3' : ¬ (8 : Int) ≤ m.length := by omega
          have e2 := mS_push (key := okey) (val := oval) (m := m) o
          have hM : plugM m o = m ++ [o] := if_pos e1
          have fin := hk (st ++ [cl]) (cl + 1) (by
            rw [hM]
            exact h.new (by
              rw [List.map_append, List.nodup_append]
              exact ⟨h.nd, by simp, fun a ha c hc => by
                obtain ⟨y, hy, rfl⟩ := List.mem_map.1 ha
                have : c = o.nm := by simpa using hc
                rw [this]; exact e y hy⟩) (by simpa using h.stp.push))
          rw [hM, e1] at fin
          unfold upo at fin
          rw [← e2] at fin
          simp [g1, g2, g3, hl, c3', ef]
          exact ⟨_, hs2.cong, fin⟩
    · have ef := sfind_some (val := oval) (m2 := m2) m1 0 e1 e2
      have hh : has m o.nm = true := by rw [e0]; exact has_mid e2
      rw [← e0] at ef
      have e1 : plugE m o = 7 := by rw [plugE, if_neg (by simp [c1]), if_pos hh]
      clear e0
      simp [ef]
      refine newK_of fun u hu => ?_
      have hsu : Sub H2 (upd H2 u (.cells (oc x))) := (Sub.refl _).upd hu
      have nub := free_ne hu b (by simp [h2])
      have nuz := free_ne hu z (by simp [hzz])
      have nup := free_ne hu p (by simp [h1])
      simp [h1, h2, hzz, nub, nuz, nup, ef]
      exact ⟨H, hz1.trans hsu, same e1 (by decide)⟩
  · have e1 : plugE m o = chk o := if_pos c1
    simp [c1]
    exact ⟨H, hz1, same e1 c1⟩
def delE (m : List O) (s : ByteArray) : Int := if has m s = true then 0 else 8
def delM (m : List O) (s : ByteArray) : List O := m.filter fun o => !decide (o.nm = s)
theorem delM_none {m : List O} {s : ByteArray} (h : ∀ x ∈ m, okey x ≠ s) : delM m s = m := by
  refine List.filter_eq_self.2 fun x hx => by simpa using h x hx
theorem delM_mid {m1 m2 : List O} {x : O} {s : ByteArray} (hn : ((m1 ++ x :: m2).map okey).Nodup) (hx : okey x = s) : delM (m1 ++ x :: m2) s = m1 ++ m2 := by
  simp only [List.map_append, List.map_cons] at hn
  rw [List.nodup_append] at hn
  obtain ⟨h1, h2, h3⟩ := hn
  rw [List.nodup_cons] at h2
  have a1 : ∀ y ∈ m1, okey y ≠ s := fun y hy e => h3 _ (List.mem_map.2 ⟨y, hy, rfl⟩) (okey x) (by simp) (e.trans hx.symm)
  have a2 : ∀ y ∈ m2, okey y ≠ s := fun y hy e => h2.1 (List.mem_map.2 ⟨y, hy, e.trans hx.symm⟩)
  have d1 := delM_none a1
  have d2 := delM_none a2
  unfold delM at *
  rw [List.filter_append, List.filter_cons, d1, d2]
  have : (!decide (x.nm = s)) = false := by simpa using hx
  rw [this]; rfl
theorem c32 {H : AH} {K : AV → AH → Prop} {p b : Nat} {m : List O} {st : List Nat} {cl : Nat} (s : ByteArray) (h : LS H p b m st cl)
    (hk : ∀ st' cl', LS (upo H b (delM m s) st' cl') p b (delM m s) st' cl' → K (vi (delE m s)) (upo H b (delM m s) st' cl')) : @AC Tryz.prog 32 [pA p, vs8 s] H ⟨K⟩ := by
  have h1 := h.ob
  have h2 := h.mp
  refine AC_of (.forget ?_)
  refine call_c follows cf32_ok (by simp) ?_
  simp
  refine c33 h ?_
  rcases splitS okey s m with e | ⟨m1, x, m2, rfl, e1, e2⟩
  · have ef := sfind_none (val := oval) m 0 e
    have fin := hk st cl (by rw [delM_none e, h.self]; exact h)
    rw [delM_none e, h.self, delE, has_none e] at fin
    simp [h1, h2, ef]
    refine newK_of fun u hu => ?_
    have hsu : Sub H (upd H u (.cells (oc ⟨⟨#[]⟩, 0, 0, 0, 0, 0, 0, 0⟩))) := (Sub.refl _).upd hu
    have nub := free_ne hu b (by simp [h2])
    have nup := free_ne hu p (by simp [h1])
    simp [h1, h2, nub, nup, ef]
    exact ⟨H, hsu, fin⟩
  · have ef := sfind_some (val := oval) (m2 := m2) m1 0 e1 e2
    have hM := delM_mid h.nd e2
    have hl : (m1 ++ x :: m2).length = (m1 ++ m2).length + 1 := by simp; omega
    have fin := hk (st.eraseIdx m1.length) cl (by
      rw [hM]
      refine h.new ?_ ((h.stp.len hl).erase _ (by simp))
      rw [← hM]
      exact h.nd.sublist ((List.filter_sublist ..).map okey))
    have e3 := mS_erase (key := okey) (val := oval) (m1 := m1) (m2 := m2) (e := x)
    rw [hM, delE, has_mid e2] at fin
    unfold upo at fin
    rw [← e3] at fin
    simp [h1, h2, ef]
    refine newK_of fun u hu => ?_
    have hsu : Sub H (upd H u (.cells (oc x))) := (Sub.refl _).upd hu
    have nub := free_ne hu b (by simp [h2])
    have nup := free_ne hu p (by simp [h1])
    simp [h1, h2, nub, nup, ef]
    exact ⟨_, hsu.cong, fin⟩
end Go.Proofs.YtidcajmbkbamcaaGreat
end

/-! The layout: Move, Clamp; the law's screens. Conditions: as each lemma states them. -/
section
namespace Go.Proofs.YtidcajmbkbamcaaGreat
open Go Go.Ab Go.RowKit
set_option linter.unusedSimpArgs false
set_option linter.unusedVariables false
set_option linter.unnecessarySimpa false

attribute [local simp] condK_true condK_false condK_not wpc_skip wpc_ret wpc_exit wpc_seq wpc_reg wpc_regD testA_bool wpc_cond wpc_block thenA_normal thenA_ret thenA_exit blockA_normal blockA_ret blockA_exit blockA_other endA_normal endA_ret ev_tmp' ev_const ev_func ev_global cv_int cv_bool cv_string cv_pointer cv_slice cv_agg cv_map put_some put_none wH_s setE_apply setE_env less_eq env_cons env_nil upd_upd upd_apply del_apply startA_eq cells_ag cells_sl one_sl cells_vs one_vs cells_ep one_ep cells_fn one_fn cells_int one_int cells_bool one_bool cells_string one_string cells_pointer one_pointer cells_slice one_slice cells_map one_map cells_agg resK_one resK_nil resK_two rvK_t rvK_c rvsK_nil rvsK_cons iseq_nil iseq_cons gdA_true gdA_false gdA_undef istep_free istep_guard istepV_free istepV_guard dseq_nil dseq_pu dseq_rd dseq_ef wpc_regT dtree_nil dtree_pu dtree_rd dtree_ef dtree_br chkAll_nil chkAll_cons andK_true pickK_true pickK_false pickK_tb pickK_fb bin2K_pl eqbK_eq eqbK_ne eqpK_eq eqpK_ne eqmK_eq eqmK_ne eqzK_eq eqzK_ne eqzK_sl eqzK_vs un1K_pl convK_int fillK_some fillA_cons fillA_nil cellsK_some needK_true needK_ok seeK_ep seeK_ptr oneK_agg oneK_one nilcK_ptr nilcK_ep fadrK_ptr fadrK_ep fldK_ag iadAK_ptr iadAK_ep iadSK_sl iadSK_vs extK_0 extK_1 extK_2 extK_3 lenK_pl lenK_sl lenK_vs lensK_pl boxK_some minmax1K_int storeK_ptr callvK_fn callvK_pl newsK_nil newsK_vs newsK_sl appK_nil appK_nil0 appK_sl appK_vs bnd1K_int bndK_none bndK_some slsK_vs slsK_nil slsK_sl0 slsK_sl slstrK_pl boolK_some eqsK_ag iop_eqs iop_sls iop_slstr seesK_some seesK_ro mapsK_some MAP_some findK_some findK_none plK_pl nmapK_none nmapK_some iop_mlook iop_mlen iop_mmk iop_mupd iop_mdel iop_mrng itK_none itK_some ptr0K_ptr iop_mnxt iop_ment it1K_some entK_some iop_mov iop_pick iop_bin iop_eqb iop_eqp iop_eqm iop_eqz iop_un capK_pl capK_sl capK_vs iop_cap apzK_nil iop_apz mksK_int iop_mks clrK_sl clrK_vs clrK_nil iop_clr iop_conv iop_build iop_load iop_nilc iop_fadr iop_fld iop_iadA iop_iadS iop_ext iop_mkf iop_len iop_lens iop_minmax iop_al iop_box iop_bsl iop_store iop_call iop_callv iop_app BIN_add BIN_sub BIN_mul BIN_and BIN_or BIN_xor BIN_andNot BIN_eql BIN_neq BIN_lss BIN_leq BIN_gtr BIN_geq BIN_quo BIN_rem BIN_shl BIN_shr BIN_sadd BIN_seql BIN_sneq BIN_slss BIN_sleq BIN_sgtr BIN_sgeq UN_neg UN_xor UN_not MM_nil MM_cons partsA argsA ptrA lessL eqL min2I slotN_int slotP_int slotI_int
attribute [local simp] oc_len oc_tt oc_dd oc_one oc_ag oc_t1 oc_t2 oc_t3 oc_t4 oc_t5 oc_t6 oc_t7 oc_d1 oc_d2 oc_d3 oc_d4 oc_d5 oc_d6 oc_d7 rc_len rc_t4 rc_t1 rc_t2 rc_t3 rc_d1 rc_d2 rc_d3 rc_d4 rc_ag rc_one rc_eq min2_t min2_f

def at_ (o : O) (x y : Int) : O := ⟨o.nm, o.w, o.h, o.rf, o.sc, o.tr, x, y⟩
def movE (m : List O) (s : ByteArray) (x y : Int) : Int := if has m s = false then 8 else if chk (at_ (look m s) x y) ≠ 0 then chk (at_ (look m s) x y) else if ovl m (at_ (look m s) x y) = true then 6 else 0
def movM (m : List O) (s : ByteArray) (x y : Int) : List O := if movE m s x y = 0 then m.map (fun o => if o.nm = s then at_ o x y else o) else m
theorem mov_mid {m1 m2 : List O} {e : O} {x y : Int} (hn : ((m1 ++ e :: m2).map okey).Nodup) : (m1 ++ e :: m2).map (fun o => if o.nm = e.nm then at_ o x y else o) = m1 ++ at_ e x y :: m2 := by
  simp only [List.map_append, List.map_cons] at hn
  rw [List.nodup_append] at hn
  obtain ⟨h1, h2, h3⟩ := hn
  rw [List.nodup_cons] at h2
  have a1 : m1.map (fun o => if o.nm = e.nm then at_ o x y else o) = m1 := by
    conv => rhs; rw [← List.map_id m1]
    refine List.map_congr_left fun z hz => if_neg fun e' => h3 _ (List.mem_map.2 ⟨z, hz, rfl⟩) (okey e) (by simp) e'
  have a2 : m2.map (fun o => if o.nm = e.nm then at_ o x y else o) = m2 := by
    conv => rhs; rw [← List.map_id m2]
    refine List.map_congr_left fun z hz => if_neg fun e' => h2.1 (List.mem_map.2 ⟨z, hz, e'⟩)
  rw [List.map_append, List.map_cons, a1, a2, if_pos rfl]
theorem c28 {H : AH} {K : AV → AH → Prop} {p b : Nat} {m : List O} {st : List Nat} {cl : Nat} (s : ByteArray) (x y : Int) (h : LS H p b m st cl)
    (hk : ∀ st' cl', LS (upo H b (movM m s x y) st' cl') p b (movM m s x y) st' cl' → K (vi (movE m s x y)) (upo H b (movM m s x y) st' cl')) : @AC Tryz.prog 28 [pA p, vs8 s, vi x, vi y] H ⟨K⟩ := by
  have same : ∀ {e}, movE m s x y = e → e ≠ 0 → K (vi e) H := fun {e} h1 h2 => by
    have := hk st cl (by rw [movM, if_neg (by rw [h1]; exact h2), h.self]; exact h)
    rwa [movM, if_neg (by rw [h1]; exact h2), h.self, h1] at this
  have h1 := h.ob
  have h2 := h.mp
  refine AC_of (.forget ?_)
  refine call_c follows cf28_ok (by simp) ?_
  simp
  refine c33 h ?_
  rcases splitS okey s m with e | ⟨m1, e, m2, e0, e1, e2⟩
  · have ef := sfind_none (val := oval) m 0 e
    have hE : movE m s x y = 8 := if_pos (has_none e)
    simp [h1, h2, ef]
    refine newK_of fun u hu => ?_
    have hsu : Sub H (upd H u (.cells (oc ⟨⟨#[]⟩, 0, 0, 0, 0, 0, 0, 0⟩))) := (Sub.refl _).upd hu
    have nub := free_ne hu b (by simp [h2])
    have nup := free_ne hu p (by simp [h1])
    simp [h1, h2, nub, nup, ef]
    exact ⟨H, hsu, same hE (by decide)⟩
  · subst e0
    have e2' : e.nm = s := e2
    subst e2'
    have ef := sfind_some (val := oval) (m2 := m2) m1 0 e1 rfl
    have hlk : look (m1 ++ e :: m2) e.nm = e := look_mid e1 rfl
    have hE : movE (m1 ++ e :: m2) e.nm x y = if chk (at_ e x y) ≠ 0 then chk (at_ e x y) else if ovl (m1 ++ e :: m2) (at_ e x y) = true then 6 else 0 := by
      rw [movE, if_neg (by rw [has_mid rfl]; decide), hlk]
    simp [h1, h2, ef]
    refine newK_of fun u hu => ?_
    have hsu0 : Sub H (upd H u (.cells (oc (at_ e x y)))) := (Sub.refl _).upd hu
    have nub := free_ne hu b (by simp [h2])
    have nup := free_ne hu p (by simp [h1])
    have hcell : ([vs8 e.nm, vi e.w, vi e.h, vi e.rf, vi e.sc, vi e.tr, vi x, vi y] : List AV) = oc (at_ e x y) := rfl
    have hat : (⟨e.nm, e.w, e.h, e.rf, e.sc, e.tr, x, y⟩ : O) = at_ e x y := rfl
    simp [h1, h2, nub, nup, ef, upd_upd, hcell, hat]
    refine (c47 (at_ e x y)).ac ?_
    have gu : upd H u (.cells (oc (at_ e x y))) u = some (.cells (oc (at_ e x y))) := by simp [upd_apply]
    have g1 := hsu0.at h1
    have g2 := hsu0.at h2
    have hL := h.sub hsu0
    generalize hH3 : upd H u (.cells (oc (at_ e x y))) = H3 at *
    by_cases c1 : chk (at_ e x y) = 0
    · simp [c1, gu, g1, g2]
      refine c48 (at_ e x y) hL ?_
      cases c2 : ovl (m1 ++ e :: m2) (at_ e x y) with
      | true =>
        have hE2 : movE (m1 ++ e :: m2) e.nm x y = 6 := by rw [hE, if_neg (by simp [c1]), if_pos c2]
        simp
        exact ⟨H, hsu0, same hE2 (by decide)⟩
      | false =>
        have hE2 : movE (m1 ++ e :: m2) e.nm x y = 0 := by rw [hE, if_neg (by simp [c1]), if_neg (by simp [c2])]
        have hM : movM (m1 ++ e :: m2) e.nm x y = m1 ++ at_ e x y :: m2 := by rw [movM, if_pos hE2, mov_mid h.nd]
        have e4 := mS_set (key := okey) (val := oval) (m1 := m1) (m2 := m2) (e := e) (at_ e x y)
        have fin := hk st cl (by
          rw [hM]
          refine h.new ?_ (h.stp.len (by simp))
          have := h.nd
          simp only [List.map_append, List.map_cons] at this ⊢
          exact this)
        rw [hM, hE2] at fin
        unfold upo at fin
        rw [← e4] at fin
        simp [g1, g2, gu, ef]
        exact ⟨_, hsu0.cong, fin⟩
    · have hE2 : movE (m1 ++ e :: m2) e.nm x y = chk (at_ e x y) := by rw [hE, if_pos c1]
      simp [c1]
      exact ⟨H, hsu0, same hE2 c1⟩
def scr (s : ByteArray) (w h x y : Int) : O := ⟨s, w, h, 60000, 1, 0, x, y⟩
theorem c25 (s : ByteArray) (w h x y : Int) : PC Tryz.prog 25 [vs8 s, vi w, vi h, vi x, vi y] (.ag (oc (scr s w h x y))) := by
  refine .tell fun H => ?_
  refine call_c follows cf25_ok (by simp) ?_
  have hcell : (⟨s, w, h, 60000, 1, 0, x, y⟩ : O) = scr s w h x y := rfl
  simp
  refine newK_of fun u hu => ?_
  simp [hcell]
  exact (Sub.refl H).upd hu
def clS (x y : Int) (acc : Option (Int × Int)) (r : R) : Option (Int × Int) := match acc with
  | none => some (rclamp r x y)
  | some q => if nrr (awy (rclamp r x y).1 x) (awy (rclamp r x y).2 y) (awy q.1 x) (awy q.2 y) = true then some (rclamp r x y) else some q
def clF (L : List R) (x y : Int) : Int × Int := (L.foldl (clS x y) none).getD (0, 0)
theorem c26 {H : AH} {K : AV → AH → Prop} {p b : Nat} {m : List O} {st : List Nat} {cl : Nat} (x y : Int) (h : LS H p b m st cl) (hm : m.length ≤ 1000000)
    (hk : K (.tp [vi (clF (sareas m) x y).1, vi (clF (sareas m) x y).2]) H) : @AC Tryz.prog 26 [pA p, vi x, vi y] H ⟨K⟩ := by
  refine AC_of (.forget ?_)
  refine call_c follows cf26_ok (by simp) ?_
  simp
  refine c36 h hm fun on H2 hr => ?_
  have hS := hr.sub
  have hlen : (sareas m).length = m.length := by rw [sareas, List.length_map, souts_len]
  have hx := hr.rin (by rw [rc_flat_len])
  have lx := fun k => hx.lenK (k := k)
  simp [lx]
  generalize sareas m = N at *
  refine wpc_loop (fun s => ∃ (i : Nat) (bx by_ : Int) (fd : Bool), s.n = 51 ∧ s.t 1 = vi x ∧ s.t 2 = vi y ∧ s.t 8 = vi bx ∧ s.t 9 = vi by_ ∧ s.t 10 = vb fd ∧ s.t 16 = on ∧ s.t 17 = vi N.length ∧ s.t 18 = vi i ∧ i ≤ N.length ∧
      (N.take i).foldl (clS x y) none = (if fd = true then some (bx, by_) else none) ∧ (fd = false → bx = 0 ∧ by_ = 0) ∧ s.H = H2) (fun s => N.length - slotN (s.t 18)) ?_ ?_
  · exact FgK.same ⟨0, 0, 0, false, by simp, by simp, by simp, by simp, by simp, by simp, by simp, by simp, by simp, by omega, by simp, fun _ => ⟨rfl, rfl⟩, by simp⟩
  rintro s ⟨i, bx, by_, fd, hn, e1, e2, e8, e9, e10, e16, e17, e18, hi, hF, hz, hH⟩
  have w := IntWalk.i64_in ((i : Int) + 1) (by omega)
  by_cases hlt : i < N.length
  · have hd := rc_at hlt
    have hsp := take_snoc hlt
    have hbd : i * 4 + 4 ≤ (flat rc N).length := by rw [rc_flat_len]; omega
    generalize N[i] = r at hd hsp
    obtain ⟨q, f, rfl, hq⟩ := hx.sl (by omega)
    have hF2 : (N.take (i + 1)).foldl (clS x y) none = clS x y (if fd = true then some (bx, by_) else none) r := by rw [hsp, List.foldl_append, hF]; rfl
    simp (disch := omega) [hn, hH, e1, e2, e8, e9, e10, e16, e17, e18, hlt, hq, hd, hbd]
    refine newK_of fun u hu => ?_
    have hsu : Sub H2 (upd H2 u (.cells (rc r))) := (Sub.refl _).upd hu
    simp (disch := omega) [hn, hH, e1, e2, e8, e9, e10, e16, e17, e18]
    refine (c49 r x y).ac ?_
    cases fd with
    | false =>
      simp only [Bool.false_eq_true, if_false, clS] at hF2
      simp (disch := omega) [hn, hH, e1, e2, e8, e9, e10, e16, e17, e18, w]
      exact FgK.of _ hsu ⟨⟨i + 1, (rclamp r x y).1, (rclamp r x y).2, true, by simp [hn], by simp [e1], by simp [e2], by simp, by simp, by simp, by simp [e16], by simp [e17], by simp, by omega, by simp [hF2], (fun e => by cases e), rfl⟩, by simp [e18]; omega⟩
    | true =>
      simp only [if_true, clS] at hF2
      simp (disch := omega) [hn, hH, e1, e2, e8, e9, e10, e16, e17, e18]
      refine (c51 (rclamp r x y).1 x).ac ?_
      simp (disch := omega) [hn, hH, e1, e2, e8, e9, e10, e16, e17, e18]
      refine (c51 (rclamp r x y).2 y).ac ?_
      simp (disch := omega) [hn, hH, e1, e2, e8, e9, e10, e16, e17, e18]
      refine (c51 bx x).ac ?_
      simp (disch := omega) [hn, hH, e1, e2, e8, e9, e10, e16, e17, e18]
      refine (c51 by_ y).ac ?_
      simp (disch := omega) [hn, hH, e1, e2, e8, e9, e10, e16, e17, e18]
      refine (c50 (awy (rclamp r x y).1 x) (awy (rclamp r x y).2 y) (awy bx x) (awy by_ y)).ac ?_
      cases hnr : nrr (awy (rclamp r x y).1 x) (awy (rclamp r x y).2 y) (awy bx x) (awy by_ y) with
      | true =>
        rw [hnr] at hF2
        simp (disch := omega) [hn, hH, e1, e2, e8, e9, e10, e16, e17, e18, w]
        exact FgK.of _ hsu ⟨⟨i + 1, (rclamp r x y).1, (rclamp r x y).2, true, by simp [hn], by simp [e1], by simp [e2], by simp, by simp, by simp, by simp [e16], by simp [e17], by simp, by omega, by simpa using hF2, (fun e => by cases e), rfl⟩, by simp [e18]; omega⟩
      | false =>
        rw [hnr] at hF2
        simp (disch := omega) [hn, hH, e1, e2, e8, e9, e10, e16, e17, e18, w]
        exact FgK.of _ hsu ⟨⟨i + 1, bx, by_, true, by simp [hn], by simp [e1], by simp [e2], by simp [e8], by simp [e9], by simp [e10], by simp [e16], by simp [e17], by simp, by omega, by simpa using hF2, (fun e => by cases e), rfl⟩, by simp [e18]; omega⟩
  · rw [List.take_of_length_le (by omega)] at hF
    have hfin : clF N x y = (bx, by_) := by
      rw [clF, hF]
      cases fd with
      | true => rfl
      | false => obtain ⟨rfl, rfl⟩ := hz rfl; rfl
    rw [hfin] at hk
    simp (disch := omega) [hn, hH, e1, e2, e8, e9, e10, e16, e17, e18, hlt]
    exact ⟨H, hS, hk⟩
end Go.Proofs.YtidcajmbkbamcaaGreat
end

/-! Names that entered and left, of the program and of the reference. Conditions: as each lemma states them. -/
section
namespace Go.Proofs.YtidcajmbkbamcaaGreat
open Go Go.Ab Go.RowKit
set_option linter.unusedSimpArgs false
set_option linter.unusedVariables false
set_option linter.unnecessarySimpa false

attribute [local simp] condK_true condK_false condK_not wpc_skip wpc_ret wpc_exit wpc_seq wpc_reg wpc_regD testA_bool wpc_cond wpc_block thenA_normal thenA_ret thenA_exit blockA_normal blockA_ret blockA_exit blockA_other endA_normal endA_ret ev_tmp' ev_const ev_func ev_global cv_int cv_bool cv_string cv_pointer cv_slice cv_agg cv_map put_some put_none wH_s setE_apply setE_env less_eq env_cons env_nil upd_upd upd_apply del_apply startA_eq cells_ag cells_sl one_sl cells_vs one_vs cells_ep one_ep cells_fn one_fn cells_int one_int cells_bool one_bool cells_string one_string cells_pointer one_pointer cells_slice one_slice cells_map one_map cells_agg resK_one resK_nil resK_two rvK_t rvK_c rvsK_nil rvsK_cons iseq_nil iseq_cons gdA_true gdA_false gdA_undef istep_free istep_guard istepV_free istepV_guard dseq_nil dseq_pu dseq_rd dseq_ef wpc_regT dtree_nil dtree_pu dtree_rd dtree_ef dtree_br chkAll_nil chkAll_cons andK_true pickK_true pickK_false pickK_tb pickK_fb bin2K_pl eqbK_eq eqbK_ne eqpK_eq eqpK_ne eqmK_eq eqmK_ne eqzK_eq eqzK_ne eqzK_sl eqzK_vs un1K_pl convK_int fillK_some fillA_cons fillA_nil cellsK_some needK_true needK_ok seeK_ep seeK_ptr oneK_agg oneK_one nilcK_ptr nilcK_ep fadrK_ptr fadrK_ep fldK_ag iadAK_ptr iadAK_ep iadSK_sl iadSK_vs extK_0 extK_1 extK_2 extK_3 lenK_pl lenK_sl lenK_vs lensK_pl boxK_some minmax1K_int storeK_ptr callvK_fn callvK_pl newsK_nil newsK_vs newsK_sl appK_nil appK_nil0 appK_sl appK_vs bnd1K_int bndK_none bndK_some slsK_vs slsK_nil slsK_sl0 slsK_sl slstrK_pl boolK_some eqsK_ag iop_eqs iop_sls iop_slstr seesK_some seesK_ro mapsK_some MAP_some findK_some findK_none plK_pl nmapK_none nmapK_some iop_mlook iop_mlen iop_mmk iop_mupd iop_mdel iop_mrng itK_none itK_some ptr0K_ptr iop_mnxt iop_ment it1K_some entK_some iop_mov iop_pick iop_bin iop_eqb iop_eqp iop_eqm iop_eqz iop_un capK_pl capK_sl capK_vs iop_cap apzK_nil iop_apz mksK_int iop_mks clrK_sl clrK_vs clrK_nil iop_clr iop_conv iop_build iop_load iop_nilc iop_fadr iop_fld iop_iadA iop_iadS iop_ext iop_mkf iop_len iop_lens iop_minmax iop_al iop_box iop_bsl iop_store iop_call iop_callv iop_app BIN_add BIN_sub BIN_mul BIN_and BIN_or BIN_xor BIN_andNot BIN_eql BIN_neq BIN_lss BIN_leq BIN_gtr BIN_geq BIN_quo BIN_rem BIN_shl BIN_shr BIN_sadd BIN_seql BIN_sneq BIN_slss BIN_sleq BIN_sgtr BIN_sgeq UN_neg UN_xor UN_not MM_nil MM_cons partsA argsA ptrA lessL eqL min2I slotN_int slotP_int slotI_int

instance memB (v : ByteArray) (l : List ByteArray) : Decidable (v ∈ l) := decidable_of_iff ((l.any fun x => decide (x = v)) = true) (by simp [List.any_eq_true])
/-- A row of names that is looked at: one's own, or handed in. -/
def RowR (H : AH) (x : AV) (l : List ByteArray) : Prop := RowIn H x (l.map vs8) l.length 1 ∨ x = .vs l.length false (l.map vs8)
theorem RowR.sub {H H' : AH} {x : AV} {l : List ByteArray} (h : RowR H x l) (hs : Sub H H') : RowR H' x l := by
  rcases h with h | h
  · exact .inl (h.sub hs)
  · exact .inr h
theorem RowR.lenK {H : AH} {x : AV} {l : List ByteArray} (h : RowR H x l) {k : AV → Prop} : @lenK x ⟨k⟩ = k (vi l.length) := by
  rcases h with h | rfl
  · exact h.lenK
  · simp
theorem RowR.at {H : AH} {x : AV} {l : List ByteArray} (h : RowR H x l) (hn : 0 < l.length) : (∃ q f, x = .sl q 0 l.length 1 f ∧ H q = some (.cells (l.map vs8))) ∨ x = .vs l.length false (l.map vs8) := by
  rcases h with h | h
  · exact .inl (h.sl hn)
  · exact .inr h
theorem c88 {H : AH} {K : AV → AH → Prop} {x : AV} (l : List ByteArray) (v : ByteArray) (hx : RowR H x l) (hl : l.length ≤ 1000000)
    (hk : ∀ n : Int, (decide (0 ≤ n) = decide (v ∈ l)) → K (vi n) H) : @AC Tryz.prog 88 [x, vs8 v] H ⟨K⟩ := by
  refine AC_of ?_
  have lx := fun k => hx.lenK (k := k)
  refine call_c follows cf88_ok (by simp) ?_
  simp [lx]
  refine wpc_loop (fun s => ∃ (i : Nat), s.n = 19 ∧ s.t 0 = x ∧ s.t 1 = vs8 v ∧ s.t 7 = vi l.length ∧ s.t 8 = vi i ∧ i ≤ l.length ∧ v ∉ l.take i ∧ s.H = H) (fun s => l.length - slotN (s.t 8)) ?_ ?_
  · exact FgK.same ⟨0, by simp, by simp, by simp, by simp, by simp, by omega, by simp, by simp⟩
  rintro s ⟨i, hn, e0, e1, e7, e8, hi, ht, hH⟩
  have w := IntWalk.i64_in ((i : Int) + 1) (by omega)
  by_cases hlt : i < l.length
  · have hd := nm_at hlt
    have hsp := take_snoc hlt
    have hmem : l[i] ∈ l := List.getElem_mem hlt
    generalize l[i] = y at hd hsp hmem
    have hb1 : i + 1 ≤ l.length := by omega
    by_cases c1 : v = y
    · have := hk i (by rw [c1]; simp [hmem])
      rcases hx.at (by omega) with ⟨q, f, rfl, hq⟩ | rfl
      · simp (disch := omega) [hn, hH, e0, e1, e7, e8, hlt, hq, hd, hb1, bytes_beq, c1]
        exact this
      · simp (disch := omega) [hn, hH, e0, e1, e7, e8, hlt, hd, hb1, bytes_beq, c1]
        exact this
    · have ht' : v ∉ l.take (i + 1) := by
        rw [hsp]; intro h
        rcases List.mem_append.1 h with h | h
        · exact ht h
        · exact c1 (List.mem_singleton.1 h)
      rcases hx.at (by omega) with ⟨q, f, rfl, hq⟩ | rfl
      · simp (disch := omega) [hn, hH, e0, e1, e7, e8, hlt, hq, hd, hb1, bytes_beq, c1, w]
        exact FgK.same ⟨⟨i + 1, by simp [hn], by simp [e0], by simp [e1], by simp [e7], by simp, by omega, ht', by simp [hH]⟩, by simp [e8]; omega⟩
      · simp (disch := omega) [hn, hH, e0, e1, e7, e8, hlt, hd, hb1, bytes_beq, c1, w]
        exact FgK.same ⟨⟨i + 1, by simp [hn], by simp [e0], by simp [e1], by simp [e7], by simp, by omega, ht', by simp [hH]⟩, by simp [e8]; omega⟩
  · rw [List.take_of_length_le (by omega)] at ht
    have := hk (-1) (by simp [ht])
    simp (disch := omega) [hn, hH, e0, e1, e7, e8, hlt]
    exact this
theorem c75 {H : AH} {K : AV → AH → Prop} {x : AV} (l : List ByteArray) (v : ByteArray) (hx : RowR H x l) (hl : l.length ≤ 1000000)
    (hk : K (vb (decide (v ∈ l))) H) : @AC Tryz.prog 75 [x, vs8 v] H ⟨K⟩ := by
  refine AC_of ?_
  refine call_c follows cf75_ok (by simp) ?_
  simp
  refine c88 l v hx hl fun n hn => ?_
  rw [← hn] at hk
  simp
  exact hk
def misS (b : List ByteArray) (out : List ByteArray) (n : ByteArray) : List ByteArray := if n ∈ b then out else if n ∈ out then out else out ++ [n]
def mis (a b : List ByteArray) : List ByteArray := a.foldl (misS b) []
theorem mis_len (b : List ByteArray) : ∀ (a out : List ByteArray), (a.foldl (misS b) out).length ≤ out.length + a.length
  | [], out => by simp
  | n :: a, out => by
    have := mis_len b a (misS b out n)
    have h1 : (misS b out n).length ≤ out.length + 1 := by unfold misS; (repeat' split) <;> simp
    simp only [List.foldl_cons, List.length_cons]; omega
theorem c52 {H : AH} {K : AV → AH → Prop} {x y0 : AV} (a b : List ByteArray) (hx : RowR H x a) (hy : RowR H y0 b) (hl : a.length ≤ 1000) (hl2 : b.length ≤ 1000)
    (hk : ∀ out H', Row H H' out ((mis a b).map vs8) (mis a b).length 1 → K out H') : @AC Tryz.prog 52 [x, y0] H ⟨K⟩ := by
  refine AC_of ?_
  have lx := fun k => hx.lenK (k := k)
  refine call_c follows cf52_ok (by simp) ?_
  simp [lx]
  refine wpc_loop (fun s => ∃ (i : Nat) (out : AV) (L : List ByteArray), s.n = 30 ∧ s.t 1 = y0 ∧ s.t 5 = out ∧ s.t 8 = x ∧ s.t 9 = vi a.length ∧ s.t 10 = vi i ∧ i ≤ a.length ∧ L = mis (a.take i) b ∧ Row H s.H out (L.map vs8) L.length 1) (fun s => a.length - slotN (s.t 10)) ?_ ?_
  · exact FgK.same ⟨0, vnil, [], by simp, by simp, by simp, by simp, by simp, by simp, by omega, by simp [mis], by simp; exact Row.nil _ 1⟩
  rintro s ⟨i, out, L, hn, e1, e5, e8, e9, e10, hi, hL, hrow⟩
  have w := IntWalk.i64_in ((i : Int) + 1) (by omega)
  have hsub := hrow.sub
  have hx2 := hx.sub hsub
  have hy2 := hy.sub hsub
  have hLl : L.length ≤ i := by
    have := mis_len b (a.take i) []
    rw [hL]; unfold mis; simp at this; omega
  have hin : RowR s.H out L := .inl (hrow.rin (by simp))
  by_cases hlt : i < a.length
  · have hd := nm_at hlt
    have hsp := take_snoc hlt
    generalize a[i] = y at hd hsp
    have hb1 : i + 1 ≤ a.length := by omega
    have hF2 : mis (a.take (i + 1)) b = misS b L y := by rw [hL, hsp, mis, List.foldl_append]; rfl
    have step : ∀ (next : List ByteArray) (out' : AV) (H' H0 : AH), misS b L y = next → Row H H0 out' (next.map vs8) next.length 1 → Sub H0 H' → s.n = 30 → True := fun _ _ _ _ _ _ _ _ => trivial
    by_cases c1 : y ∈ b
    · have hm : misS b L y = L := if_pos c1
      rcases hx2.at (by omega) with ⟨q, f, rfl, hq⟩ | rfl
      · simp (disch := omega) [hn, e1, e5, e8, e9, e10, hlt, hq, hd, hb1]
        refine c75 b y hy2 (by omega) ?_
        simp (disch := omega) [hn, e1, e5, e8, e9, e10, c1, w]
        exact FgK.same ⟨⟨i + 1, out, L, by simp [hn], by simp [e1], by simp [e5], by simp [e8], by simp [e9], by simp, by omega, by rw [hF2, hm], by simpa using hrow⟩, by simp [e10]; omega⟩
      · simp (disch := omega) [hn, e1, e5, e8, e9, e10, hlt, hd, hb1]
        refine c75 b y hy2 (by omega) ?_
        simp (disch := omega) [hn, e1, e5, e8, e9, e10, c1, w]
        exact FgK.same ⟨⟨i + 1, out, L, by simp [hn], by simp [e1], by simp [e5], by simp [e8], by simp [e9], by simp, by omega, by rw [hF2, hm], by simpa using hrow⟩, by simp [e10]; omega⟩
    · by_cases c2 : y ∈ L
      · have hm : misS b L y = L := by rw [misS, if_neg c1, if_pos c2]
        rcases hx2.at (by omega) with ⟨q, f, rfl, hq⟩ | rfl
        · simp (disch := omega) [hn, e1, e5, e8, e9, e10, hlt, hq, hd, hb1]
          refine c75 b y hy2 (by omega) ?_
          simp (disch := omega) [hn, e1, e5, e8, e9, e10, c1]
          refine c75 L y hin (by omega) ?_
          simp (disch := omega) [hn, e1, e5, e8, e9, e10, c2, w]
          exact FgK.same ⟨⟨i + 1, out, L, by simp [hn], by simp [e1], by simp [e5], by simp [e8], by simp [e9], by simp, by omega, by rw [hF2, hm], by simpa using hrow⟩, by simp [e10]; omega⟩
        · simp (disch := omega) [hn, e1, e5, e8, e9, e10, hlt, hd, hb1]
          refine c75 b y hy2 (by omega) ?_
          simp (disch := omega) [hn, e1, e5, e8, e9, e10, c1]
          refine c75 L y hin (by omega) ?_
          simp (disch := omega) [hn, e1, e5, e8, e9, e10, c2, w]
          exact FgK.same ⟨⟨i + 1, out, L, by simp [hn], by simp [e1], by simp [e5], by simp [e8], by simp [e9], by simp, by omega, by rw [hF2, hm], by simpa using hrow⟩, by simp [e10]; omega⟩
      · have hm : misS b L y = L ++ [y] := by rw [misS, if_neg c1, if_neg c2]
        rcases hx2.at (by omega) with ⟨q, f, rfl, hq⟩ | rfl
        · simp (disch := omega) [hn, e1, e5, e8, e9, e10, hlt, hq, hd, hb1]
          refine c75 b y hy2 (by omega) ?_
          simp (disch := omega) [hn, e1, e5, e8, e9, e10, c1]
          refine c75 L y hin (by omega) ?_
          simp (disch := omega) [hn, e1, e5, e8, e9, e10, c2]
          refine newK_of fun u hu => ?_
          have hsu : Sub s.H (upd s.H u (.cells [vs8 y])) := (Sub.refl _).upd hu
          try simp (disch := omega) [hn, e1, e5, e8, e9, e10]
          refine hrow.app (by exact hsu) (by decide) rfl (by simp) (by omega) fun g H' hg hsg => ?_
          simp (disch := omega) [hn, e1, e5, e8, e9, e10, w]
          refine FgK.of _ hsg ⟨⟨i + 1, .sl g 0 (L.length + 1) 1 false, L ++ [y], by simp [hn], by simp [e1], by simp, by simp [e8], by simp [e9], by simp, by omega, by rw [hF2, hm], ?_⟩, by simp [e10]; omega⟩
          have := Row.mk (cs := L.map vs8 ++ [vs8 y]) (n := L.length + 1) (sz := 1) hg
          simpa using this
        · simp (disch := omega) [hn, e1, e5, e8, e9, e10, hlt, hd, hb1]
          refine c75 b y hy2 (by omega) ?_
          simp (disch := omega) [hn, e1, e5, e8, e9, e10, c1]
          refine c75 L y hin (by omega) ?_
          simp (disch := omega) [hn, e1, e5, e8, e9, e10, c2]
          refine newK_of fun u hu => ?_
          have hsu : Sub s.H (upd s.H u (.cells [vs8 y])) := (Sub.refl _).upd hu
          try simp (disch := omega) [hn, e1, e5, e8, e9, e10]
          refine hrow.app (by exact hsu) (by decide) rfl (by simp) (by omega) fun g H' hg hsg => ?_
          simp (disch := omega) [hn, e1, e5, e8, e9, e10, w]
          refine FgK.of _ hsg ⟨⟨i + 1, .sl g 0 (L.length + 1) 1 false, L ++ [y], by simp [hn], by simp [e1], by simp, by simp [e8], by simp [e9], by simp, by omega, by rw [hF2, hm], ?_⟩, by simp [e10]; omega⟩
          have := Row.mk (cs := L.map vs8 ++ [vs8 y]) (n := L.length + 1) (sz := 1) hg
          simpa using this
  · rw [List.take_of_length_le (by omega)] at hL
    subst hL
    simp (disch := omega) [hn, e1, e5, e8, e9, e10, hlt]
    exact hk _ _ hrow
end Go.Proofs.YtidcajmbkbamcaaGreat
end

/-! Names that entered and left, of the reference; two lists compared. Conditions: as each lemma states them. -/
section
namespace Go.Proofs.YtidcajmbkbamcaaGreat
open Go Go.Ab Go.RowKit
set_option linter.unusedSimpArgs false
set_option linter.unusedVariables false
set_option linter.unnecessarySimpa false

attribute [local simp] condK_true condK_false condK_not wpc_skip wpc_ret wpc_exit wpc_seq wpc_reg wpc_regD testA_bool wpc_cond wpc_block thenA_normal thenA_ret thenA_exit blockA_normal blockA_ret blockA_exit blockA_other endA_normal endA_ret ev_tmp' ev_const ev_func ev_global cv_int cv_bool cv_string cv_pointer cv_slice cv_agg cv_map put_some put_none wH_s setE_apply setE_env less_eq env_cons env_nil upd_upd upd_apply del_apply startA_eq cells_ag cells_sl one_sl cells_vs one_vs cells_ep one_ep cells_fn one_fn cells_int one_int cells_bool one_bool cells_string one_string cells_pointer one_pointer cells_slice one_slice cells_map one_map cells_agg resK_one resK_nil resK_two rvK_t rvK_c rvsK_nil rvsK_cons iseq_nil iseq_cons gdA_true gdA_false gdA_undef istep_free istep_guard istepV_free istepV_guard dseq_nil dseq_pu dseq_rd dseq_ef wpc_regT dtree_nil dtree_pu dtree_rd dtree_ef dtree_br chkAll_nil chkAll_cons andK_true pickK_true pickK_false pickK_tb pickK_fb bin2K_pl eqbK_eq eqbK_ne eqpK_eq eqpK_ne eqmK_eq eqmK_ne eqzK_eq eqzK_ne eqzK_sl eqzK_vs un1K_pl convK_int fillK_some fillA_cons fillA_nil cellsK_some needK_true needK_ok seeK_ep seeK_ptr oneK_agg oneK_one nilcK_ptr nilcK_ep fadrK_ptr fadrK_ep fldK_ag iadAK_ptr iadAK_ep iadSK_sl iadSK_vs extK_0 extK_1 extK_2 extK_3 lenK_pl lenK_sl lenK_vs lensK_pl boxK_some minmax1K_int storeK_ptr callvK_fn callvK_pl newsK_nil newsK_vs newsK_sl appK_nil appK_nil0 appK_sl appK_vs bnd1K_int bndK_none bndK_some slsK_vs slsK_nil slsK_sl0 slsK_sl slstrK_pl boolK_some eqsK_ag iop_eqs iop_sls iop_slstr seesK_some seesK_ro mapsK_some MAP_some findK_some findK_none plK_pl nmapK_none nmapK_some iop_mlook iop_mlen iop_mmk iop_mupd iop_mdel iop_mrng itK_none itK_some ptr0K_ptr iop_mnxt iop_ment it1K_some entK_some iop_mov iop_pick iop_bin iop_eqb iop_eqp iop_eqm iop_eqz iop_un capK_pl capK_sl capK_vs iop_cap apzK_nil iop_apz mksK_int iop_mks clrK_sl clrK_vs clrK_nil iop_clr iop_conv iop_build iop_load iop_nilc iop_fadr iop_fld iop_iadA iop_iadS iop_ext iop_mkf iop_len iop_lens iop_minmax iop_al iop_box iop_bsl iop_store iop_call iop_callv iop_app BIN_add BIN_sub BIN_mul BIN_and BIN_or BIN_xor BIN_andNot BIN_eql BIN_neq BIN_lss BIN_leq BIN_gtr BIN_geq BIN_quo BIN_rem BIN_shl BIN_shr BIN_sadd BIN_seql BIN_sneq BIN_slss BIN_sleq BIN_sgtr BIN_sgeq UN_neg UN_xor UN_not MM_nil MM_cons partsA argsA ptrA lessL eqL min2I slotN_int slotP_int slotI_int

theorem c27 {H : AH} {K : AV → AH → Prop} {x y0 : AV} (a b : List ByteArray) (hx : RowR H x a) (hy : RowR H y0 b) (hl : a.length ≤ 1000) (hl2 : b.length ≤ 1000)
    (hk : ∀ o1 o2 H', Sub H H' → RowR H' o1 (mis b a) → RowR H' o2 (mis a b) → K (.tp [o1, o2]) H') : @AC Tryz.prog 27 [x, y0] H ⟨K⟩ := by
  refine AC_of ?_
  refine call_c follows cf27_ok (by simp) ?_
  simp
  refine c52 b a hy hx hl2 hl fun o1 H1 r1 => ?_
  simp
  refine c52 a b (hx.sub r1.sub) (hy.sub r1.sub) hl hl2 fun o2 H2 r2 => ?_
  simp
  exact hk _ _ _ (r1.sub.trans r2.sub) (.inl ((r1.rin (by simp)).sub r2.sub)) (.inl (r2.rin (by simp)))
end Go.Proofs.YtidcajmbkbamcaaGreat
end

/-! The chapter's example. No conditions. -/
section
namespace Go.Proofs.YtidcajmbkbamcaaGreat
open Go Go.Ab Go.RowKit
set_option linter.unusedSimpArgs false
set_option linter.unusedVariables false
set_option linter.unnecessarySimpa false

attribute [local simp] condK_true condK_false condK_not wpc_skip wpc_ret wpc_exit wpc_seq wpc_reg wpc_regD testA_bool wpc_cond wpc_block thenA_normal thenA_ret thenA_exit blockA_normal blockA_ret blockA_exit blockA_other endA_normal endA_ret ev_tmp' ev_const ev_func ev_global cv_int cv_bool cv_string cv_pointer cv_slice cv_agg cv_map put_some put_none wH_s setE_apply setE_env less_eq env_cons env_nil upd_upd upd_apply del_apply startA_eq cells_ag cells_sl one_sl cells_vs one_vs cells_ep one_ep cells_fn one_fn cells_int one_int cells_bool one_bool cells_string one_string cells_pointer one_pointer cells_slice one_slice cells_map one_map cells_agg resK_one resK_nil resK_two rvK_t rvK_c rvsK_nil rvsK_cons iseq_nil iseq_cons gdA_true gdA_false gdA_undef istep_free istep_guard istepV_free istepV_guard dseq_nil dseq_pu dseq_rd dseq_ef wpc_regT dtree_nil dtree_pu dtree_rd dtree_ef dtree_br chkAll_nil chkAll_cons andK_true pickK_true pickK_false pickK_tb pickK_fb bin2K_pl eqbK_eq eqbK_ne eqpK_eq eqpK_ne eqmK_eq eqmK_ne eqzK_eq eqzK_ne eqzK_sl eqzK_vs un1K_pl convK_int fillK_some fillA_cons fillA_nil cellsK_some needK_true needK_ok seeK_ep seeK_ptr oneK_agg oneK_one nilcK_ptr nilcK_ep fadrK_ptr fadrK_ep fldK_ag iadAK_ptr iadAK_ep iadSK_sl iadSK_vs extK_0 extK_1 extK_2 extK_3 lenK_pl lenK_sl lenK_vs lensK_pl boxK_some minmax1K_int storeK_ptr callvK_fn callvK_pl newsK_nil newsK_vs newsK_sl appK_nil appK_nil0 appK_sl appK_vs bnd1K_int bndK_none bndK_some slsK_vs slsK_nil slsK_sl0 slsK_sl slstrK_pl boolK_some eqsK_ag iop_eqs iop_sls iop_slstr seesK_some seesK_ro mapsK_some MAP_some findK_some findK_none plK_pl nmapK_none nmapK_some iop_mlook iop_mlen iop_mmk iop_mupd iop_mdel iop_mrng itK_none itK_some ptr0K_ptr iop_mnxt iop_ment it1K_some entK_some iop_mov iop_pick iop_bin iop_eqb iop_eqp iop_eqm iop_eqz iop_un capK_pl capK_sl capK_vs iop_cap apzK_nil iop_apz mksK_int iop_mks clrK_sl clrK_vs clrK_nil iop_clr iop_conv iop_build iop_load iop_nilc iop_fadr iop_fld iop_iadA iop_iadS iop_ext iop_mkf iop_len iop_lens iop_minmax iop_al iop_box iop_bsl iop_store iop_call iop_callv iop_app BIN_add BIN_sub BIN_mul BIN_and BIN_or BIN_xor BIN_andNot BIN_eql BIN_neq BIN_lss BIN_leq BIN_gtr BIN_geq BIN_quo BIN_rem BIN_shl BIN_shr BIN_sadd BIN_seql BIN_sneq BIN_slss BIN_sleq BIN_sgtr BIN_sgeq UN_neg UN_xor UN_not MM_nil MM_cons partsA argsA ptrA lessL eqL min2I slotN_int slotP_int slotI_int
attribute [local simp] oc_len oc_tt oc_dd oc_one oc_ag oc_t1 oc_t2 oc_t3 oc_t4 oc_t5 oc_t6 oc_t7 oc_d1 oc_d2 oc_d3 oc_d4 oc_d5 oc_d6 oc_d7 rc_len rc_t4 rc_t1 rc_t2 rc_t3 rc_d1 rc_d2 rc_d3 rc_d4 rc_ag rc_one rc_eq min2_t min2_f

def nA : ByteArray := ⟨#[97]⟩
def nB : ByteArray := ⟨#[98]⟩
def nC : ByteArray := ⟨#[99]⟩
def oA : O := scr nA 4 2 0 0
def oB : O := scr nB 2 2 4 0
def oC : O := scr nA 1 1 50 50
def mAB : List O := [oB] ++ [oA]
theorem ex_p1 : plugE [] oB = 0 := by kernel_rfl
theorem ex_p2 : plugE [oB] oA = 0 := by kernel_rfl
theorem ex_p3 : plugE mAB oC = 7 := by kernel_rfl
theorem ex_m3 : movE mAB nB 3 0 = 6 := by kernel_rfl
theorem ex_sort : srtL [[98], [97]] = [[97], [98]] := by
  have h : srtL [[98], [97]] = srtL [[97], [98]] := srtL_perm (List.Perm.swap ..)
  rw [h, srtL]
  exact List.mergeSort_of_pairwise (by simp; decide)
theorem ex_names : snames mAB = [nA, nB] := by
  have : mAB.map (fun o => o.nm.toList) = [[98], [97]] := by
    simp only [mAB, oA, oB, scr, nA, nB, ByteArray.toList_eq, List.cons_append, List.nil_append, List.map_cons, List.map_nil]
  rw [snames, this, ex_sort]; rfl
theorem ex_outs : souts mAB = [oA, oB] := by
  rw [souts, ex_names]; kernel_rfl
theorem ex_areas : sareas mAB = [⟨0, 0, 4, 2⟩, ⟨4, 0, 6, 2⟩] := by
  rw [sareas, ex_outs]; kernel_rfl
theorem ex_c1 : clF (sareas mAB) 9 9 = (5, 1) := by rw [ex_areas]; kernel_rfl
theorem ex_c2 : clF (sareas mAB) 3 (-5) = (3, 0) := by rw [ex_areas]; kernel_rfl
theorem ex_a1 : atF (souts mAB) 4 1 = nB := by rw [ex_outs]; kernel_rfl
theorem ex_a2 : atF (souts mAB) 6 0 = ⟨#[]⟩ := by rw [ex_outs]; kernel_rfl
theorem ex_i : mis [nB, nC, nC] [nA, nB] = [nC] := by kernel_rfl
theorem ex_o : mis [nA, nB] [nB, nC, nC] = [nA] := by kernel_rfl
theorem RowR.one1 {H : AH} {x : AV} {v : ByteArray} (h : RowR H x [v]) : (∃ q f, x = .sl q 0 1 1 f ∧ H q = some (.cells [vs8 v])) ∨ x = .vs 1 false [vs8 v] := h.at (by simp)
theorem c5 : PC Tryz.prog 5 [] (vb true) := by
  refine .tell fun H => ?_
  refine call_c follows cf5_ok (by simp) ?_
  simp
  refine c6 fun p b hp hb hg => ?_
  have hS : Sub H (upd (upd H b (.map [] [] 0)) p (.cells [vb true, .pl (.map (some b))])) := ((Sub.refl H).upd hb).upd hp
  generalize upd (upd H b (.map [] [] 0)) p (.cells [vb true, .pl (.map (some b))]) = H1 at hg hS ⊢
  have cA : (⟨#[97]⟩ : ByteArray) = nA := rfl
  have cB : (⟨#[98]⟩ : ByteArray) = nB := rfl
  have cC : (⟨#[99]⟩ : ByteArray) = nC := rfl
  simp [cA, cB, cC]
  refine (c25 nB 2 2 4 0).ac ?_
  have sB : scr nB 2 2 4 0 = oB := rfl
  have sA : scr nA 4 2 0 0 = oA := rfl
  have sC : scr nA 1 1 50 50 = oC := rfl
  simp [sB]
  refine c24 oB hg fun st1 cl1 h1 => ?_
  have e1 : plugM [] oB = [oB] := if_pos ex_p1
  rw [e1] at h1 ⊢
  rw [ex_p1]
  have hS1 : Sub H (upo H1 b [oB] st1 cl1) := hS.upd hb
  generalize upo H1 b [oB] st1 cl1 = H2 at *
  simp [cA, cB, cC]
  refine (c25 nA 4 2 0 0).ac ?_
  simp [sA]
  refine c24 oA h1 fun st2 cl2 h2 => ?_
  have e2 : plugM [oB] oA = mAB := if_pos ex_p2
  rw [e2] at h2 ⊢
  rw [ex_p2]
  have hS2 : Sub H (upo H2 b mAB st2 cl2) := hS1.upd hb
  generalize upo H2 b mAB st2 cl2 = H3 at *
  simp [cA, cB, cC]
  refine c26 9 9 h2 (by decide) ?_
  rw [ex_c1]
  simp [cA, cB, cC]
  refine c26 3 (-5) h2 (by decide) ?_
  rw [ex_c2]
  simp [cA, cB, cC]
  refine newK_of fun u hu => ?_
  have u1 : Sub H3 (upd H3 u (.cells [vs8 nA, vs8 nB])) := (Sub.refl _).upd hu
  simp [cA, cB, cC]
  refine newK_of fun v hv => ?_
  have u2 : Sub (upd H3 u (.cells [vs8 nA, vs8 nB])) (upd (upd H3 u (.cells [vs8 nA, vs8 nB])) v (.cells [vs8 nB, vs8 nC, vs8 nC])) := (Sub.refl _).upd hv
  have r1 : RowR (upd (upd H3 u (.cells [vs8 nA, vs8 nB])) v (.cells [vs8 nB, vs8 nC, vs8 nC])) (.sl u 0 2 1 true) [nA, nB] := .inl ⟨rfl, .inr ⟨u, true, rfl, u2 u _ (by simp [upd_apply])⟩⟩
  have r2 : RowR (upd (upd H3 u (.cells [vs8 nA, vs8 nB])) v (.cells [vs8 nB, vs8 nC, vs8 nC])) (.sl v 0 3 1 true) [nB, nC, nC] := .inl ⟨rfl, .inr ⟨v, true, rfl, by simp [upd_apply]⟩⟩
  simp [cA, cB, cC]
  refine c27 [nA, nB] [nB, nC, nC] r1 r2 (by decide) (by decide) fun i1 i2 H4 hs4 ri ro => ?_
  rw [ex_i] at ri
  rw [ex_o] at ro
  have h4 := h2.sub ((u1.trans u2).trans hs4)
  have hS4 := hS2.trans ((u1.trans u2).trans hs4)
  clear r1 r2 u1 u2 hs4 hv hu
  simp [cA, cB, cC]
  refine c23 4 1 h4 (by decide) ?_
  rw [ex_a1]
  simp [cA, cB, cC]
  refine c23 6 0 h4 (by decide) ?_
  rw [ex_a2]
  simp [cA, cB, cC]
  refine c28 nB 3 0 h4 fun st5 cl5 h5 => ?_
  have e5 : movM mAB nB 3 0 = mAB := if_neg (by rw [ex_m3]; decide)
  rw [e5] at h5 ⊢
  rw [ex_m3]
  have hi5 : RowR (upo H4 b mAB st5 cl5) i1 [nC] := by
    rcases ri with hr | hr
    · rcases hr with ⟨hl, ⟨h0, rfl⟩ | ⟨r, f, rfl, hr⟩⟩
      · exact .inl ⟨hl, .inl ⟨h0, rfl⟩⟩
      · have : r ≠ b := by rintro rfl; rw [h4.mp] at hr; cases hr
        exact .inl ⟨hl, .inr ⟨r, f, rfl, by simp only [upo, upd_apply, if_neg this]; exact hr⟩⟩
    · exact .inr hr
  have ho5 : RowR (upo H4 b mAB st5 cl5) i2 [nA] := by
    rcases ro with hr | hr
    · rcases hr with ⟨hl, ⟨h0, rfl⟩ | ⟨r, f, rfl, hr⟩⟩
      · exact .inl ⟨hl, .inl ⟨h0, rfl⟩⟩
      · have : r ≠ b := by rintro rfl; rw [h4.mp] at hr; cases hr
        exact .inl ⟨hl, .inr ⟨r, f, rfl, by simp only [upo, upd_apply, if_neg this]; exact hr⟩⟩
    · exact .inr hr
  have hS5 : Sub H (upo H4 b mAB st5 cl5) := hS4.upd hb
  generalize upo H4 b mAB st5 cl5 = H5 at *
  simp [cA, cB, cC]
  refine (c25 nA 1 1 50 50).ac ?_
  simp [sC]
  refine c24 oC h5 fun st6 cl6 h6 => ?_
  have e6 : plugM mAB oC = mAB := if_neg (by rw [ex_p3]; decide)
  rw [e6] at h6 ⊢
  rw [ex_p3]
  have hi6 : RowR (upo H5 b mAB st6 cl6) i1 [nC] := by
    rcases hi5 with hr | hr
    · rcases hr with ⟨hl, ⟨h0, rfl⟩ | ⟨r, f, rfl, hr⟩⟩
      · exact .inl ⟨hl, .inl ⟨h0, rfl⟩⟩
      · have : r ≠ b := by rintro rfl; rw [h5.mp] at hr; cases hr
        exact .inl ⟨hl, .inr ⟨r, f, rfl, by simp only [upo, upd_apply, if_neg this]; exact hr⟩⟩
    · exact .inr hr
  have ho6 : RowR (upo H5 b mAB st6 cl6) i2 [nA] := by
    rcases ho5 with hr | hr
    · rcases hr with ⟨hl, ⟨h0, rfl⟩ | ⟨r, f, rfl, hr⟩⟩
      · exact .inl ⟨hl, .inl ⟨h0, rfl⟩⟩
      · have : r ≠ b := by rintro rfl; rw [h5.mp] at hr; cases hr
        exact .inl ⟨hl, .inr ⟨r, f, rfl, by simp only [upo, upd_apply, if_neg this]; exact hr⟩⟩
    · exact .inr hr
  have hS6 : Sub H (upo H5 b mAB st6 cl6) := hS5.upd hb
  generalize upo H5 b mAB st6 cl6 = H6 at *
  rcases hi6.one1 with ⟨q, f, rfl, hq⟩ | rfl <;> rcases ho6.one1 with ⟨q2, f2, rfl, hq2⟩ | rfl
  · simp [cA, cB, cC, hq, hq2]; exact hS6
  · simp [cA, cB, cC, hq]; exact hS6
  · simp [cA, cB, cC, hq2]; exact hS6
  · simp [cA, cB, cC]; exact hS6
end Go.Proofs.YtidcajmbkbamcaaGreat
end

/-! The law's calls, and a layout that is built by calls. Conditions: as each lemma states them. -/
section
namespace Go.Proofs.YtidcajmbkbamcaaGreat
open Go Go.Ab Go.RowKit
set_option linter.unusedSimpArgs false
set_option linter.unusedVariables false
set_option linter.unnecessarySimpa false

attribute [local simp] condK_true condK_false condK_not wpc_skip wpc_ret wpc_exit wpc_seq wpc_reg wpc_regD testA_bool wpc_cond wpc_block thenA_normal thenA_ret thenA_exit blockA_normal blockA_ret blockA_exit blockA_other endA_normal endA_ret ev_tmp' ev_const ev_func ev_global cv_int cv_bool cv_string cv_pointer cv_slice cv_agg cv_map put_some put_none wH_s setE_apply setE_env less_eq env_cons env_nil upd_upd upd_apply del_apply startA_eq cells_ag cells_sl one_sl cells_vs one_vs cells_ep one_ep cells_fn one_fn cells_int one_int cells_bool one_bool cells_string one_string cells_pointer one_pointer cells_slice one_slice cells_map one_map cells_agg resK_one resK_nil resK_two rvK_t rvK_c rvsK_nil rvsK_cons iseq_nil iseq_cons gdA_true gdA_false gdA_undef istep_free istep_guard istepV_free istepV_guard dseq_nil dseq_pu dseq_rd dseq_ef wpc_regT dtree_nil dtree_pu dtree_rd dtree_ef dtree_br chkAll_nil chkAll_cons andK_true pickK_true pickK_false pickK_tb pickK_fb bin2K_pl eqbK_eq eqbK_ne eqpK_eq eqpK_ne eqmK_eq eqmK_ne eqzK_eq eqzK_ne eqzK_sl eqzK_vs un1K_pl convK_int fillK_some fillA_cons fillA_nil cellsK_some needK_true needK_ok seeK_ep seeK_ptr oneK_agg oneK_one nilcK_ptr nilcK_ep fadrK_ptr fadrK_ep fldK_ag iadAK_ptr iadAK_ep iadSK_sl iadSK_vs extK_0 extK_1 extK_2 extK_3 lenK_pl lenK_sl lenK_vs lensK_pl boxK_some minmax1K_int storeK_ptr callvK_fn callvK_pl newsK_nil newsK_vs newsK_sl appK_nil appK_nil0 appK_sl appK_vs bnd1K_int bndK_none bndK_some slsK_vs slsK_nil slsK_sl0 slsK_sl slstrK_pl boolK_some eqsK_ag iop_eqs iop_sls iop_slstr seesK_some seesK_ro mapsK_some MAP_some findK_some findK_none plK_pl nmapK_none nmapK_some iop_mlook iop_mlen iop_mmk iop_mupd iop_mdel iop_mrng itK_none itK_some ptr0K_ptr iop_mnxt iop_ment it1K_some entK_some iop_mov iop_pick iop_bin iop_eqb iop_eqp iop_eqm iop_eqz iop_un capK_pl capK_sl capK_vs iop_cap apzK_nil iop_apz mksK_int iop_mks clrK_sl clrK_vs clrK_nil iop_clr iop_conv iop_build iop_load iop_nilc iop_fadr iop_fld iop_iadA iop_iadS iop_ext iop_mkf iop_len iop_lens iop_minmax iop_al iop_box iop_bsl iop_store iop_call iop_callv iop_app BIN_add BIN_sub BIN_mul BIN_and BIN_or BIN_xor BIN_andNot BIN_eql BIN_neq BIN_lss BIN_leq BIN_gtr BIN_geq BIN_quo BIN_rem BIN_shl BIN_shr BIN_sadd BIN_seql BIN_sneq BIN_slss BIN_sleq BIN_sgtr BIN_sgeq UN_neg UN_xor UN_not MM_nil MM_cons partsA argsA ptrA lessL eqL min2I slotN_int slotP_int slotI_int
attribute [local simp] oc_len oc_tt oc_dd oc_one oc_ag oc_t1 oc_t2 oc_t3 oc_t4 oc_t5 oc_t6 oc_t7 oc_d1 oc_d2 oc_d3 oc_d4 oc_d5 oc_d6 oc_d7 rc_len rc_t4 rc_t1 rc_t2 rc_t3 rc_d1 rc_d2 rc_d3 rc_d4 rc_ag rc_one rc_eq min2_t min2_f

structure Op where
  k : Int
  nm : ByteArray
  w : Int
  h : Int
  rf : Int
  sc : Int
  tr : Int
  x : Int
  y : Int
  deriving DecidableEq
def opq (r : Op) : List AV := [vi r.k, vs8 r.nm, vi r.w, vi r.h, vi r.rf, vi r.sc, vi r.tr, vi r.x, vi r.y]
theorem opq_len (r : Op) : (opq r).length = 9 := rfl
theorem opq_tt (r : Op) : (opq r).take 9 = opq r := rfl
theorem opq_dd (r : Op) : (opq r).drop 9 = [] := rfl
theorem opq_one (r : Op) : (opq r).all AV.one = true := rfl
theorem opq_t1 (r : Op) : (opq r).take 1 = [vi r.k] := rfl
theorem opq_d1 (r : Op) : (opq r).tail = [vs8 r.nm, vi r.w, vi r.h, vi r.rf, vi r.sc, vi r.tr, vi r.x, vi r.y] := rfl
theorem opq_t2 (r : Op) : (opq r).take 2 = [vi r.k, vs8 r.nm] := rfl
theorem opq_d2 (r : Op) : (opq r).drop 2 = [vi r.w, vi r.h, vi r.rf, vi r.sc, vi r.tr, vi r.x, vi r.y] := rfl
theorem opq_t3 (r : Op) : (opq r).take 3 = [vi r.k, vs8 r.nm, vi r.w] := rfl
theorem opq_d3 (r : Op) : (opq r).drop 3 = [vi r.h, vi r.rf, vi r.sc, vi r.tr, vi r.x, vi r.y] := rfl
theorem opq_t4 (r : Op) : (opq r).take 4 = [vi r.k, vs8 r.nm, vi r.w, vi r.h] := rfl
theorem opq_d4 (r : Op) : (opq r).drop 4 = [vi r.rf, vi r.sc, vi r.tr, vi r.x, vi r.y] := rfl
theorem opq_t5 (r : Op) : (opq r).take 5 = [vi r.k, vs8 r.nm, vi r.w, vi r.h, vi r.rf] := rfl
theorem opq_d5 (r : Op) : (opq r).drop 5 = [vi r.sc, vi r.tr, vi r.x, vi r.y] := rfl
theorem opq_t6 (r : Op) : (opq r).take 6 = [vi r.k, vs8 r.nm, vi r.w, vi r.h, vi r.rf, vi r.sc] := rfl
theorem opq_d6 (r : Op) : (opq r).drop 6 = [vi r.tr, vi r.x, vi r.y] := rfl
theorem opq_t7 (r : Op) : (opq r).take 7 = [vi r.k, vs8 r.nm, vi r.w, vi r.h, vi r.rf, vi r.sc, vi r.tr] := rfl
theorem opq_d7 (r : Op) : (opq r).drop 7 = [vi r.x, vi r.y] := rfl
theorem opq_t8 (r : Op) : (opq r).take 8 = [vi r.k, vs8 r.nm, vi r.w, vi r.h, vi r.rf, vi r.sc, vi r.tr, vi r.x] := rfl
theorem opq_d8 (r : Op) : (opq r).drop 8 = [vi r.y] := rfl
theorem opq_ag (c0 : Int) (c1 : ByteArray) (c2 : Int) (c3 : Int) (c4 : Int) (c5 : Int) (c6 : Int) (c7 : Int) (c8 : Int) : AV.ag [vi c0, vs8 c1, vi c2, vi c3, vi c4, vi c5, vi c6, vi c7, vi c8] = .ag (opq ⟨c0, c1, c2, c3, c4, c5, c6, c7, c8⟩) := rfl
attribute [local simp] opq_len opq_tt opq_dd opq_one opq_ag opq_t1 opq_t2 opq_t3 opq_t4 opq_t5 opq_t6 opq_t7 opq_t8 opq_d1 opq_d2 opq_d3 opq_d4 opq_d5 opq_d6 opq_d7 opq_d8
def Op.o (x : Op) : O := ⟨x.nm, x.w, x.h, x.rf, x.sc, x.tr, x.x, x.y⟩
def doE (m : List O) (x : Op) : Int := if x.k = 1 then plugE m x.o else if x.k = 2 then delE m x.nm else movE m x.nm x.x x.y
def doM (m : List O) (x : Op) : List O := if x.k = 1 then plugM m x.o else if x.k = 2 then delM m x.nm else movM m x.nm x.x x.y
theorem doM_len (m : List O) (x : Op) : (doM m x).length ≤ m.length + 1 := by
  unfold doM
  split
  · unfold plugM; split <;> simp
  · split
    · have := List.length_filter_le (fun o : O => !decide (o.nm = x.nm)) m
      unfold delM; omega
    · unfold movM; split <;> simp
theorem doM_bad {m : List O} {x : Op} (h : doE m x ≠ 0) : doM m x = m := by
  unfold doE at h
  unfold doM
  split
  · rename_i c; rw [if_pos c] at h; exact if_neg h
  · rename_i c
    rw [if_neg c] at h
    split
    · rename_i c2
      rw [if_pos c2] at h
      unfold delE at h
      split at h
      · exact absurd rfl h
      · rename_i c3
        refine delM_none fun y hy e => c3 ?_
        rw [has, List.any_eq_true]; exact ⟨y, hy, by simpa using e⟩
    · rename_i c2; rw [if_neg c2] at h; exact if_neg h
theorem c9 {H : AH} {K : AV → AH → Prop} {p b : Nat} {m : List O} {st : List Nat} {cl : Nat} (x : Op) (h : LS H p b m st cl)
    (hk : ∀ st' cl', LS (upo H b (doM m x) st' cl') p b (doM m x) st' cl' → K (vi (doE m x)) (upo H b (doM m x) st' cl')) : @AC Tryz.prog 9 [pA p, .ag (opq x)] H ⟨K⟩ := by
  refine AC_of (.forget ?_)
  refine call_c follows cf9_ok (by simp) ?_
  simp
  refine newK_of fun z hz => ?_
  have hs : Sub H (upd H z (.cells (opq x))) := (Sub.refl H).upd hz
  have h1 := h.sub hs
  have ho : (⟨x.nm, x.w, x.h, x.rf, x.sc, x.tr, x.x, x.y⟩ : O) = x.o := rfl
  have mv : ∀ {m' : List O} {st' : List Nat} {cl' : Nat}, LS (upo (upd H z (.cells (opq x))) b m' st' cl') p b m' st' cl' → LS (upo H b m' st' cl') p b m' st' cl' := fun {m' st' cl'} g => h.new g.nd g.stp
  simp
  by_cases c1 : x.k = 1
  · simp [c1, ho]
    refine c24 x.o h1 fun st' cl' g => ?_
    have := hk st' cl' (by rw [doM, if_pos c1]; exact mv g)
    rw [doM, if_pos c1, doE, if_pos c1] at this
    simp
    exact ⟨_, hs.cong, this⟩
  · by_cases c2 : x.k = 2
    · simp [c2]
      refine c32 x.nm h1 fun st' cl' g => ?_
      have := hk st' cl' (by rw [doM, if_neg c1, if_pos c2]; exact mv g)
      rw [doM, if_neg c1, if_pos c2, doE, if_neg c1, if_pos c2] at this
      simp
      exact ⟨_, hs.cong, this⟩
    · simp [c1, c2]
      refine c28 x.nm x.x x.y h1 fun st' cl' g => ?_
      have := hk st' cl' (by rw [doM, if_neg c1, if_neg c2]; exact mv g)
      rw [doM, if_neg c1, if_neg c2, doE, if_neg c1, if_neg c2] at this
      simp
      exact ⟨_, hs.cong, this⟩
def run (l : List Op) : List O := l.foldl doM []
theorem run_len : ∀ (l : List Op) (m : List O), (l.foldl doM m).length ≤ m.length + l.length
  | [], m => by simp
  | x :: l, m => by
    have h1 := run_len l (doM m x)
    have h2 := doM_len m x
    simp only [List.foldl_cons, List.length_cons]; omega
theorem opq_at {l : List Op} {i : Nat} (h : i < l.length) : ((flat opq l).drop (i * 9)).take 9 = opq l[i] := by
  rw [flat_drop (enc := opq) (fun _ => rfl) l i h]; rfl
theorem opq_flat_len (L : List Op) : (flat opq L).length = L.length * 9 := flat_len (enc := opq) (fun _ => rfl) L
theorem upo_upo {H : AH} {b : Nat} {m m' : List O} {st st' : List Nat} {cl cl' : Nat} : upo (upo H b m st cl) b m' st' cl' = upo H b m' st' cl' := upd_upd
theorem c15 {H : AH} {K : AV → AH → Prop} (l : List Op) (hl : l.length ≤ 60)
    (hk : ∀ p b st cl H', Sub H H' → H b = none → LS H' p b (run l) st cl → K (pA p) H') : @AC Tryz.prog 15 [.vs l.length false (flat opq l)] H ⟨K⟩ := by
  refine AC_of ?_
  refine call_c follows cf15_ok (by simp) ?_
  simp
  refine c6 fun p b hp hb hg => ?_
  have hS : Sub H (upd (upd H b (.map [] [] 0)) p (.cells [vb true, .pl (.map (some b))])) := ((Sub.refl H).upd hb).upd hp
  generalize upd (upd H b (.map [] [] 0)) p (.cells [vb true, .pl (.map (some b))]) = H1 at hg hS ⊢
  simp
  refine wpc_loop (fun s => ∃ (i : Nat) (st : List Nat) (cl : Nat), s.n = 21 ∧ s.t 0 = .vs l.length false (flat opq l) ∧ s.t 3 = pA p ∧ s.t 4 = vi i ∧ i ≤ l.length ∧ LS (upo H1 b (run (l.take i)) st cl) p b (run (l.take i)) st cl ∧ s.H = upo H1 b (run (l.take i)) st cl) (fun s => l.length - slotN (s.t 4)) ?_ ?_
  · have e : upo H1 b (run (l.take 0)) [] 0 = H1 := hg.self
    exact FgK.same ⟨0, [], 0, by simp, by simp, by simp, by simp, by omega, by rw [e]; exact hg, by rw [e]⟩
  rintro s ⟨i, st, cl, hn, e0, e3, e4, hi, hG, hH⟩
  have w := IntWalk.i64_in ((i : Int) + 1) (by omega)
  by_cases hlt : i < l.length
  · have hd := opq_at hlt
    have hsp := take_snoc hlt
    have hbd : i * 9 + 9 ≤ (flat opq l).length := by rw [opq_flat_len]; omega
    generalize l[i] = x at hd hsp
    have hR : run (l.take (i + 1)) = doM (run (l.take i)) x := by rw [hsp, run, List.foldl_append]; rfl
    generalize run (l.take i) = m at *
    simp (disch := omega) [hn, e0, e3, e4, hlt, hd, hbd]
    rw [hH]
    refine c9 x hG fun st' cl' g => ?_
    rw [upo_upo, ← hR] at g
    rw [upo_upo, ← hR]
    simp (disch := omega) [hn, e0, e3, e4, w]
    exact FgK.same ⟨⟨i + 1, st', cl', by simp [hn], by simp [e0], by simp [e3], by simp, by omega, g, by simp⟩, by simp [e4]; omega⟩
  · rw [List.take_of_length_le (by omega)] at hG hH
    have := hk p b st cl (upo H1 b (run l) st cl) (hS.upd hb) hb hG
    simp (disch := omega) [hn, e0, e3, e4, hlt, hH]
    exact this
end Go.Proofs.YtidcajmbkbamcaaGreat
end

/-! LayoutRefused: for every run and call the law returns true, and its arguments read as they did. No conditions: every input that the row admits. -/
section
namespace Go.Proofs.YtidcajmbkbamcaaGreat
open Go Go.Ab Go.RowKit Go.ChangeShapes Go.WideShapes Go.ChangeAt
set_option linter.unusedSimpArgs false
set_option linter.unusedVariables false
set_option linter.unnecessarySimpa false

attribute [local simp] condK_true condK_false condK_not wpc_skip wpc_ret wpc_exit wpc_seq wpc_reg wpc_regD testA_bool wpc_cond wpc_block thenA_normal thenA_ret thenA_exit blockA_normal blockA_ret blockA_exit blockA_other endA_normal endA_ret ev_tmp' ev_const ev_func ev_global cv_int cv_bool cv_string cv_pointer cv_slice cv_agg cv_map put_some put_none wH_s setE_apply setE_env less_eq env_cons env_nil upd_upd upd_apply del_apply startA_eq cells_ag cells_sl one_sl cells_vs one_vs cells_ep one_ep cells_fn one_fn cells_int one_int cells_bool one_bool cells_string one_string cells_pointer one_pointer cells_slice one_slice cells_map one_map cells_agg resK_one resK_nil resK_two rvK_t rvK_c rvsK_nil rvsK_cons iseq_nil iseq_cons gdA_true gdA_false gdA_undef istep_free istep_guard istepV_free istepV_guard dseq_nil dseq_pu dseq_rd dseq_ef wpc_regT dtree_nil dtree_pu dtree_rd dtree_ef dtree_br chkAll_nil chkAll_cons andK_true pickK_true pickK_false pickK_tb pickK_fb bin2K_pl eqbK_eq eqbK_ne eqpK_eq eqpK_ne eqmK_eq eqmK_ne eqzK_eq eqzK_ne eqzK_sl eqzK_vs un1K_pl convK_int fillK_some fillA_cons fillA_nil cellsK_some needK_true needK_ok seeK_ep seeK_ptr oneK_agg oneK_one nilcK_ptr nilcK_ep fadrK_ptr fadrK_ep fldK_ag iadAK_ptr iadAK_ep iadSK_sl iadSK_vs extK_0 extK_1 extK_2 extK_3 lenK_pl lenK_sl lenK_vs lensK_pl boxK_some minmax1K_int storeK_ptr callvK_fn callvK_pl newsK_nil newsK_vs newsK_sl appK_nil appK_nil0 appK_sl appK_vs bnd1K_int bndK_none bndK_some slsK_vs slsK_nil slsK_sl0 slsK_sl slstrK_pl boolK_some eqsK_ag iop_eqs iop_sls iop_slstr seesK_some seesK_ro mapsK_some MAP_some findK_some findK_none plK_pl nmapK_none nmapK_some iop_mlook iop_mlen iop_mmk iop_mupd iop_mdel iop_mrng itK_none itK_some ptr0K_ptr iop_mnxt iop_ment it1K_some entK_some iop_mov iop_pick iop_bin iop_eqb iop_eqp iop_eqm iop_eqz iop_un capK_pl capK_sl capK_vs iop_cap apzK_nil iop_apz mksK_int iop_mks clrK_sl clrK_vs clrK_nil iop_clr iop_conv iop_build iop_load iop_nilc iop_fadr iop_fld iop_iadA iop_iadS iop_ext iop_mkf iop_len iop_lens iop_minmax iop_al iop_box iop_bsl iop_store iop_call iop_callv iop_app BIN_add BIN_sub BIN_mul BIN_and BIN_or BIN_xor BIN_andNot BIN_eql BIN_neq BIN_lss BIN_leq BIN_gtr BIN_geq BIN_quo BIN_rem BIN_shl BIN_shr BIN_sadd BIN_seql BIN_sneq BIN_slss BIN_sleq BIN_sgtr BIN_sgeq UN_neg UN_xor UN_not MM_nil MM_cons partsA argsA ptrA lessL eqL min2I slotN_int slotP_int slotI_int
attribute [local simp] oc_len oc_tt oc_dd oc_one oc_ag oc_t1 oc_t2 oc_t3 oc_t4 oc_t5 oc_t6 oc_t7 oc_d1 oc_d2 oc_d3 oc_d4 oc_d5 oc_d6 oc_d7 opq_len opq_tt opq_dd opq_one opq_ag opq_t1 opq_t2 opq_t3 opq_t4 opq_t5 opq_t6 opq_t7 opq_t8 opq_d1 opq_d2 opq_d3 opq_d4 opq_d5 opq_d6 opq_d7 opq_d8 rc_len rc_t4 rc_t1 rc_t2 rc_t3 rc_d1 rc_d2 rc_d3 rc_d4 rc_ag rc_one rc_eq min2_t min2_f

theorem oc_eq (a b : O) : eqL [2, 1, 1, 1, 1, 1, 1, 1] (oc a) (oc b) = some (eqO a b) := by simp [oc, eqL, eqO]
theorem eqO_refl (a : O) : eqO a a = true := by simp [eqO]
theorem rowIn_upo {H : AH} {p b : Nat} {m m' : List O} {st st' : List Nat} {cl cl' : Nat} {out : AV} {cs : List AV} {n sz : Nat} (hb : LS H p b m st cl) (h : RowIn H out cs n sz) : RowIn (upo H b m' st' cl') out cs n sz := by
  rcases h with ⟨hl, ⟨h0, rfl⟩ | ⟨r, f, rfl, hr⟩⟩
  · exact ⟨hl, .inl ⟨h0, rfl⟩⟩
  · refine ⟨hl, .inr ⟨r, f, rfl, ?_⟩⟩
    have : r ≠ b := by rintro rfl; rw [hb.mp] at hr; cases hr
    simp only [upo, upd_apply, if_neg this]; exact hr
theorem delM_len {m : List O} {s : ByteArray} (hn : (m.map okey).Nodup) (h : has m s = true) : (delM m s).length + 1 = m.length := by
  rcases splitS okey s m with e | ⟨m1, x, m2, rfl, e1, e2⟩
  · rw [has_none e] at h; cases h
  · rw [delM_mid hn e2]; simp; omega
theorem doM_good {m : List O} {x : Op} (hn : (m.map okey).Nodup) (h : doE m x = 0) : (x.k = 1 → (doM m x).length = m.length + 1) ∧ (x.k = 2 → (doM m x).length + 1 = m.length) := by
  constructor
  · intro c
    rw [doE, if_pos c] at h
    rw [doM, if_pos c, plugM, if_pos h]; simp
  · intro c
    have c1 : ¬ x.k = 1 := by omega
    rw [doE, if_neg c1, if_pos c] at h
    rw [doM, if_neg c1, if_pos c]
    refine delM_len hn ?_
    unfold delE at h
    split at h
    · assumption
    · cases h
abbrev opqL : List Lf := [.i .i64, .s, .i .i64, .i .i64, .i .i64, .i .i64, .i .i64, .i .i64, .i .i64]
theorem fitOpq {cs : List AV} (h : FitL opqL cs) : ∃ x : Op, cs = opq x := by
  obtain ⟨_, _, rfl, h0, h⟩ := h.cons_inv
  obtain ⟨_, _, rfl, h1, h⟩ := h.cons_inv
  obtain ⟨_, _, rfl, h2, h⟩ := h.cons_inv
  obtain ⟨_, _, rfl, h3, h⟩ := h.cons_inv
  obtain ⟨_, _, rfl, h4, h⟩ := h.cons_inv
  obtain ⟨_, _, rfl, h5, h⟩ := h.cons_inv
  obtain ⟨_, _, rfl, h6, h⟩ := h.cons_inv
  obtain ⟨_, _, rfl, h7, h⟩ := h.cons_inv
  obtain ⟨_, _, rfl, h8, h⟩ := h.cons_inv
  obtain rfl := h.nil_inv
  obtain ⟨_, rfl, _⟩ := h0.i_inv
  obtain ⟨_, rfl, _⟩ := h1.s_inv
  obtain ⟨_, rfl, _⟩ := h2.i_inv
  obtain ⟨_, rfl, _⟩ := h3.i_inv
  obtain ⟨_, rfl, _⟩ := h4.i_inv
  obtain ⟨_, rfl, _⟩ := h5.i_inv
  obtain ⟨_, rfl, _⟩ := h6.i_inv
  obtain ⟨_, rfl, _⟩ := h7.i_inv
  obtain ⟨_, rfl, _⟩ := h8.i_inv
  exact ⟨⟨_, _, _, _, _, _, _, _, _⟩, rfl⟩
theorem fitOps {a : AV} (h : FitT false [.sl opqL] a) : ∃ l : List Op, a = .vs l.length false (flat opq l) := by
  obtain ⟨n, cs, rfl, hn, hl, hf⟩ := (FitL.one_inv h).sl_inv
  obtain ⟨l, rfl, rfl⟩ := FitL.elems (enc := opq) (by decide) (fun cs h => fitOpq h) n cs hl hf
  exact ⟨l, rfl⟩
set_option maxRecDepth 100000
end Go.Proofs.YtidcajmbkbamcaaGreat
end

/-! The outputs of a layout are valid; what overlaps a rectangle. Conditions: as each lemma states them. -/
section
namespace Go.Proofs.YtidcajmbkbamcaaGreat
open Go Go.Ab Go.RowKit
set_option linter.unusedSimpArgs false
set_option linter.unusedVariables false
set_option linter.unnecessarySimpa false

attribute [local simp] condK_true condK_false condK_not wpc_skip wpc_ret wpc_exit wpc_seq wpc_reg wpc_regD testA_bool wpc_cond wpc_block thenA_normal thenA_ret thenA_exit blockA_normal blockA_ret blockA_exit blockA_other endA_normal endA_ret ev_tmp' ev_const ev_func ev_global cv_int cv_bool cv_string cv_pointer cv_slice cv_agg cv_map put_some put_none wH_s setE_apply setE_env less_eq env_cons env_nil upd_upd upd_apply del_apply startA_eq cells_ag cells_sl one_sl cells_vs one_vs cells_ep one_ep cells_fn one_fn cells_int one_int cells_bool one_bool cells_string one_string cells_pointer one_pointer cells_slice one_slice cells_map one_map cells_agg resK_one resK_nil resK_two rvK_t rvK_c rvsK_nil rvsK_cons iseq_nil iseq_cons gdA_true gdA_false gdA_undef istep_free istep_guard istepV_free istepV_guard dseq_nil dseq_pu dseq_rd dseq_ef wpc_regT dtree_nil dtree_pu dtree_rd dtree_ef dtree_br chkAll_nil chkAll_cons andK_true pickK_true pickK_false pickK_tb pickK_fb bin2K_pl eqbK_eq eqbK_ne eqpK_eq eqpK_ne eqmK_eq eqmK_ne eqzK_eq eqzK_ne eqzK_sl eqzK_vs un1K_pl convK_int fillK_some fillA_cons fillA_nil cellsK_some needK_true needK_ok seeK_ep seeK_ptr oneK_agg oneK_one nilcK_ptr nilcK_ep fadrK_ptr fadrK_ep fldK_ag iadAK_ptr iadAK_ep iadSK_sl iadSK_vs extK_0 extK_1 extK_2 extK_3 lenK_pl lenK_sl lenK_vs lensK_pl boxK_some minmax1K_int storeK_ptr callvK_fn callvK_pl newsK_nil newsK_vs newsK_sl appK_nil appK_nil0 appK_sl appK_vs bnd1K_int bndK_none bndK_some slsK_vs slsK_nil slsK_sl0 slsK_sl slstrK_pl boolK_some eqsK_ag iop_eqs iop_sls iop_slstr seesK_some seesK_ro mapsK_some MAP_some findK_some findK_none plK_pl nmapK_none nmapK_some iop_mlook iop_mlen iop_mmk iop_mupd iop_mdel iop_mrng itK_none itK_some ptr0K_ptr iop_mnxt iop_ment it1K_some entK_some iop_mov iop_pick iop_bin iop_eqb iop_eqp iop_eqm iop_eqz iop_un capK_pl capK_sl capK_vs iop_cap apzK_nil iop_apz mksK_int iop_mks clrK_sl clrK_vs clrK_nil iop_clr iop_conv iop_build iop_load iop_nilc iop_fadr iop_fld iop_iadA iop_iadS iop_ext iop_mkf iop_len iop_lens iop_minmax iop_al iop_box iop_bsl iop_store iop_call iop_callv iop_app BIN_add BIN_sub BIN_mul BIN_and BIN_or BIN_xor BIN_andNot BIN_eql BIN_neq BIN_lss BIN_leq BIN_gtr BIN_geq BIN_quo BIN_rem BIN_shl BIN_shr BIN_sadd BIN_seql BIN_sneq BIN_slss BIN_sleq BIN_sgtr BIN_sgeq UN_neg UN_xor UN_not MM_nil MM_cons partsA argsA ptrA lessL eqL min2I slotN_int slotP_int slotI_int
attribute [local simp] oc_len oc_tt oc_dd oc_one oc_ag oc_t1 oc_t2 oc_t3 oc_t4 oc_t5 oc_t6 oc_t7 oc_d1 oc_d2 oc_d3 oc_d4 oc_d5 oc_d6 oc_d7 opq_len opq_tt opq_dd opq_one opq_ag opq_t1 opq_t2 opq_t3 opq_t4 opq_t5 opq_t6 opq_t7 opq_t8 opq_d1 opq_d2 opq_d3 opq_d4 opq_d5 opq_d6 opq_d7 opq_d8 rc_len rc_t4 rc_t1 rc_t2 rc_t3 rc_d1 rc_d2 rc_d3 rc_d4 rc_ag rc_one rc_eq min2_t min2_f

theorem chk_parts (o : O) (h : chk o = 0) : nmbad o = false ∧ okt o.tr = true ∧ 1 ≤ o.sc ∧ o.sc ≤ 4 ∧ lenok o.w o.sc = true ∧ lenok o.h o.sc = true ∧ 1000 ≤ o.rf ∧ o.rf ≤ 240000 ∧ okc o.x = true ∧ okc o.y = true ∧ rvalid (lrect o) = true := by
  unfold chk at h
  repeat' (split at h <;> first | (exact absurd h (by decide)) | skip)
  simp_all
theorem chk_dims (o : O) (h : chk o = 0) : (0 ≤ o.tr ∧ o.tr ≤ 7) ∧ (1 ≤ o.sc ∧ o.sc ≤ 4) ∧ (1 ≤ o.w ∧ o.w ≤ 256) ∧ (1 ≤ o.h ∧ o.h ≤ 256) ∧ o.w % o.sc = 0 ∧ o.h % o.sc = 0 ∧ (-16384 ≤ o.x ∧ o.x ≤ 16384) ∧ (-16384 ≤ o.y ∧ o.y ≤ 16384) := by
  obtain ⟨h0, h1, h2, h3, h4, h5, h6, h7, h8, h9, h10⟩ := chk_parts o h
  simp [okt] at h1
  simp [lenok] at h4 h5
  simp [okc] at h8 h9
  have e1 : o.w.tmod o.sc = o.w % o.sc := Int.tmod_eq_emod_of_nonneg (by omega)
  have e2 : o.h.tmod o.sc = o.h % o.sc := Int.tmod_eq_emod_of_nonneg (by omega)
  omega
theorem part_ok (a k : Int) (ha : 1 ≤ a ∧ a ≤ 256) (hk : 1 ≤ k ∧ k ≤ 4) (hm : a % k = 0) : 1 ≤ W64 (a.tdiv k) ∧ W64 (a.tdiv k) ≤ 256 := by
  have e : a.tdiv k = a / k := Int.tdiv_eq_ediv_of_nonneg (by omega)
  have : k = 1 ∨ k = 2 ∨ k = 3 ∨ k = 4 := by omega
  have hb : 1 ≤ a / k ∧ a / k ≤ 256 := by rcases this with rfl | rfl | rfl | rfl <;> omega
  rw [e, W64, IntWalk.i64_in _ (by omega)]
  exact hb
theorem lg_ne {o : O} (h : chk o = 0) : rempty (lg o) = false := by
  obtain ⟨_, hk, hw, hh, mw, mh, hx, hy⟩ := chk_dims o h
  have hv := (chk_parts o h).2.2.2.2.2.2.2.2.2.2
  have p1 := part_ok o.w o.sc hw hk mw
  have p2 := part_ok o.h o.sc hh hk mh
  rw [lg, if_pos h]
  have hs : (1 ≤ (sz o).1 ∧ (sz o).1 ≤ 256) ∧ 1 ≤ (sz o).2 ∧ (sz o).2 ≤ 256 := by
    unfold sz swp
    split
    · exact ⟨p2, p1⟩
    · exact ⟨p1, p2⟩
  have w1 : W64 (o.x + (sz o).1) = o.x + (sz o).1 := IntWalk.i64_in _ (by omega)
  have w2 : W64 (o.y + (sz o).2) = o.y + (sz o).2 := IntWalk.i64_in _ (by omega)
  simp only [rvalid, lrect, okc, w1, w2] at hv
  refine rempty_of _ ?_
  simp only [lrect, w1, w2]
  simp at hv
  omega
theorem nm_ne {o : O} (h : chk o = 0) : o.nm ≠ ⟨#[]⟩ := by
  have := (chk_parts o h).1
  intro e
  rw [nmbad, e] at this
  have h2 : (⟨#[]⟩ : ByteArray).toList = [] := by rw [ByteArray.toList_eq]
  rw [h2] at this
  simp at this
/-- Names apart, outputs valid. -/
structure Inv (m : List O) : Prop where
  nd : (m.map okey).Nodup
  ck : ∀ o ∈ m, chk o = 0
theorem has_false {m : List O} {s : ByteArray} (h : has m s = false) : ∀ x ∈ m, okey x ≠ s := by
  rw [has, List.any_eq_false] at h
  intro x hx e
  exact h x hx (by simpa using e)
theorem plugE_parts {m : List O} {o : O} (h : plugE m o = 0) : chk o = 0 ∧ has m o.nm = false ∧ ovl m o = false ∧ m.length < 8 := by
  unfold plugE at h
  split at h
  · rename_i c; exact absurd h c
  · rename_i c
    split at h
    · cases h
    · rename_i c2
      split at h
      · cases h
      · rename_i c3
        split at h
        · cases h
        · exact ⟨by simpa using c, by simpa using c2, by simpa using c3, by omega⟩
theorem Inv.plug {m : List O} {o : O} (h : Inv m) : Inv (plugM m o) := by
  unfold plugM
  split
  · rename_i c
    obtain ⟨h1, h2, h3, h4⟩ := plugE_parts c
    refine ⟨?_, fun x hx => ?_⟩
    · rw [List.map_append, List.nodup_append]
      exact ⟨h.nd, by simp, fun a ha b hb => by
        obtain ⟨y, hy, rfl⟩ := List.mem_map.1 ha
        have : b = o.nm := by simpa using hb
        rw [this]; exact has_false h2 y hy⟩
    · rcases List.mem_append.1 hx with hx | hx
      · exact h.ck x hx
      · obtain rfl := List.mem_singleton.1 hx; exact h1
  · exact h
theorem Inv.del {m : List O} (h : Inv m) (s : ByteArray) : Inv (delM m s) :=
  ⟨h.nd.sublist ((List.filter_sublist ..).map okey), fun o ho => h.ck o (List.mem_filter.1 ho).1⟩
theorem movE_parts {m : List O} {s : ByteArray} {x y : Int} (h : movE m s x y = 0) : has m s = true ∧ chk (at_ (look m s) x y) = 0 ∧ ovl m (at_ (look m s) x y) = false := by
  unfold movE at h
  split at h
  · cases h
  · rename_i c
    split at h
    · rename_i c2; exact absurd h c2
    · rename_i c2
      split at h
      · cases h
      · rename_i c3; exact ⟨by simpa using c, by simpa using c2, by simpa using c3⟩
theorem Inv.mov {m : List O} (h : Inv m) (s : ByteArray) (x y : Int) : Inv (movM m s x y) := by
  unfold movM
  split
  · rename_i c
    obtain ⟨h1, h2, h3⟩ := movE_parts c
    refine ⟨?_, fun o ho => ?_⟩
    · rw [List.map_map]
      have : (okey ∘ fun o : O => if o.nm = s then at_ o x y else o) = okey := by
        funext o; simp only [Function.comp]; split <;> rfl
      rw [this]; exact h.nd
    · obtain ⟨z, hz, rfl⟩ := List.mem_map.1 ho
      split
      · rename_i c2
        subst c2
        rw [look_of h.nd hz] at h2
        exact h2
      · exact h.ck z hz
  · exact h
theorem Inv.doM {m : List O} (h : Inv m) (x : Op) : Inv (doM m x) := by
  unfold Go.Proofs.YtidcajmbkbamcaaGreat.doM
  split
  · exact h.plug
  · split
    · exact h.del _
    · exact h.mov _ _ _
theorem inv_run : ∀ (l : List Op) (m : List O), Inv m → Inv (l.foldl doM m)
  | [], m, h => h
  | x :: l, m, h => inv_run l _ (h.doM x)
theorem inv_nil : Inv [] := ⟨.nil, fun _ h => by cases h⟩
theorem rcap_comm (a b : R) : rcap a b = rcap b a := by
  unfold rcap
  rw [Bool.or_comm, Int.max_comm a.x0, Int.max_comm a.y0, Int.min_comm a.x1, Int.min_comm a.y1]
theorem rcap_self {a : R} (h : rempty a = false) : rcap a a = a := by
  unfold rcap rcan
  rw [h]
  simp only [Bool.or_self, Bool.false_eq_true, if_false, Int.max_self, Int.min_self]
  cases a
  simp only at h ⊢
  rw [h]; rfl
def ovF (L : List O) (r : R) : List ByteArray := (L.filter fun o => !rempty (rcap (lg o) r)).map okey
theorem ovF_len (L : List O) (r : R) : (ovF L r).length ≤ L.length := by rw [ovF, List.length_map]; exact List.length_filter_le ..
end Go.Proofs.YtidcajmbkbamcaaGreat
end

/-! The nearest pixel of an output: plain facts. Conditions: as each lemma states them. -/
section
namespace Go.Proofs.YtidcajmbkbamcaaGreat
open Go Go.Ab Go.RowKit
set_option linter.unusedSimpArgs false
set_option linter.unusedVariables false
set_option linter.unnecessarySimpa false

attribute [local simp] condK_true condK_false condK_not wpc_skip wpc_ret wpc_exit wpc_seq wpc_reg wpc_regD testA_bool wpc_cond wpc_block thenA_normal thenA_ret thenA_exit blockA_normal blockA_ret blockA_exit blockA_other endA_normal endA_ret ev_tmp' ev_const ev_func ev_global cv_int cv_bool cv_string cv_pointer cv_slice cv_agg cv_map put_some put_none wH_s setE_apply setE_env less_eq env_cons env_nil upd_upd upd_apply del_apply startA_eq cells_ag cells_sl one_sl cells_vs one_vs cells_ep one_ep cells_fn one_fn cells_int one_int cells_bool one_bool cells_string one_string cells_pointer one_pointer cells_slice one_slice cells_map one_map cells_agg resK_one resK_nil resK_two rvK_t rvK_c rvsK_nil rvsK_cons iseq_nil iseq_cons gdA_true gdA_false gdA_undef istep_free istep_guard istepV_free istepV_guard dseq_nil dseq_pu dseq_rd dseq_ef wpc_regT dtree_nil dtree_pu dtree_rd dtree_ef dtree_br chkAll_nil chkAll_cons andK_true pickK_true pickK_false pickK_tb pickK_fb bin2K_pl eqbK_eq eqbK_ne eqpK_eq eqpK_ne eqmK_eq eqmK_ne eqzK_eq eqzK_ne eqzK_sl eqzK_vs un1K_pl convK_int fillK_some fillA_cons fillA_nil cellsK_some needK_true needK_ok seeK_ep seeK_ptr oneK_agg oneK_one nilcK_ptr nilcK_ep fadrK_ptr fadrK_ep fldK_ag iadAK_ptr iadAK_ep iadSK_sl iadSK_vs extK_0 extK_1 extK_2 extK_3 lenK_pl lenK_sl lenK_vs lensK_pl boxK_some minmax1K_int storeK_ptr callvK_fn callvK_pl newsK_nil newsK_vs newsK_sl appK_nil appK_nil0 appK_sl appK_vs bnd1K_int bndK_none bndK_some slsK_vs slsK_nil slsK_sl0 slsK_sl slstrK_pl boolK_some eqsK_ag iop_eqs iop_sls iop_slstr seesK_some seesK_ro mapsK_some MAP_some findK_some findK_none plK_pl nmapK_none nmapK_some iop_mlook iop_mlen iop_mmk iop_mupd iop_mdel iop_mrng itK_none itK_some ptr0K_ptr iop_mnxt iop_ment it1K_some entK_some iop_mov iop_pick iop_bin iop_eqb iop_eqp iop_eqm iop_eqz iop_un capK_pl capK_sl capK_vs iop_cap apzK_nil iop_apz mksK_int iop_mks clrK_sl clrK_vs clrK_nil iop_clr iop_conv iop_build iop_load iop_nilc iop_fadr iop_fld iop_iadA iop_iadS iop_ext iop_mkf iop_len iop_lens iop_minmax iop_al iop_box iop_bsl iop_store iop_call iop_callv iop_app BIN_add BIN_sub BIN_mul BIN_and BIN_or BIN_xor BIN_andNot BIN_eql BIN_neq BIN_lss BIN_leq BIN_gtr BIN_geq BIN_quo BIN_rem BIN_shl BIN_shr BIN_sadd BIN_seql BIN_sneq BIN_slss BIN_sleq BIN_sgtr BIN_sgeq UN_neg UN_xor UN_not MM_nil MM_cons partsA argsA ptrA lessL eqL min2I slotN_int slotP_int slotI_int

theorem rcont_iff {r : R} (h : rempty r = false) (x y : Int) : rcont r x y = true ↔ (r.x0 ≤ x ∧ x < r.x1) ∧ r.y0 ≤ y ∧ y < r.y1 := by
  have e : rcan r = r := by rw [rcan, h]; rfl
  rw [rcont, e]
  simp only [Bool.and_eq_true, decide_eq_true_eq]
  omega
theorem rclamp_ne {r : R} (h : rempty r = false) (x y : Int) : rclamp r x y = (min (max x r.x0) (r.x1 - 1), min (max y r.y0) (r.y1 - 1)) := by rw [rclamp, h]; rfl
theorem rclamp_in {r : R} (h : rempty r = false) (x y : Int) : rcont r (rclamp r x y).1 (rclamp r x y).2 = true := by
  rw [rcont_iff h, rclamp_ne h]
  have := rempty_ok r h
  simp only
  omega
theorem rclamp_self {r : R} (h : rempty r = false) {x y : Int} (hc : rcont r x y = true) : rclamp r x y = (x, y) := by
  rw [rcont_iff h] at hc
  rw [rclamp_ne h]
  congr 1 <;> omega
def i64r (n : Int) : Prop := -9223372036854775808 ≤ n ∧ n ≤ 9223372036854775807
theorem u64w (n : Int) : IntKind.u64.wrap n = n % 18446744073709551616 := rfl
theorem awy_eq {a b : Int} (ha : i64r a) (hb : i64r b) : awy a b = if a < b then b - a else a - b := by
  unfold awy i64r at *
  simp only [u64w]
  split <;> omega
theorem awy_zero {a b : Int} (ha : i64r a) (hb : i64r b) (h : awy a b = 0) : a = b := by
  rw [awy_eq ha hb] at h
  split at h <;> omega
theorem awy_pos {a b : Int} (ha : i64r a) (hb : i64r b) : 0 ≤ awy a b := by
  rw [awy_eq ha hb]
  split <;> omega
theorem awy_self {a : Int} (ha : i64r a) : awy a a = 0 := by
  rw [awy_eq ha ha, if_neg (by omega)]; omega
theorem nrr_last {a b : Int} (ha : 0 ≤ a) (hb : 0 ≤ b) : nrr a b 0 0 = false := by
  unfold nrr
  by_cases h : a ≤ 0 ∧ b ≤ 0
  · rw [if_pos h]
    have h1 : ¬ a < 0 := by omega
    have h2 : ¬ b < 0 := by omega
    simp [h1, h2]
  · rw [if_neg h, if_pos ⟨ha, hb⟩]
theorem nrr_first {c d : Int} (hc : 0 ≤ c) (hd : 0 ≤ d) (h : c ≠ 0 ∨ d ≠ 0) : nrr 0 0 c d = true := by
  unfold nrr
  rw [if_pos ⟨hc, hd⟩]
  by_cases h1 : 0 < c
  · simp [h1]
  · have : 0 < d := by omega
    simp [this]
def okQ (q : Int × Int) : Prop := (-16384 ≤ q.1 ∧ q.1 ≤ 16384) ∧ -16384 ≤ q.2 ∧ q.2 ≤ 16384
theorem okQ_r {q : Int × Int} (h : okQ q) : i64r q.1 ∧ i64r q.2 := by unfold okQ at h; unfold i64r; omega
theorem okQ_clamp {r : R} (h : rempty r = false) (x y : Int) : okQ (rclamp r x y) := by
  have := rempty_ok r h
  rw [rclamp_ne h]; unfold okQ; simp only; omega
theorem cl_fold {x y : Int} (hx : i64r x) (hy : i64r y) : ∀ (L : List R) (acc : Option (Int × Int)), (∀ r ∈ L, rempty r = false) → (∀ q, acc = some q → okQ q) → (acc = some (x, y) ∨ ∃ r ∈ L, rcont r x y = true) → L.foldl (clS x y) acc = some (x, y)
  | [], acc, _, _, h => by
    rcases h with h | ⟨r, hr, _⟩
    · exact h
    · cases hr
  | r :: L, acc, hL, hq, h => by
    have hr := hL r (by simp)
    have oc := okQ_clamp hr x y
    have ocr := okQ_r oc
    rw [List.foldl_cons]
    refine cl_fold hx hy L _ (fun z hz => hL z (by simp [hz])) ?_ ?_
    · intro q e
      cases acc with
      | none => simp only [clS] at e; injection e with e; exact e ▸ oc
      | some q0 =>
        simp only [clS] at e
        split at e
        · injection e with e; exact e ▸ oc
        · exact hq q e
    · rcases h with h | ⟨z, hz, hc⟩
      · left
        subst h
        simp only [clS]
        rw [awy_self hx, awy_self hy, nrr_last (awy_pos ocr.1 hx) (awy_pos ocr.2 hy)]
        rfl
      · rcases List.mem_cons.1 hz with rfl | hz
        · left
          have e := rclamp_self hr hc
          cases acc with
          | none => simp only [clS, e]
          | some q =>
            simp only [clS, e]
            have o1 := okQ_r (hq q rfl)
            rw [awy_self hx, awy_self hy]
            by_cases h1 : awy q.1 x = 0 ∧ awy q.2 y = 0
            · have e1 := awy_zero o1.1 hx h1.1
              have e2 := awy_zero o1.2 hy h1.2
              have e3 : q = (x, y) := by rw [← e1, ← e2]
              split
              · rfl
              · rw [e3]
            · rw [nrr_first (awy_pos o1.1 hx) (awy_pos o1.2 hy) (by omega)]; rfl
        · exact .inr ⟨z, hz, hc⟩
theorem cl_some {P : Int × Int → Prop} {x y : Int} : ∀ (L : List R) (acc : Option (Int × Int)), (acc = none → L ≠ []) → (∀ q, acc = some q → P q) → (∀ r ∈ L, P (rclamp r x y)) → ∃ q, L.foldl (clS x y) acc = some q ∧ P q
  | [], none, h, _, _ => absurd rfl (h rfl)
  | [], some q, _, h, _ => ⟨q, rfl, h q rfl⟩
  | r :: L, acc, _, h, hr => by
    rw [List.foldl_cons]
    have h0 := hr r (by simp)
    refine cl_some L _ ?_ ?_ (fun z hz => hr z (by simp [hz]))
    · intro e
      cases acc with
      | none => simp [clS] at e
      | some q => simp only [clS] at e; split at e <;> cases e
    · intro q e
      cases acc with
      | none => simp only [clS] at e; injection e with e; exact e ▸ h0
      | some q0 =>
        simp only [clS] at e
        split at e
        · injection e with e; exact e ▸ h0
        · exact h q e
theorem souts_mem {m : List O} (h : Inv m) {o : O} : o ∈ souts m ↔ o ∈ m := (souts_perm h.nd).mem_iff
theorem areas_ne {m : List O} (h : Inv m) : ∀ r ∈ sareas m, rempty r = false := by
  intro r hr
  obtain ⟨o, ho, rfl⟩ := List.mem_map.1 hr
  exact lg_ne (h.ck o ((souts_mem h).1 ho))
theorem atF_some {m : List O} (h : Inv m) {x y : Int} : atF (souts m) x y ≠ ⟨#[]⟩ ↔ ∃ r ∈ sareas m, rcont r x y = true := by
  unfold atF
  cases hf : (souts m).find? fun o => rcont (lg o) x y with
  | none =>
    simp only [ne_eq, not_true_eq_false, false_iff]
    rintro ⟨r, hr, hc⟩
    obtain ⟨o, ho, rfl⟩ := List.mem_map.1 hr
    have := List.find?_eq_none.1 hf o ho
    exact this hc
  | some o =>
    simp only
    have h1 := List.mem_of_find?_eq_some hf
    have h2 := List.find?_some hf
    constructor
    · intro _; exact ⟨lg o, List.mem_map.2 ⟨o, h1, rfl⟩, h2⟩
    · intro _; exact nm_ne (h.ck o ((souts_mem h).1 h1))
theorem clF_self {m : List O} (h : Inv m) {x y : Int} (hx : i64r x) (hy : i64r y) (hc : ∃ r ∈ sareas m, rcont r x y = true) : clF (sareas m) x y = (x, y) := by
  rw [clF, cl_fold hx hy _ none (areas_ne h) (fun q e => by cases e) (.inr hc)]; rfl
theorem clF_in {m : List O} (h : Inv m) (hm : m ≠ []) (x y : Int) : okQ (clF (sareas m) x y) ∧ ∃ r ∈ sareas m, rcont r (clF (sareas m) x y).1 (clF (sareas m) x y).2 = true := by
  have hne : sareas m ≠ [] := by
    intro e
    have := congrArg List.length e
    rw [sareas, List.length_map, souts_len] at this
    exact hm (List.length_eq_zero_iff.1 (by simpa using this))
  obtain ⟨q, e, h1, h2⟩ := cl_some (P := fun q => okQ q ∧ ∃ r ∈ sareas m, rcont r q.1 q.2 = true) (sareas m) (x := x) (y := y) none (fun _ => hne) (fun q e => by cases e)
    (fun r hr => ⟨okQ_clamp (areas_ne h r hr) x y, r, hr, rclamp_in (areas_ne h r hr) x y⟩)
  rw [clF, e]
  exact ⟨h1, h2⟩
end Go.Proofs.YtidcajmbkbamcaaGreat
end

/-! LayoutClamp: for every run and point the law returns true, and its arguments read as they did. No conditions: every input that the row admits. -/
section
namespace Go.Proofs.YtidcajmbkbamcaaGreat
open Go Go.Ab Go.RowKit Go.ChangeShapes Go.WideShapes Go.ChangeAt
set_option linter.unusedSimpArgs false
set_option linter.unusedVariables false
set_option linter.unnecessarySimpa false

attribute [local simp] condK_true condK_false condK_not wpc_skip wpc_ret wpc_exit wpc_seq wpc_reg wpc_regD testA_bool wpc_cond wpc_block thenA_normal thenA_ret thenA_exit blockA_normal blockA_ret blockA_exit blockA_other endA_normal endA_ret ev_tmp' ev_const ev_func ev_global cv_int cv_bool cv_string cv_pointer cv_slice cv_agg cv_map put_some put_none wH_s setE_apply setE_env less_eq env_cons env_nil upd_upd upd_apply del_apply startA_eq cells_ag cells_sl one_sl cells_vs one_vs cells_ep one_ep cells_fn one_fn cells_int one_int cells_bool one_bool cells_string one_string cells_pointer one_pointer cells_slice one_slice cells_map one_map cells_agg resK_one resK_nil resK_two rvK_t rvK_c rvsK_nil rvsK_cons iseq_nil iseq_cons gdA_true gdA_false gdA_undef istep_free istep_guard istepV_free istepV_guard dseq_nil dseq_pu dseq_rd dseq_ef wpc_regT dtree_nil dtree_pu dtree_rd dtree_ef dtree_br chkAll_nil chkAll_cons andK_true pickK_true pickK_false pickK_tb pickK_fb bin2K_pl eqbK_eq eqbK_ne eqpK_eq eqpK_ne eqmK_eq eqmK_ne eqzK_eq eqzK_ne eqzK_sl eqzK_vs un1K_pl convK_int fillK_some fillA_cons fillA_nil cellsK_some needK_true needK_ok seeK_ep seeK_ptr oneK_agg oneK_one nilcK_ptr nilcK_ep fadrK_ptr fadrK_ep fldK_ag iadAK_ptr iadAK_ep iadSK_sl iadSK_vs extK_0 extK_1 extK_2 extK_3 lenK_pl lenK_sl lenK_vs lensK_pl boxK_some minmax1K_int storeK_ptr callvK_fn callvK_pl newsK_nil newsK_vs newsK_sl appK_nil appK_nil0 appK_sl appK_vs bnd1K_int bndK_none bndK_some slsK_vs slsK_nil slsK_sl0 slsK_sl slstrK_pl boolK_some eqsK_ag iop_eqs iop_sls iop_slstr seesK_some seesK_ro mapsK_some MAP_some findK_some findK_none plK_pl nmapK_none nmapK_some iop_mlook iop_mlen iop_mmk iop_mupd iop_mdel iop_mrng itK_none itK_some ptr0K_ptr iop_mnxt iop_ment it1K_some entK_some iop_mov iop_pick iop_bin iop_eqb iop_eqp iop_eqm iop_eqz iop_un capK_pl capK_sl capK_vs iop_cap apzK_nil iop_apz mksK_int iop_mks clrK_sl clrK_vs clrK_nil iop_clr iop_conv iop_build iop_load iop_nilc iop_fadr iop_fld iop_iadA iop_iadS iop_ext iop_mkf iop_len iop_lens iop_minmax iop_al iop_box iop_bsl iop_store iop_call iop_callv iop_app BIN_add BIN_sub BIN_mul BIN_and BIN_or BIN_xor BIN_andNot BIN_eql BIN_neq BIN_lss BIN_leq BIN_gtr BIN_geq BIN_quo BIN_rem BIN_shl BIN_shr BIN_sadd BIN_seql BIN_sneq BIN_slss BIN_sleq BIN_sgtr BIN_sgeq UN_neg UN_xor UN_not MM_nil MM_cons partsA argsA ptrA lessL eqL min2I slotN_int slotP_int slotI_int
attribute [local simp] oc_len oc_tt oc_dd oc_one oc_ag oc_t1 oc_t2 oc_t3 oc_t4 oc_t5 oc_t6 oc_t7 oc_d1 oc_d2 oc_d3 oc_d4 oc_d5 oc_d6 oc_d7 opq_len opq_tt opq_dd opq_one opq_ag opq_t1 opq_t2 opq_t3 opq_t4 opq_t5 opq_t6 opq_t7 opq_t8 opq_d1 opq_d2 opq_d3 opq_d4 opq_d5 opq_d6 opq_d7 opq_d8 rc_len rc_t4 rc_t1 rc_t2 rc_t3 rc_d1 rc_d2 rc_d3 rc_d4 rc_ag rc_one rc_eq min2_t min2_f

structure Pn where
  x : Int
  y : Int
  deriving DecidableEq
def pnc (r : Pn) : List AV := [vi r.x, vi r.y]
theorem pnc_len (r : Pn) : (pnc r).length = 2 := rfl
theorem pnc_tt (r : Pn) : (pnc r).take 2 = pnc r := rfl
theorem pnc_dd (r : Pn) : (pnc r).drop 2 = [] := rfl
theorem pnc_one (r : Pn) : (pnc r).all AV.one = true := rfl
theorem pnc_t1 (r : Pn) : (pnc r).take 1 = [vi r.x] := rfl
theorem pnc_d1 (r : Pn) : (pnc r).tail = [vi r.y] := rfl
theorem pnc_ag (c0 : Int) (c1 : Int) : AV.ag [vi c0, vi c1] = .ag (pnc ⟨c0, c1⟩) := rfl
attribute [local simp] pnc_len pnc_tt pnc_dd pnc_one pnc_ag pnc_t1 pnc_d1
theorem ne_empty {b : ByteArray} (h : b ≠ ⟨#[]⟩) : b.toList.isEmpty = false := by
  cases e : b.toList with
  | nil => exact absurd (bytes_ext (by rw [e, ByteArray.toList_eq])) h
  | cons x l => rfl
theorem i64r_of {n : Int} (h : (Lit.int .i64 n).wf = true) : i64r n := by
  simp [Lit.wf, IntKind.min, IntKind.max, IntKind.bits, IntKind.signed] at h
  unfold i64r; omega
abbrev pnL : List Lf := [.i .i64, .i .i64]
theorem fitPn {a : AV} (h : FitT true pnL a) : ∃ o : Pn, a = .ag (pnc o) ∧ i64r o.x ∧ i64r o.y := by
  obtain ⟨cs, rfl, h⟩ := h
  obtain ⟨_, _, rfl, h1, h⟩ := h.cons_inv
  obtain ⟨_, _, rfl, h2, h⟩ := h.cons_inv
  obtain rfl := h.nil_inv
  obtain ⟨_, rfl, g1⟩ := h1.i_inv
  obtain ⟨_, rfl, g2⟩ := h2.i_inv
  exact ⟨⟨_, _⟩, rfl, i64r_of g1, i64r_of g2⟩
set_option maxRecDepth 100000
end Go.Proofs.YtidcajmbkbamcaaGreat
end

/-! LayoutNearest: for every run and two points the law returns true, and its arguments read as they did. No conditions: every input that the row admits. -/
section
namespace Go.Proofs.YtidcajmbkbamcaaGreat
open Go Go.Ab Go.RowKit Go.ChangeShapes Go.WideShapes Go.ChangeAt
set_option linter.unusedSimpArgs false
set_option linter.unusedVariables false
set_option linter.unnecessarySimpa false

attribute [local simp] condK_true condK_false condK_not wpc_skip wpc_ret wpc_exit wpc_seq wpc_reg wpc_regD testA_bool wpc_cond wpc_block thenA_normal thenA_ret thenA_exit blockA_normal blockA_ret blockA_exit blockA_other endA_normal endA_ret ev_tmp' ev_const ev_func ev_global cv_int cv_bool cv_string cv_pointer cv_slice cv_agg cv_map put_some put_none wH_s setE_apply setE_env less_eq env_cons env_nil upd_upd upd_apply del_apply startA_eq cells_ag cells_sl one_sl cells_vs one_vs cells_ep one_ep cells_fn one_fn cells_int one_int cells_bool one_bool cells_string one_string cells_pointer one_pointer cells_slice one_slice cells_map one_map cells_agg resK_one resK_nil resK_two rvK_t rvK_c rvsK_nil rvsK_cons iseq_nil iseq_cons gdA_true gdA_false gdA_undef istep_free istep_guard istepV_free istepV_guard dseq_nil dseq_pu dseq_rd dseq_ef wpc_regT dtree_nil dtree_pu dtree_rd dtree_ef dtree_br chkAll_nil chkAll_cons andK_true pickK_true pickK_false pickK_tb pickK_fb bin2K_pl eqbK_eq eqbK_ne eqpK_eq eqpK_ne eqmK_eq eqmK_ne eqzK_eq eqzK_ne eqzK_sl eqzK_vs un1K_pl convK_int fillK_some fillA_cons fillA_nil cellsK_some needK_true needK_ok seeK_ep seeK_ptr oneK_agg oneK_one nilcK_ptr nilcK_ep fadrK_ptr fadrK_ep fldK_ag iadAK_ptr iadAK_ep iadSK_sl iadSK_vs extK_0 extK_1 extK_2 extK_3 lenK_pl lenK_sl lenK_vs lensK_pl boxK_some minmax1K_int storeK_ptr callvK_fn callvK_pl newsK_nil newsK_vs newsK_sl appK_nil appK_nil0 appK_sl appK_vs bnd1K_int bndK_none bndK_some slsK_vs slsK_nil slsK_sl0 slsK_sl slstrK_pl boolK_some eqsK_ag iop_eqs iop_sls iop_slstr seesK_some seesK_ro mapsK_some MAP_some findK_some findK_none plK_pl nmapK_none nmapK_some iop_mlook iop_mlen iop_mmk iop_mupd iop_mdel iop_mrng itK_none itK_some ptr0K_ptr iop_mnxt iop_ment it1K_some entK_some iop_mov iop_pick iop_bin iop_eqb iop_eqp iop_eqm iop_eqz iop_un capK_pl capK_sl capK_vs iop_cap apzK_nil iop_apz mksK_int iop_mks clrK_sl clrK_vs clrK_nil iop_clr iop_conv iop_build iop_load iop_nilc iop_fadr iop_fld iop_iadA iop_iadS iop_ext iop_mkf iop_len iop_lens iop_minmax iop_al iop_box iop_bsl iop_store iop_call iop_callv iop_app BIN_add BIN_sub BIN_mul BIN_and BIN_or BIN_xor BIN_andNot BIN_eql BIN_neq BIN_lss BIN_leq BIN_gtr BIN_geq BIN_quo BIN_rem BIN_shl BIN_shr BIN_sadd BIN_seql BIN_sneq BIN_slss BIN_sleq BIN_sgtr BIN_sgeq UN_neg UN_xor UN_not MM_nil MM_cons partsA argsA ptrA lessL eqL min2I slotN_int slotP_int slotI_int
attribute [local simp] oc_len oc_tt oc_dd oc_one oc_ag oc_t1 oc_t2 oc_t3 oc_t4 oc_t5 oc_t6 oc_t7 oc_d1 oc_d2 oc_d3 oc_d4 oc_d5 oc_d6 oc_d7 opq_len opq_tt opq_dd opq_one opq_ag opq_t1 opq_t2 opq_t3 opq_t4 opq_t5 opq_t6 opq_t7 opq_t8 opq_d1 opq_d2 opq_d3 opq_d4 opq_d5 opq_d6 opq_d7 opq_d8 pnc_len pnc_tt pnc_dd pnc_one pnc_ag pnc_t1 pnc_d1 rc_len rc_t4 rc_t1 rc_t2 rc_t3 rc_d1 rc_d2 rc_d3 rc_d4 rc_ag rc_one rc_eq min2_t min2_f

def med (n : Int) : Prop := 0 ≤ n ∧ n ≤ 1099511627776
theorem nrr_sum {a b c d : Int} (ha : med a) (hb : med b) (hc : med c) (hd : med d) : nrr a b c d = decide (a + b < c + d) := by
  unfold med at *
  have w1 : b - d ≥ 0 → IntKind.u64.wrap (b - d) = b - d := fun h => by rw [u64w]; omega
  have w2 : c - a ≥ 0 → IntKind.u64.wrap (c - a) = c - a := fun h => by rw [u64w]; omega
  have w3 : a - c ≥ 0 → IntKind.u64.wrap (a - c) = a - c := fun h => by rw [u64w]; omega
  have w4 : d - b ≥ 0 → IntKind.u64.wrap (d - b) = d - b := fun h => by rw [u64w]; omega
  unfold nrr
  by_cases h1 : a ≤ c ∧ b ≤ d
  · rw [if_pos h1]
    by_cases h2 : a + b < c + d
    · rw [decide_eq_true h2]
      by_cases h3 : a < c
      · simp [h3]
      · have : b < d := by omega
        simp [this]
    · rw [decide_eq_false h2]
      have h3 : ¬ a < c := by omega
      have h4 : ¬ b < d := by omega
      simp [h3, h4]
  · rw [if_neg h1]
    by_cases h2 : c ≤ a ∧ d ≤ b
    · rw [if_pos h2, decide_eq_false (by omega)]
    · rw [if_neg h2]
      by_cases h3 : a < c
      · rw [if_pos h3, w1 (by omega), w2 (by omega)]
        by_cases h4 : a + b < c + d
        · rw [decide_eq_true h4, decide_eq_true (by omega)]
        · rw [decide_eq_false h4, decide_eq_false (by omega)]
      · rw [if_neg h3, w3 (by omega), w4 (by omega)]
        by_cases h4 : a + b < c + d
        · rw [decide_eq_true h4, decide_eq_true (by omega)]
        · rw [decide_eq_false h4, decide_eq_false (by omega)]
def near (n : Int) : Prop := -1048576 ≤ n ∧ n ≤ 1048576
theorem near_r {n : Int} (h : near n) : i64r n := by unfold near at h; unfold i64r; omega
def dst (q : Int × Int) (x y : Int) : Int := awy q.1 x + awy q.2 y
theorem awy_med {a b : Int} (ha : near a) (hb : near b) : med (awy a b) := by
  rw [awy_eq (near_r ha) (near_r hb)]
  unfold near at *
  unfold med
  split <;> omega
theorem okQ_near {q : Int × Int} (h : okQ q) : near q.1 ∧ near q.2 := by unfold okQ at h; unfold near; omega
theorem nrr_dst {p q : Int × Int} {x y : Int} (hp : okQ p) (hq : okQ q) (hx : near x) (hy : near y) : nrr (awy p.1 x) (awy p.2 y) (awy q.1 x) (awy q.2 y) = decide (dst p x y < dst q x y) :=
  nrr_sum (awy_med (okQ_near hp).1 hx) (awy_med (okQ_near hp).2 hy) (awy_med (okQ_near hq).1 hx) (awy_med (okQ_near hq).2 hy)
theorem cl_min {x y : Int} (hx : near x) (hy : near y) : ∀ (L : List R) (acc : Option (Int × Int)), (∀ r ∈ L, rempty r = false) → (∀ q, acc = some q → okQ q) → ∀ q', L.foldl (clS x y) acc = some q' →
    (∀ q, acc = some q → dst q' x y ≤ dst q x y) ∧ ∀ r ∈ L, dst q' x y ≤ dst (rclamp r x y) x y
  | [], acc, _, _, q', e => by
    refine ⟨fun q h => ?_, fun r hr => ?_⟩
    · simp only [List.foldl_nil] at e
      rw [h] at e
      injection e with e
      rw [e]; omega
    · cases hr
  | r :: L, acc, hL, hq, q', e => by
    have hr := hL r (by simp)
    have oc := okQ_clamp hr x y
    rw [List.foldl_cons] at e
    have ok2 : ∀ q, clS x y acc r = some q → okQ q := by
      intro q e
      cases acc with
      | none => simp only [clS] at e; injection e with e; exact e ▸ oc
      | some q0 =>
        simp only [clS] at e
        split at e
        · injection e with e; exact e ▸ oc
        · exact hq q e
    obtain ⟨h1, h2⟩ := cl_min hx hy L (clS x y acc r) (fun z hz => hL z (by simp [hz])) ok2 q' e
    cases acc with
    | none =>
      have h3 := h1 (rclamp r x y) rfl
      refine ⟨fun q e => (by cases e), fun z hz => ?_⟩
      rcases List.mem_cons.1 hz with rfl | hz
      · exact h3
      · exact h2 z hz
    | some q0 =>
      have o0 := hq q0 rfl
      have hn := nrr_dst oc o0 hx hy
      by_cases h4 : dst (rclamp r x y) x y < dst q0 x y
      · have e5 : clS x y (some q0) r = some (rclamp r x y) := by simp only [clS]; rw [hn, decide_eq_true h4]; rfl
        have h3 := h1 (rclamp r x y) e5
        refine ⟨fun q e => (by injection e with e; rw [← e]; omega), fun z hz => ?_⟩
        rcases List.mem_cons.1 hz with rfl | hz
        · exact h3
        · exact h2 z hz
      · have e5 : clS x y (some q0) r = some q0 := by simp only [clS]; rw [hn, decide_eq_false h4]; rfl
        have h3 := h1 q0 e5
        refine ⟨fun q e => (by injection e with e; rw [← e]; exact h3), fun z hz => ?_⟩
        rcases List.mem_cons.1 hz with rfl | hz
        · omega
        · exact h2 z hz
theorem rclamp_near {r : R} (h : rempty r = false) {x y u v : Int} (hx : near x) (hy : near y) (hc : rcont r u v = true) : dst (rclamp r x y) x y ≤ dst (u, v) x y := by
  have hr := rempty_ok r h
  have hc' := (rcont_iff h u v).1 hc
  have o1 := okQ_near (okQ_clamp h x y)
  have o2 : near u ∧ near v := by unfold near; omega
  unfold dst
  rw [awy_eq (near_r o1.1) (near_r hx), awy_eq (near_r o1.2) (near_r hy), awy_eq (near_r o2.1) (near_r hx), awy_eq (near_r o2.2) (near_r hy), rclamp_ne h]
  simp only
  have a1 : (if min (max x r.x0) (r.x1 - 1) < x then x - min (max x r.x0) (r.x1 - 1) else min (max x r.x0) (r.x1 - 1) - x) ≤ (if u < x then x - u else u - x) := by split <;> split <;> omega
  have a2 : (if min (max y r.y0) (r.y1 - 1) < y then y - min (max y r.y0) (r.y1 - 1) else min (max y r.y0) (r.y1 - 1) - y) ≤ (if v < y then y - v else v - y) := by split <;> split <;> omega
  omega
theorem clF_near {m : List O} (h : Inv m) {x y u v : Int} (hx : near x) (hy : near y) (hc : ∃ r ∈ sareas m, rcont r u v = true) : okQ (clF (sareas m) x y) ∧ near u ∧ near v ∧ dst (clF (sareas m) x y) x y ≤ dst (u, v) x y := by
  obtain ⟨r, hr, hc⟩ := hc
  have hm : m ≠ [] := by
    rintro rfl
    have : sareas [] = [] := List.length_eq_zero_iff.1 (by rw [sareas, List.length_map, souts_len]; rfl)
    rw [this] at hr; cases hr
  have hrn := areas_ne h r hr
  obtain ⟨h1, _⟩ := clF_in h hm x y
  refine ⟨h1, ?_, ?_, ?_⟩
  · have := (rcont_iff hrn u v).1 hc; have := rempty_ok r hrn; unfold near; omega
  · have := (rcont_iff hrn u v).1 hc; have := rempty_ok r hrn; unfold near; omega
  · refine Int.le_trans ?_ (rclamp_near hrn hx hy hc)
    have hne : sareas m ≠ [] := List.ne_nil_of_mem hr
    obtain ⟨q, e, _⟩ := cl_some (P := fun _ => True) (sareas m) (x := x) (y := y) none (fun _ => hne) (fun _ _ => trivial) (fun _ _ => trivial)
    have := (cl_min hx hy (sareas m) none (areas_ne h) (fun q e => by cases e) q e).2 r hr
    rw [clF, e]; exact this
end Go.Proofs.YtidcajmbkbamcaaGreat
end

/-! LayoutNearest: for every run and two points the law returns true, and its arguments read as they did. No conditions: every input that the row admits. -/
section
namespace Go.Proofs.YtidcajmbkbamcaaGreat
open Go Go.Ab Go.RowKit Go.ChangeShapes Go.WideShapes Go.ChangeAt
set_option linter.unusedSimpArgs false
set_option linter.unusedVariables false
set_option linter.unnecessarySimpa false

attribute [local simp] condK_true condK_false condK_not wpc_skip wpc_ret wpc_exit wpc_seq wpc_reg wpc_regD testA_bool wpc_cond wpc_block thenA_normal thenA_ret thenA_exit blockA_normal blockA_ret blockA_exit blockA_other endA_normal endA_ret ev_tmp' ev_const ev_func ev_global cv_int cv_bool cv_string cv_pointer cv_slice cv_agg cv_map put_some put_none wH_s setE_apply setE_env less_eq env_cons env_nil upd_upd upd_apply del_apply startA_eq cells_ag cells_sl one_sl cells_vs one_vs cells_ep one_ep cells_fn one_fn cells_int one_int cells_bool one_bool cells_string one_string cells_pointer one_pointer cells_slice one_slice cells_map one_map cells_agg resK_one resK_nil resK_two rvK_t rvK_c rvsK_nil rvsK_cons iseq_nil iseq_cons gdA_true gdA_false gdA_undef istep_free istep_guard istepV_free istepV_guard dseq_nil dseq_pu dseq_rd dseq_ef wpc_regT dtree_nil dtree_pu dtree_rd dtree_ef dtree_br chkAll_nil chkAll_cons andK_true pickK_true pickK_false pickK_tb pickK_fb bin2K_pl eqbK_eq eqbK_ne eqpK_eq eqpK_ne eqmK_eq eqmK_ne eqzK_eq eqzK_ne eqzK_sl eqzK_vs un1K_pl convK_int fillK_some fillA_cons fillA_nil cellsK_some needK_true needK_ok seeK_ep seeK_ptr oneK_agg oneK_one nilcK_ptr nilcK_ep fadrK_ptr fadrK_ep fldK_ag iadAK_ptr iadAK_ep iadSK_sl iadSK_vs extK_0 extK_1 extK_2 extK_3 lenK_pl lenK_sl lenK_vs lensK_pl boxK_some minmax1K_int storeK_ptr callvK_fn callvK_pl newsK_nil newsK_vs newsK_sl appK_nil appK_nil0 appK_sl appK_vs bnd1K_int bndK_none bndK_some slsK_vs slsK_nil slsK_sl0 slsK_sl slstrK_pl boolK_some eqsK_ag iop_eqs iop_sls iop_slstr seesK_some seesK_ro mapsK_some MAP_some findK_some findK_none plK_pl nmapK_none nmapK_some iop_mlook iop_mlen iop_mmk iop_mupd iop_mdel iop_mrng itK_none itK_some ptr0K_ptr iop_mnxt iop_ment it1K_some entK_some iop_mov iop_pick iop_bin iop_eqb iop_eqp iop_eqm iop_eqz iop_un capK_pl capK_sl capK_vs iop_cap apzK_nil iop_apz mksK_int iop_mks clrK_sl clrK_vs clrK_nil iop_clr iop_conv iop_build iop_load iop_nilc iop_fadr iop_fld iop_iadA iop_iadS iop_ext iop_mkf iop_len iop_lens iop_minmax iop_al iop_box iop_bsl iop_store iop_call iop_callv iop_app BIN_add BIN_sub BIN_mul BIN_and BIN_or BIN_xor BIN_andNot BIN_eql BIN_neq BIN_lss BIN_leq BIN_gtr BIN_geq BIN_quo BIN_rem BIN_shl BIN_shr BIN_sadd BIN_seql BIN_sneq BIN_slss BIN_sleq BIN_sgtr BIN_sgeq UN_neg UN_xor UN_not MM_nil MM_cons partsA argsA ptrA lessL eqL min2I slotN_int slotP_int slotI_int
attribute [local simp] oc_len oc_tt oc_dd oc_one oc_ag oc_t1 oc_t2 oc_t3 oc_t4 oc_t5 oc_t6 oc_t7 oc_d1 oc_d2 oc_d3 oc_d4 oc_d5 oc_d6 oc_d7 opq_len opq_tt opq_dd opq_one opq_ag opq_t1 opq_t2 opq_t3 opq_t4 opq_t5 opq_t6 opq_t7 opq_t8 opq_d1 opq_d2 opq_d3 opq_d4 opq_d5 opq_d6 opq_d7 opq_d8 pnc_len pnc_tt pnc_dd pnc_one pnc_ag pnc_t1 pnc_d1 rc_len rc_t4 rc_t1 rc_t2 rc_t3 rc_d1 rc_d2 rc_d3 rc_d4 rc_ag rc_one rc_eq min2_t min2_f

set_option maxRecDepth 100000
end Go.Proofs.YtidcajmbkbamcaaGreat
end

/-! The reference's layout: rectangles, find, overlaps, At, Overlapping, New. Conditions: as each lemma states them. -/
section
namespace Go.Proofs.YtidcajmbkbamcaaGreat
open Go Go.Ab Go.RowKit
set_option linter.unusedSimpArgs false
set_option linter.unusedVariables false
set_option linter.unnecessarySimpa false

attribute [local simp] condK_true condK_false condK_not wpc_skip wpc_ret wpc_exit wpc_seq wpc_reg wpc_regD testA_bool wpc_cond wpc_block thenA_normal thenA_ret thenA_exit blockA_normal blockA_ret blockA_exit blockA_other endA_normal endA_ret ev_tmp' ev_const ev_func ev_global cv_int cv_bool cv_string cv_pointer cv_slice cv_agg cv_map put_some put_none wH_s setE_apply setE_env less_eq env_cons env_nil upd_upd upd_apply del_apply startA_eq cells_ag cells_sl one_sl cells_vs one_vs cells_ep one_ep cells_fn one_fn cells_int one_int cells_bool one_bool cells_string one_string cells_pointer one_pointer cells_slice one_slice cells_map one_map cells_agg resK_one resK_nil resK_two rvK_t rvK_c rvsK_nil rvsK_cons iseq_nil iseq_cons gdA_true gdA_false gdA_undef istep_free istep_guard istepV_free istepV_guard dseq_nil dseq_pu dseq_rd dseq_ef wpc_regT dtree_nil dtree_pu dtree_rd dtree_ef dtree_br chkAll_nil chkAll_cons andK_true pickK_true pickK_false pickK_tb pickK_fb bin2K_pl eqbK_eq eqbK_ne eqpK_eq eqpK_ne eqmK_eq eqmK_ne eqzK_eq eqzK_ne eqzK_sl eqzK_vs un1K_pl convK_int fillK_some fillA_cons fillA_nil cellsK_some needK_true needK_ok seeK_ep seeK_ptr oneK_agg oneK_one nilcK_ptr nilcK_ep fadrK_ptr fadrK_ep fldK_ag iadAK_ptr iadAK_ep iadSK_sl iadSK_vs extK_0 extK_1 extK_2 extK_3 lenK_pl lenK_sl lenK_vs lensK_pl boxK_some minmax1K_int storeK_ptr callvK_fn callvK_pl newsK_nil newsK_vs newsK_sl appK_nil appK_nil0 appK_sl appK_vs bnd1K_int bndK_none bndK_some slsK_vs slsK_nil slsK_sl0 slsK_sl slstrK_pl boolK_some eqsK_ag iop_eqs iop_sls iop_slstr seesK_some seesK_ro mapsK_some MAP_some findK_some findK_none plK_pl nmapK_none nmapK_some iop_mlook iop_mlen iop_mmk iop_mupd iop_mdel iop_mrng itK_none itK_some ptr0K_ptr iop_mnxt iop_ment it1K_some entK_some iop_mov iop_pick iop_bin iop_eqb iop_eqp iop_eqm iop_eqz iop_un capK_pl capK_sl capK_vs iop_cap apzK_nil iop_apz mksK_int iop_mks clrK_sl clrK_vs clrK_nil iop_clr iop_conv iop_build iop_load iop_nilc iop_fadr iop_fld iop_iadA iop_iadS iop_ext iop_mkf iop_len iop_lens iop_minmax iop_al iop_box iop_bsl iop_store iop_call iop_callv iop_app BIN_add BIN_sub BIN_mul BIN_and BIN_or BIN_xor BIN_andNot BIN_eql BIN_neq BIN_lss BIN_leq BIN_gtr BIN_geq BIN_quo BIN_rem BIN_shl BIN_shr BIN_sadd BIN_seql BIN_sneq BIN_slss BIN_sleq BIN_sgtr BIN_sgeq UN_neg UN_xor UN_not MM_nil MM_cons partsA argsA ptrA lessL eqL min2I slotN_int slotP_int slotI_int
attribute [local simp] oc_len oc_tt oc_dd oc_one oc_ag oc_t1 oc_t2 oc_t3 oc_t4 oc_t5 oc_t6 oc_t7 oc_d1 oc_d2 oc_d3 oc_d4 oc_d5 oc_d6 oc_d7 opq_len opq_tt opq_dd opq_one opq_ag opq_t1 opq_t2 opq_t3 opq_t4 opq_t5 opq_t6 opq_t7 opq_t8 opq_d1 opq_d2 opq_d3 opq_d4 opq_d5 opq_d6 opq_d7 opq_d8 rc_len rc_t4 rc_t1 rc_t2 rc_t3 rc_d1 rc_d2 rc_d3 rc_d4 rc_ag rc_one rc_eq min2_t min2_f

theorem c62 (n : Int) : PC Tryz.prog 62 [vi n] (vb (okc n)) := by
  refine .tell fun H => ?_
  refine call_c follows cf62_ok (by simp) ?_
  repeat' (first | simp [*] | (with_reducible (refine newK_of fun _ h_ => ?_); have hn_ := free_ne h_; (try simp only [upd_none', ne_eq] at h_)) | (with_reducible (refine condK_of (fun h_ => ?_) (fun h_ => ?_))))
  all_goals ((try with_reducible refine And.intro ?_ ?_) <;> (try (repeat' (first | with_reducible exact Sub.refl _ | with_reducible refine Sub.of_upd (by simp [*]) ?_))))
  all_goals (simp_all [okc] <;> omega)
theorem c41 (r : R) : PC Tryz.prog 41 [.ag (rc r)] (vb (rvalid r)) := by
  refine .tell fun H => ?_
  refine call_c follows cf41_ok (by simp) ?_
  repeat' (first | simp [*] | (with_reducible (refine newK_of fun _ h_ => ?_); have hn_ := free_ne h_; (try simp only [upd_none', ne_eq] at h_)) | (with_reducible (refine condK_of (fun h_ => ?_) (fun h_ => ?_))) | with_reducible (refine (c62 ..).ac ?_))
  all_goals ((try with_reducible refine And.intro ?_ ?_) <;> (try (repeat' (first | with_reducible exact Sub.refl _ | with_reducible refine Sub.of_upd (by simp [*]) ?_))))
  all_goals (simp_all [rvalid] <;> omega)
theorem c18 (r : R) : PC Tryz.prog 18 [.ag (rc r)] (vb (rempty r)) := by
  refine .tell fun H => ?_
  refine call_c follows cf18_ok (by simp) ?_
  repeat' (first | simp [*] | (with_reducible (refine newK_of fun _ h_ => ?_); have hn_ := free_ne h_; (try simp only [upd_none', ne_eq] at h_)) | (with_reducible (refine condK_of (fun h_ => ?_) (fun h_ => ?_))) | with_reducible (refine (c41 ..).ac ?_))
  all_goals ((try with_reducible refine And.intro ?_ ?_) <;> (try (repeat' (first | with_reducible exact Sub.refl _ | with_reducible refine Sub.of_upd (by simp [*]) ?_))))
  all_goals (simp_all [rempty] <;> omega)
theorem c40 (r : R) : PC Tryz.prog 40 [.ag (rc r)] (.ag (rc (rcan r))) := by
  refine .tell fun H => ?_
  refine call_c follows cf40_ok (by simp) ?_
  repeat' (first | simp [*] | (with_reducible (refine newK_of fun _ h_ => ?_); have hn_ := free_ne h_; (try simp only [upd_none', ne_eq] at h_)) | (with_reducible (refine condK_of (fun h_ => ?_) (fun h_ => ?_))) | with_reducible (refine (c18 ..).ac ?_))
  all_goals ((try with_reducible refine And.intro ?_ ?_) <;> (try (repeat' (first | with_reducible exact Sub.refl _ | with_reducible refine Sub.of_upd (by simp [*]) ?_))))
  all_goals (simp_all [rcan] <;> omega)
theorem c19 (a b : R) : PC Tryz.prog 19 [.ag (rc a), .ag (rc b)] (.ag (rc (rcap a b))) := by
  refine .tell fun H => ?_
  refine call_c follows cf19_ok (by simp) ?_
  repeat' (first | simp [*] | (with_reducible (refine newK_of fun _ h_ => ?_); have hn_ := free_ne h_; (try simp only [upd_none', ne_eq] at h_)) | (with_reducible (refine condK_of (fun h_ => ?_) (fun h_ => ?_))) | with_reducible (refine (c18 ..).ac ?_) | with_reducible (refine (c40 ..).ac ?_))
  all_goals ((try with_reducible refine And.intro ?_ ?_) <;> (try (repeat' (first | with_reducible exact Sub.refl _ | with_reducible refine Sub.of_upd (by simp [*]) ?_))))
  all_goals (simp_all [rcap] <;> omega)
theorem c76 (a b : R) : PC Tryz.prog 76 [.ag (rc a), .ag (rc b)] (vb (!rempty (rcap a b))) := by
  refine .tell fun H => ?_
  refine call_c follows cf76_ok (by simp) ?_
  repeat' (first | simp [*] | (with_reducible (refine newK_of fun _ h_ => ?_); have hn_ := free_ne h_; (try simp only [upd_none', ne_eq] at h_)) | (with_reducible (refine condK_of (fun h_ => ?_) (fun h_ => ?_))) | with_reducible (refine (c19 ..).ac ?_) | with_reducible (refine (c18 ..).ac ?_))
  all_goals ((try with_reducible refine And.intro ?_ ?_) <;> (try (repeat' (first | with_reducible exact Sub.refl _ | with_reducible refine Sub.of_upd (by simp [*]) ?_))))
  all_goals (simp_all [] <;> omega)
theorem rcont_empty {r : R} (h : rempty r = true) (x y : Int) : rcont r x y = false := by
  have e : rcan r = ⟨0, 0, 0, 0⟩ := by rw [rcan, h]; rfl
  rw [rcont, e]
  by_cases h1 : (0 : Int) ≤ x
  · have : ¬ x < 0 := by omega
    simp [this]
  · simp [h1]
def fndF (s : ByteArray) : List O → Int → Int
  | [], _ => -1
  | x :: t, i => if x.nm = s then i else fndF s t (i + 1)
theorem oc_nm_at {L : List O} {i : Nat} (h : i < L.length) : ∃ rest, (flat oc L).drop (i * 8) = vs8 L[i].nm :: rest := ⟨_, flat_drop (enc := oc) (fun _ => rfl) L i h⟩
abbrev LR (H : AH) (x : AV) (L : List O) : Prop := RowIn H x (flat oc L) L.length 8
theorem c53 {H : AH} {K : AV → AH → Prop} {x : AV} (L : List O) (s : ByteArray) (hx : LR H x L) (hl : L.length ≤ 1000000)
    (hk : K (vi (fndF s L 0)) H) : @AC Tryz.prog 53 [.ag [vb true, x], vs8 s] H ⟨K⟩ := by
  refine AC_of (.forget ?_)
  have ox := hx.one
  refine call_c follows cf53_ok (by simp) ?_
  simp [ox]
  refine newK_of fun z hz => ?_
  have hS := (Sub.refl H).upd hz (o := .cells [vb true, x])
  have hzz : upd H z (.cells [vb true, x]) z = some (.cells [vb true, x]) := by simp [upd_apply]
  simp
  generalize upd H z (.cells [vb true, x]) = H2 at *
  have hx2 := hx.sub hS
  have lx := fun k => hx.lenK (k := k)
  refine wpc_loop (fun st => ∃ i : Nat, st.n = 22 ∧ st.H = H2 ∧ st.t 1 = vs8 s ∧ st.t 2 = pA z ∧ st.t 5 = vi i ∧ i ≤ L.length ∧ fndF s (L.drop i) i = fndF s L 0) (fun st => L.length - slotN (st.t 5)) ?_ ?_
  · exact FgK.same ⟨0, by simp, by simp, by simp, by simp, by simp, by omega, by simp⟩
  rintro st ⟨i, hn, hH, e1, e2, e5, hi, ht⟩
  have w := IntWalk.i64_in ((i : Int) + 1) (by omega)
  by_cases hlt : i < L.length
  · obtain ⟨rest, hd⟩ := oc_nm_at hlt
    have hbd : i * 8 + 1 ≤ (flat oc L).length := by rw [oc_flat_len]; omega
    rw [List.drop_eq_getElem_cons hlt, fndF] at ht
    generalize L[i] = o at hd ht
    obtain ⟨q, f, rfl, hq⟩ := hx2.sl (by omega)
    by_cases b1 : o.nm = s
    · rw [if_pos b1] at ht
      rw [← ht] at hk
      simp (disch := omega) [hn, hH, e1, e2, e5, hzz, hq, hd, hbd, hlt, bytes_beq, b1]
      exact ⟨H, hS, hk⟩
    · rw [if_neg b1] at ht
      simp (disch := omega) [hn, hH, e1, e2, e5, hzz, hq, hd, hbd, hlt, bytes_beq, b1, w]
      exact FgK.same ⟨⟨i + 1, by simp [hn], by simp [hH], by simp [e1], by simp [e2], by simp, by omega, by simpa using ht⟩, by simp [e5]; omega⟩
  · rw [List.drop_of_length_le (by omega), fndF] at ht
    rw [← ht] at hk
    simp (disch := omega) [hn, hH, e1, e2, e5, hzz, lx, hlt]
    exact ⟨H, hS, hk⟩
def ovkF (o : O) (k : Int) : List O → Int → Bool
  | [], _ => false
  | x :: t, i => if i ≠ k ∧ rempty (rcap (lg x) (lg o)) = false then true else ovkF o k t (i + 1)
theorem c54 {H : AH} {K : AV → AH → Prop} {x : AV} (L : List O) (o : O) (k : Int) (hx : LR H x L) (hl : L.length ≤ 1000000)
    (hk : K (vb (ovkF o k L 0)) H) : @AC Tryz.prog 54 [.ag [vb true, x], .ag (oc o), vi k] H ⟨K⟩ := by
  refine AC_of (.forget ?_)
  have ox := hx.one
  refine call_c follows cf54_ok (by simp) ?_
  simp [ox]
  refine newK_of fun z hz => ?_
  have hS := (Sub.refl H).upd hz (o := .cells [vb true, x])
  have hzz : upd H z (.cells [vb true, x]) z = some (.cells [vb true, x]) := by simp [upd_apply]
  simp
  generalize upd H z (.cells [vb true, x]) = H2 at *
  refine newK_of fun v hv => ?_
  have nvz := free_ne hv z (by simp [hzz])
  have hS2 := hS.trans ((Sub.refl H2).upd hv (o := .cells (oc o)))
  have hzz2 : upd H2 v (.cells (oc o)) z = some (.cells [vb true, x]) := by simp [upd_apply, nvz, hzz]
  have hvv : upd H2 v (.cells (oc o)) v = some (.cells (oc o)) := by simp [upd_apply]
  simp
  generalize upd H2 v (.cells (oc o)) = H3 at *
  have hx2 := hx.sub hS2
  have lx := fun k => hx.lenK (k := k)
  refine wpc_loop (fun st => ∃ i : Nat, st.n = 29 ∧ st.H = H3 ∧ st.t 2 = vi k ∧ st.t 3 = pA z ∧ st.t 4 = pA v ∧ st.t 7 = vi i ∧ i ≤ L.length ∧ ovkF o k (L.drop i) i = ovkF o k L 0) (fun st => L.length - slotN (st.t 7)) ?_ ?_
  · exact FgK.same ⟨0, by simp, by simp, by simp, by simp, by simp, by simp, by omega, by simp⟩
  rintro st ⟨i, hn, hH, e2, e3, e4, e7, hi, ht⟩
  have w := IntWalk.i64_in ((i : Int) + 1) (by omega)
  by_cases hlt : i < L.length
  · have hd := oc_at hlt
    have hbd : i * 8 + 8 ≤ (flat oc L).length := by rw [oc_flat_len]; omega
    rw [List.drop_eq_getElem_cons hlt, ovkF] at ht
    generalize L[i] = y at hd ht
    obtain ⟨q, f, rfl, hq⟩ := hx2.sl (by omega)
    by_cases b1 : (i : Int) = k
    · rw [if_neg (by omega)] at ht
      subst b1
      simp (disch := omega) [hn, hH, e2, e3, e4, e7, hzz2, lx, hlt, w]
      exact FgK.same ⟨⟨i + 1, by simp [hn], by simp [hH], by simp [e2], by simp [e3], by simp [e4], by simp, by omega, by simpa using ht⟩, by simp [e7]; omega⟩
    · simp (disch := omega) [hn, hH, e2, e3, e4, e7, hzz2, hvv, hq, hd, hbd, hlt, b1]
      refine (c16 y).ac ?_
      try simp (disch := omega) [hn, hH, e2, e3, e4, e7, hvv]
      refine (c16 o).ac ?_
      try simp (disch := omega) [hn, hH, e2, e3, e4, e7]
      refine (c76 (lg y) (lg o)).ac ?_
      cases b2 : rempty (rcap (lg y) (lg o)) with
      | false =>
        rw [if_pos ⟨b1, b2⟩] at ht
        rw [← ht] at hk
        simp (disch := omega) [hn, hH, e2, e3, e4, e7]
        exact ⟨H, hS2, hk⟩
      | true =>
        rw [if_neg (by simp [b2])] at ht
        simp (disch := omega) [hn, hH, e2, e3, e4, e7, w]
        exact FgK.same ⟨⟨i + 1, by simp [hn], by simp [hH], by simp [e2], by simp [e3], by simp [e4], by simp, by omega, by simpa using ht⟩, by simp [e7]; omega⟩
  · rw [List.drop_of_length_le (by omega), ovkF] at ht
    rw [← ht] at hk
    simp (disch := omega) [hn, hH, e2, e3, e4, e7, hzz2, lx, hlt]
    exact ⟨H, hS2, hk⟩
end Go.Proofs.YtidcajmbkbamcaaGreat
end

/-! The reference's layout: New, Plug. Conditions: as each lemma states them. -/
section
namespace Go.Proofs.YtidcajmbkbamcaaGreat
open Go Go.Ab Go.RowKit
set_option linter.unusedSimpArgs false
set_option linter.unusedVariables false
set_option linter.unnecessarySimpa false

attribute [local simp] condK_true condK_false condK_not wpc_skip wpc_ret wpc_exit wpc_seq wpc_reg wpc_regD testA_bool wpc_cond wpc_block thenA_normal thenA_ret thenA_exit blockA_normal blockA_ret blockA_exit blockA_other endA_normal endA_ret ev_tmp' ev_const ev_func ev_global cv_int cv_bool cv_string cv_pointer cv_slice cv_agg cv_map put_some put_none wH_s setE_apply setE_env less_eq env_cons env_nil upd_upd upd_apply del_apply startA_eq cells_ag cells_sl one_sl cells_vs one_vs cells_ep one_ep cells_fn one_fn cells_int one_int cells_bool one_bool cells_string one_string cells_pointer one_pointer cells_slice one_slice cells_map one_map cells_agg resK_one resK_nil resK_two rvK_t rvK_c rvsK_nil rvsK_cons iseq_nil iseq_cons gdA_true gdA_false gdA_undef istep_free istep_guard istepV_free istepV_guard dseq_nil dseq_pu dseq_rd dseq_ef wpc_regT dtree_nil dtree_pu dtree_rd dtree_ef dtree_br chkAll_nil chkAll_cons andK_true pickK_true pickK_false pickK_tb pickK_fb bin2K_pl eqbK_eq eqbK_ne eqpK_eq eqpK_ne eqmK_eq eqmK_ne eqzK_eq eqzK_ne eqzK_sl eqzK_vs un1K_pl convK_int fillK_some fillA_cons fillA_nil cellsK_some needK_true needK_ok seeK_ep seeK_ptr oneK_agg oneK_one nilcK_ptr nilcK_ep fadrK_ptr fadrK_ep fldK_ag iadAK_ptr iadAK_ep iadSK_sl iadSK_vs extK_0 extK_1 extK_2 extK_3 lenK_pl lenK_sl lenK_vs lensK_pl boxK_some minmax1K_int storeK_ptr callvK_fn callvK_pl newsK_nil newsK_vs newsK_sl appK_nil appK_nil0 appK_sl appK_vs bnd1K_int bndK_none bndK_some slsK_vs slsK_nil slsK_sl0 slsK_sl slstrK_pl boolK_some eqsK_ag iop_eqs iop_sls iop_slstr seesK_some seesK_ro mapsK_some MAP_some findK_some findK_none plK_pl nmapK_none nmapK_some iop_mlook iop_mlen iop_mmk iop_mupd iop_mdel iop_mrng itK_none itK_some ptr0K_ptr iop_mnxt iop_ment it1K_some entK_some iop_mov iop_pick iop_bin iop_eqb iop_eqp iop_eqm iop_eqz iop_un capK_pl capK_sl capK_vs iop_cap apzK_nil iop_apz mksK_int iop_mks clrK_sl clrK_vs clrK_nil iop_clr iop_conv iop_build iop_load iop_nilc iop_fadr iop_fld iop_iadA iop_iadS iop_ext iop_mkf iop_len iop_lens iop_minmax iop_al iop_box iop_bsl iop_store iop_call iop_callv iop_app BIN_add BIN_sub BIN_mul BIN_and BIN_or BIN_xor BIN_andNot BIN_eql BIN_neq BIN_lss BIN_leq BIN_gtr BIN_geq BIN_quo BIN_rem BIN_shl BIN_shr BIN_sadd BIN_seql BIN_sneq BIN_slss BIN_sleq BIN_sgtr BIN_sgeq UN_neg UN_xor UN_not MM_nil MM_cons partsA argsA ptrA lessL eqL min2I slotN_int slotP_int slotI_int
attribute [local simp] oc_len oc_tt oc_dd oc_one oc_ag oc_t1 oc_t2 oc_t3 oc_t4 oc_t5 oc_t6 oc_t7 oc_d1 oc_d2 oc_d3 oc_d4 oc_d5 oc_d6 oc_d7 opq_len opq_tt opq_dd opq_one opq_ag opq_t1 opq_t2 opq_t3 opq_t4 opq_t5 opq_t6 opq_t7 opq_t8 opq_d1 opq_d2 opq_d3 opq_d4 opq_d5 opq_d6 opq_d7 opq_d8 rc_len rc_t4 rc_t1 rc_t2 rc_t3 rc_d1 rc_d2 rc_d3 rc_d4 rc_ag rc_one rc_eq min2_t min2_f

/-- What a call of the reference hands back. -/
def Back (H : AH) (L : List O) (E : Int) (K : AV → AH → Prop) : Prop := ∀ out H', Sub H H' → LR H' out L → K (.tp [.ag [vb true, out], vi E]) H'
theorem c7 {H : AH} {K : AV → AH → Prop} (hk : K (.ag [vb true, vnil]) H) : @AC Tryz.prog 7 [] H ⟨K⟩ := by
  refine AC_of (.forget ?_)
  refine call_c follows cf7_ok (by simp) ?_
  simp
  refine newK_of fun z hz => ?_
  simp
  exact ⟨H, (Sub.refl H).upd hz, hk⟩
def bless (a b : ByteArray) : Bool := Op.bytesLess a.toList b.toList
def oins (o : O) : List O → List O
  | [] => [o]
  | x :: t => if bless o.nm x.nm = true then o :: x :: t else x :: oins o t
theorem oins_len (o : O) : ∀ l, (oins o l).length = l.length + 1
  | [] => rfl
  | x :: t => by
    unfold oins
    split
    · rfl
    · simp [oins_len o t]
def wplE (L : List O) (o : O) : Int := if chk o ≠ 0 then chk o else if 0 ≤ fndF o.nm L 0 then 7 else if ovkF o (-1) L 0 = true then 6 else if 8 ≤ L.length then 5 else 0
def wplL (L : List O) (o : O) : List O := if wplE L o = 0 then oins o L else L
theorem c29 {H : AH} {K : AV → AH → Prop} {x : AV} (L : List O) (o : O) (hx : LR H x L) (hl : L.length ≤ 1000000)
    (hk : Back H (wplL L o) (wplE L o) K) : @AC Tryz.prog 29 [.ag [vb true, x], .ag (oc o)] H ⟨K⟩ := by
  refine AC_of (.forget ?_)
  have ox := hx.one
  refine call_c follows cf29_ok (by simp) ?_
  simp [ox]
  refine newK_of fun z hz => ?_
  simp
  refine newK_of fun ze hze => ?_
  obtain ⟨n1, n2, hze'⟩ := upd_none'.1 hze
  simp
  refine newK_of fun v hv => ?_
  obtain ⟨n3, n4, hv1⟩ := upd_none'.1 hv
  obtain ⟨n5, n6, hv2⟩ := upd_none'.1 hv1
  simp [n2, n4, n6]
  have hS : Sub H (upd (upd (upd H z (.cells [vb true, x])) ze (.cells (oc o))) v (.cells [vb false, vnil])) := (((Sub.refl H).upd hz).upd hze').upd hv2
  have h2z : (upd (upd (upd H z (.cells [vb true, x])) ze (.cells (oc o))) v (.cells [vb false, vnil])) z = some (.cells [vb true, x]) := by simp [upd_apply, n2, n6]
  have h2e : (upd (upd (upd H z (.cells [vb true, x])) ze (.cells (oc o))) v (.cells [vb false, vnil])) ze = some (.cells (oc o)) := by simp [upd_apply, n4]
  have h2v : (upd (upd (upd H z (.cells [vb true, x])) ze (.cells (oc o))) v (.cells [vb false, vnil])) v = some (.cells [vb false, vnil]) := by simp [upd_apply]
  generalize upd (upd (upd H z (.cells [vb true, x])) ze (.cells (oc o))) v (.cells [vb false, vnil]) = H2 at *
  have hx2 := hx.sub hS
  have lx := fun k => hx.lenK (k := k)
  have bad : ∀ {E}, wplE L o = E → E ≠ 0 → ∃ H1, Sub H1 (upd H2 v (.cells [vb true, x])) ∧ K (.tp [.ag [vb true, x], vi E]) H1 := by
    intro E e1 e2
    have := hk x H (Sub.refl H) (by rw [wplL, if_neg (by rw [e1]; exact e2)]; exact hx)
    rw [e1] at this
    exact ⟨H, hS.upd hv2, this⟩
  try simp [h2z, h2e, ox]
  refine (c38 o).ac ?_
  by_cases c1 : chk o = 0
  case neg =>
    have e1 : wplE L o = chk o := if_pos c1
    simp [c1, h2z, h2e, h2v, ox]
    exact bad e1 c1
  simp [c1, h2z, h2e, h2v, ox]
  refine c53 L o.nm hx2 hl ?_
  by_cases c2 : 0 ≤ fndF o.nm L 0
  · have e1 : wplE L o = 7 := by rw [wplE, if_neg (by simp [c1]), if_pos c2]
    simp [c2, h2z, h2e, h2v, ox]
    exact bad e1 (by decide)
  simp [c2, h2z, h2e, h2v, ox]
  refine c54 L o (-1) hx2 hl ?_
  cases c3 : ovkF o (-1) L 0 with
  | true =>
    have e1 : wplE L o = 6 := by rw [wplE, if_neg (by simp [c1]), if_neg c2, if_pos c3]
    simp [h2z, h2e, h2v, ox]
    exact bad e1 (by decide)
  | false =>
  by_cases c4 : (8 : Int) ≤ L.length
  · have e1 : wplE L o = 5 := by rw [wplE, if_neg (by simp [c1]), if_neg c2, if_neg (by simp [c3]), if_pos (by omega)]
    simp [h2z, h2e, h2v, ox, lx, c4]
    exact bad e1 (by decide)
  have e1 : wplE L o = 0 := by rw [wplE, if_neg (by simp [c1]), if_neg c2, if_neg (by simp [c3]), if_neg (by omega)]
  have hk2 : ∀ out H', Row H H' out (flat oc (oins o L)) (oins o L).length 8 → K (.tp [.ag [vb true, out], vi 0]) H' := fun out H' hr => by
    have := hk out H' hr.sub (by rw [wplL, if_pos e1]; exact hr.rin (by rw [oc_flat_len]))
    rwa [e1] at this
  simp [h2z, h2e, h2v, ox, lx, c4]
  refine newK_of fun y hy => ?_
  have nz1 := free_ne hy ze (by simp [h2e])
  have nz2 := free_ne hy v (by simp [h2v])
  have nz3 := free_ne hy z (by simp [h2z])
  try simp
  have up : ∀ o, Sub H2 (upd H2 y o) := fun o => (Sub.refl H2).upd hy
  refine wpc_loop (fun s' => ∃ (i : Nat) (out : AV) (P : List O) (d : Bool), s'.n = 81 ∧ s'.t 2 = pA z ∧ s'.t 3 = pA ze ∧ s'.t 4 = pA v ∧ s'.t 7 = pA y ∧ s'.t 8 = vb d ∧ s'.t 9 = vi i ∧ i ≤ L.length ∧ P ++ (if d = true then L.drop i else oins o (L.drop i)) = oins o L ∧ Row (upd H2 y (.cells [vb true, out])) s'.H out (flat oc P) P.length 8) (fun s' => L.length - slotN (s'.t 9)) ?_ ?_
  · exact FgK.same ⟨0, vnil, [], false, by simp, by simp, by simp, by simp, by simp, by simp, by simp, by omega, by simp, by simp [flat_nil]; exact Row.nil _ 8⟩
  rintro s' ⟨i, out, P, d, hn, t2, t3, t4, t7, t8, t9, hi, hO, hrow⟩
  have w := IntWalk.i64_in ((i : Int) + 1) (by omega)
  have hsub := hrow.sub
  have hone := hrow.one
  have hz3 := hsub.at ((up _).at h2z)
  have he3 := hsub.at ((up _).at h2e)
  have hv3 := hsub.at ((up _).at h2v)
  have hy3 : s'.H y = some (.cells [vb true, out]) := hsub.at (by simp [upd_apply])
  have hOl : P.length ≤ L.length + 1 := by
    have := congrArg List.length hO
    rw [oins_len] at this
    simp at this; omega
  by_cases hlt : i < L.length
  · have hd := oc_at hlt
    obtain ⟨rest, hd1⟩ := oc_nm_at hlt
    have hbd : i * 8 + 8 ≤ (flat oc L).length := by rw [oc_flat_len]; omega
    have hbd1 : i * 8 + 1 ≤ (flat oc L).length := by omega
    have hdr := List.drop_eq_getElem_cons hlt
    generalize L[i] = e at hd hd1 hdr
    have hd2 : List.take 8 (vs8 e.nm :: rest) = oc e := by rw [← hd1]; exact hd
    obtain ⟨q, f, rfl, hqH⟩ := hx2.sl (by omega)
    have hq3 := hsub.at ((up _).at hqH)
    have nqy := free_ne hy q (by simp [hqH])
    rw [hdr] at hO
    cases d with
    | true =>
      simp only [if_true] at hO
      simp (disch := omega) [hn, t2, t3, t4, t7, t8, t9, hz3, he3, hy3, hq3, hd, hd1, hd2, hbd, hbd1, hlt]
      refine newK_of fun u hu => ?_
      have nu := free_ne hu y (by simp [hy3])
      have nq := free_ne hu q (by simp [hq3])
      have nr := free_ne hu z (by simp [hz3])
      have hsu : Sub s'.H (upd s'.H u (.cells (oc e))) := (Sub.refl _).upd hu
      simp (disch := omega) [hn, t2, t3, t4, t7, t8, t9, hz3, he3, hy3, hq3, hd, hd1, hd2, hbd, hbd1, hlt, nu, nq, nr]
      refine hrow.app (by exact hsu) (by decide) rfl (by rw [oc_flat_len]) (by omega) fun g H' hg hsg => ?_
      obtain ⟨r1, r2, r3, r4, r5, r6⟩ := sub_turn hg hsg (.cells [vb true, .sl g 0 (P.length + 1) 8 false])
      simp (disch := omega) [hn, t2, t3, t4, t7, t8, t9, r1, w]
      refine FgK.of _ r3 ⟨⟨i + 1, .sl g 0 (P.length + 1) 8 false, P ++ [e], true, by simp [hn], by simp [t2], by simp [t3], by simp [t4], by simp [t7], by simp [t8], by simp, by omega, by simpa using hO, ?_⟩, by simp [t9]; omega⟩
      rw [flat_snoc]
      simpa using Row.mk (cs := flat oc (P ++ [e])) (n := P.length + 1) (sz := 8) r2
    | false =>
      simp only [Bool.false_eq_true, if_false] at hO
      cases b1 : bless o.nm e.nm with
      | true =>
        have b1' : Op.bytesLess o.nm.toList e.nm.toList = true := b1
        rw [oins, if_pos b1] at hO
        simp (disch := omega) [hn, t2, t3, t4, t7, t8, t9, hz3, he3, hy3, hq3, hd, hd1, hd2, hbd, hbd1, hlt, b1']
        refine newK_of fun u hu => ?_
        have nu := free_ne hu y (by simp [hy3])
        have hsu : Sub s'.H (upd s'.H u (.cells (oc o))) := (Sub.refl _).upd hu
        try simp (disch := omega) [hn, t2, t3, t4, t7, t8, t9, hy3, nu]
        refine hrow.app (by exact hsu) (by decide) rfl (by rw [oc_flat_len]) (by omega) fun g H' hg hsg => ?_
        obtain ⟨r1, r2, r3, r4, r5, r6⟩ := sub_turn hg hsg (.cells [vb true, .sl g 0 (P.length + 1) 8 false])
        have hsA := ((Sub.refl (upd H2 y (.cells [vb true, out]))).upd hg).trans hsg
        have gz := hsA.at ((up _).at h2z)
        have gq := hsA.at ((up _).at hqH)
        simp (disch := omega) [hn, t2, t3, t4, t7, t8, t9, r1, gz, gq, nz3, nqy, hd, hd1, hd2, hbd, hbd1, hlt]
        rw [flat_snoc] at r3
        have hrow2 := Row.mk (cs := flat oc (P ++ [o])) (n := P.length + 1) (sz := 8) r2
        have hs2 : Sub H2 (upd H' y (.cells [vb true, .sl g 0 (P.length + 1) 8 false])) := ((up _).trans hrow2.sub).trans r3
        have gz2 := hs2.at h2z
        have gq2 : upd H' y (.cells [vb true, .sl g 0 (P.length + 1) 8 false]) q = some (.cells (flat oc L)) := by simp [upd_apply, nqy, gq]
        have gy : (upd H' y (.cells [vb true, .sl g 0 (P.length + 1) 8 false])) y = some (.cells [vb true, .sl g 0 (P.length + 1) 8 false]) := by simp [upd_apply]
        generalize upd H' y (.cells [vb true, .sl g 0 (P.length + 1) 8 false]) = H5 at r3 hs2 gz2 gq2 gy ⊢
        generalize AV.sl g 0 (P.length + 1) 8 false = out2 at *
        have hone2 := hrow2.one
        refine newK_of fun u2 hu2 => ?_
        have nu2 := free_ne hu2 y (by simp [gy])
        have nq2 := free_ne hu2 q (by simp [gq2])
        have nr2 := free_ne hu2 z (by simp [gz2])
        have hsu2 : Sub H5 (upd H5 u2 (.cells (oc e))) := (Sub.refl _).upd hu2
        simp (disch := omega) [hn, t2, t3, t4, t7, t8, t9, gz2, gy, gq2, hd, hd1, hd2, hbd, hbd1, hlt, nu2, nq2, nr2]
        refine hrow2.app (by exact r3.trans hsu2) (by decide) rfl (by rw [oc_flat_len]; simp) (by omega) fun g2 H6 hg2 hsg2 => ?_
        obtain ⟨u1, u2', u3, u4, u5, u6⟩ := sub_turn hg2 hsg2 (.cells [vb true, .sl g2 0 (P.length + 1 + 1) 8 false])
        simp (disch := omega) [hn, t2, t3, t4, t7, t8, t9, u1, w]
        refine FgK.of _ u3 ⟨⟨i + 1, .sl g2 0 (P.length + 1 + 1) 8 false, P ++ [o] ++ [e], true, by simp [hn], by simp [t2], by simp [t3], by simp [t4], by simp [t7], by simp, by simp, by omega, by simpa using hO, ?_⟩, by simp [t9]; omega⟩
        rw [flat_snoc]
        have h9 := Row.mk (cs := flat oc (P ++ [o] ++ [e])) (n := P.length + 1 + 1) (sz := 8) u2'
        have h8 : (P ++ [o] ++ [e]).length = P.length + 1 + 1 := by simp
        rw [h8]
        exact h9
      | false =>
        have b1' : Op.bytesLess o.nm.toList e.nm.toList = false := b1
        rw [oins, if_neg (by rw [b1]; decide)] at hO
        simp (disch := omega) [hn, t2, t3, t4, t7, t8, t9, hz3, he3, hy3, hq3, hd, hd1, hd2, hbd, hbd1, hlt, b1']
        refine newK_of fun u hu => ?_
        have nu := free_ne hu y (by simp [hy3])
        have nq := free_ne hu q (by simp [hq3])
        have nr := free_ne hu z (by simp [hz3])
        have hsu : Sub s'.H (upd s'.H u (.cells (oc e))) := (Sub.refl _).upd hu
        simp (disch := omega) [hn, t2, t3, t4, t7, t8, t9, hz3, he3, hy3, hq3, hd, hd1, hd2, hbd, hbd1, hlt, nu, nq, nr]
        refine hrow.app (by exact hsu) (by decide) rfl (by rw [oc_flat_len]) (by omega) fun g H' hg hsg => ?_
        obtain ⟨r1, r2, r3, r4, r5, r6⟩ := sub_turn hg hsg (.cells [vb true, .sl g 0 (P.length + 1) 8 false])
        simp (disch := omega) [hn, t2, t3, t4, t7, t8, t9, r1, w]
        refine FgK.of _ r3 ⟨⟨i + 1, .sl g 0 (P.length + 1) 8 false, P ++ [e], false, by simp [hn], by simp [t2], by simp [t3], by simp [t4], by simp [t7], by simp [t8], by simp, by omega, by simpa using hO, ?_⟩, by simp [t9]; omega⟩
        rw [flat_snoc]
        simpa using Row.mk (cs := flat oc (P ++ [e])) (n := P.length + 1) (sz := 8) r2
  · rw [List.drop_of_length_le (by omega)] at hO
    rw [← hO] at hk2
    cases d with
    | true =>
      simp only [if_true, List.append_nil] at hk2
      simp (disch := omega) [hn, t2, t3, t4, t7, t8, t9, hz3, hy3, hv3, lx, hlt, hone]
      obtain ⟨H1, h3, h4⟩ := hrow.out2 (H := H) (hS.trans (up _)) (y := v) hv2 ((up _).at h2v) (.cells [vb true, out])
      exact ⟨H1, h3, hk2 _ _ h4⟩
    | false =>
      simp only [Bool.false_eq_true, if_false, oins] at hk2
      simp (disch := omega) [hn, t2, t3, t4, t7, t8, t9, hz3, he3, hy3, hv3, lx, hlt, hone]
      refine newK_of fun u hu => ?_
      have nu := free_ne hu y (by simp [hy3])
      have hsu : Sub s'.H (upd s'.H u (.cells (oc o))) := (Sub.refl _).upd hu
      try simp (disch := omega) [hn, t2, t3, t4, t7, t8, t9, hy3, nu]
      refine hrow.app (by exact hsu) (by decide) rfl (by rw [oc_flat_len]) (by omega) fun g H' hg hsg => ?_
      obtain ⟨r1, r2, r3, r4, r5, r6⟩ := sub_turn hg hsg (.cells [vb true, .sl g 0 (P.length + 1) 8 false])
      have hsA := ((Sub.refl (upd H2 y (.cells [vb true, out]))).upd hg).trans hsg
      have hv' := hsA.at ((up _).at h2v)
      simp (disch := omega) [hn, t2, t3, t4, t7, t8, t9, r1, hv', nz2]
      rw [flat_snoc] at r3
      have hrow2 := Row.mk (cs := flat oc (P ++ [o])) (n := P.length + 1) (sz := 8) r2
      obtain ⟨H1, h3, h4⟩ := hrow2.out2 (H := H) (hS.trans (up _)) (y := v) hv2 ((up _).at h2v) (.cells [vb true, .sl g 0 (P.length + 1) 8 false])
      exact ⟨H1, h3.trans (Sub.cong r3), hk2 _ _ (by simpa using h4)⟩
end Go.Proofs.YtidcajmbkbamcaaGreat
end

/-! The reference's layout: Unplug, Overlapping. Conditions: as each lemma states them. -/
section
namespace Go.Proofs.YtidcajmbkbamcaaGreat
open Go Go.Ab Go.RowKit
set_option linter.unusedSimpArgs false
set_option linter.unusedVariables false
set_option linter.unnecessarySimpa false

attribute [local simp] condK_true condK_false condK_not wpc_skip wpc_ret wpc_exit wpc_seq wpc_reg wpc_regD testA_bool wpc_cond wpc_block thenA_normal thenA_ret thenA_exit blockA_normal blockA_ret blockA_exit blockA_other endA_normal endA_ret ev_tmp' ev_const ev_func ev_global cv_int cv_bool cv_string cv_pointer cv_slice cv_agg cv_map put_some put_none wH_s setE_apply setE_env less_eq env_cons env_nil upd_upd upd_apply del_apply startA_eq cells_ag cells_sl one_sl cells_vs one_vs cells_ep one_ep cells_fn one_fn cells_int one_int cells_bool one_bool cells_string one_string cells_pointer one_pointer cells_slice one_slice cells_map one_map cells_agg resK_one resK_nil resK_two rvK_t rvK_c rvsK_nil rvsK_cons iseq_nil iseq_cons gdA_true gdA_false gdA_undef istep_free istep_guard istepV_free istepV_guard dseq_nil dseq_pu dseq_rd dseq_ef wpc_regT dtree_nil dtree_pu dtree_rd dtree_ef dtree_br chkAll_nil chkAll_cons andK_true pickK_true pickK_false pickK_tb pickK_fb bin2K_pl eqbK_eq eqbK_ne eqpK_eq eqpK_ne eqmK_eq eqmK_ne eqzK_eq eqzK_ne eqzK_sl eqzK_vs un1K_pl convK_int fillK_some fillA_cons fillA_nil cellsK_some needK_true needK_ok seeK_ep seeK_ptr oneK_agg oneK_one nilcK_ptr nilcK_ep fadrK_ptr fadrK_ep fldK_ag iadAK_ptr iadAK_ep iadSK_sl iadSK_vs extK_0 extK_1 extK_2 extK_3 lenK_pl lenK_sl lenK_vs lensK_pl boxK_some minmax1K_int storeK_ptr callvK_fn callvK_pl newsK_nil newsK_vs newsK_sl appK_nil appK_nil0 appK_sl appK_vs bnd1K_int bndK_none bndK_some slsK_vs slsK_nil slsK_sl0 slsK_sl slstrK_pl boolK_some eqsK_ag iop_eqs iop_sls iop_slstr seesK_some seesK_ro mapsK_some MAP_some findK_some findK_none plK_pl nmapK_none nmapK_some iop_mlook iop_mlen iop_mmk iop_mupd iop_mdel iop_mrng itK_none itK_some ptr0K_ptr iop_mnxt iop_ment it1K_some entK_some iop_mov iop_pick iop_bin iop_eqb iop_eqp iop_eqm iop_eqz iop_un capK_pl capK_sl capK_vs iop_cap apzK_nil iop_apz mksK_int iop_mks clrK_sl clrK_vs clrK_nil iop_clr iop_conv iop_build iop_load iop_nilc iop_fadr iop_fld iop_iadA iop_iadS iop_ext iop_mkf iop_len iop_lens iop_minmax iop_al iop_box iop_bsl iop_store iop_call iop_callv iop_app BIN_add BIN_sub BIN_mul BIN_and BIN_or BIN_xor BIN_andNot BIN_eql BIN_neq BIN_lss BIN_leq BIN_gtr BIN_geq BIN_quo BIN_rem BIN_shl BIN_shr BIN_sadd BIN_seql BIN_sneq BIN_slss BIN_sleq BIN_sgtr BIN_sgeq UN_neg UN_xor UN_not MM_nil MM_cons partsA argsA ptrA lessL eqL min2I slotN_int slotP_int slotI_int
attribute [local simp] oc_len oc_tt oc_dd oc_one oc_ag oc_t1 oc_t2 oc_t3 oc_t4 oc_t5 oc_t6 oc_t7 oc_d1 oc_d2 oc_d3 oc_d4 oc_d5 oc_d6 oc_d7 opq_len opq_tt opq_dd opq_one opq_ag opq_t1 opq_t2 opq_t3 opq_t4 opq_t5 opq_t6 opq_t7 opq_t8 opq_d1 opq_d2 opq_d3 opq_d4 opq_d5 opq_d6 opq_d7 opq_d8 rc_len rc_t4 rc_t1 rc_t2 rc_t3 rc_d1 rc_d2 rc_d3 rc_d4 rc_ag rc_one rc_eq min2_t min2_f

def skp (k : Int) : List O → Int → List O
  | [], _ => []
  | x :: t, i => if i = k then skp k t (i + 1) else x :: skp k t (i + 1)
theorem skp_len (k : Int) : ∀ (l : List O) (i : Int), (skp k l i).length ≤ l.length
  | [], _ => by simp [skp]
  | x :: t, i => by
    have := skp_len k t (i + 1)
    unfold skp
    split <;> simp <;> omega
def wdlE (L : List O) (s : ByteArray) : Int := if fndF s L 0 < 0 then 8 else 0
def wdlL (L : List O) (s : ByteArray) : List O := if fndF s L 0 < 0 then L else skp (fndF s L 0) L 0
theorem c30 {H : AH} {K : AV → AH → Prop} {x : AV} (L : List O) (s : ByteArray) (hx : LR H x L) (hl : L.length ≤ 1000000)
    (hk : Back H (wdlL L s) (wdlE L s) K) : @AC Tryz.prog 30 [.ag [vb true, x], vs8 s] H ⟨K⟩ := by
  refine AC_of (.forget ?_)
  have ox := hx.one
  refine call_c follows cf30_ok (by simp) ?_
  simp [ox]
  refine newK_of fun z hz => ?_
  simp
  refine newK_of fun v hv => ?_
  obtain ⟨n1, n2, hv2⟩ := upd_none'.1 hv
  simp [n2]
  have hS : Sub H (upd (upd H z (.cells [vb true, x])) v (.cells [vb false, vnil])) := ((Sub.refl H).upd hz).upd hv2
  have h2z : (upd (upd H z (.cells [vb true, x])) v (.cells [vb false, vnil])) z = some (.cells [vb true, x]) := by simp [upd_apply, n2]
  have h2v : (upd (upd H z (.cells [vb true, x])) v (.cells [vb false, vnil])) v = some (.cells [vb false, vnil]) := by simp [upd_apply]
  generalize upd (upd H z (.cells [vb true, x])) v (.cells [vb false, vnil]) = H2 at *
  have hx2 := hx.sub hS
  have lx := fun k => hx.lenK (k := k)
  try simp [h2z, ox]
  refine c53 L s hx2 hl ?_
  by_cases c1 : fndF s L 0 < 0
  · have := hk x H (Sub.refl H) (by rw [wdlL, if_pos c1]; exact hx)
    rw [wdlE, if_pos c1] at this
    simp [c1, h2z, h2v, ox]
    exact ⟨H, hS.upd hv2, this⟩
  have hk2 : ∀ out H', Row H H' out (flat oc (skp (fndF s L 0) L 0)) (skp (fndF s L 0) L 0).length 8 → K (.tp [.ag [vb true, out], vi 0]) H' := fun out H' hr => by
    have := hk out H' hr.sub (by rw [wdlL, if_neg c1]; exact hr.rin (by rw [oc_flat_len]))
    rwa [wdlE, if_neg c1] at this
  simp [c1, h2z, h2v, ox]
  generalize fndF s L 0 = kk at *
  refine newK_of fun y hy => ?_
  have nz2 := free_ne hy v (by simp [h2v])
  have nz3 := free_ne hy z (by simp [h2z])
  try simp
  have up : ∀ o, Sub H2 (upd H2 y o) := fun o => (Sub.refl H2).upd hy
  refine wpc_loop (fun s' => ∃ (i : Nat) (out : AV) (P : List O), s'.n = 41 ∧ s'.t 2 = pA z ∧ s'.t 4 = pA v ∧ s'.t 6 = vi kk ∧ s'.t 7 = pA y ∧ s'.t 8 = vi i ∧ i ≤ L.length ∧ P ++ skp kk (L.drop i) i = skp kk L 0 ∧ Row (upd H2 y (.cells [vb true, out])) s'.H out (flat oc P) P.length 8) (fun s' => L.length - slotN (s'.t 8)) ?_ ?_
  · exact FgK.same ⟨0, vnil, [], by simp, by simp, by simp, by simp, by simp, by simp, by omega, by simp, by simp [flat_nil]; exact Row.nil _ 8⟩
  rintro s' ⟨i, out, P, hn, t2, t4, t6, t7, t8, hi, hO, hrow⟩
  have w := IntWalk.i64_in ((i : Int) + 1) (by omega)
  have hsub := hrow.sub
  have hone := hrow.one
  have hz3 := hsub.at ((up _).at h2z)
  have hv3 := hsub.at ((up _).at h2v)
  have hy3 : s'.H y = some (.cells [vb true, out]) := hsub.at (by simp [upd_apply])
  have hOl : P.length ≤ L.length := by
    have h1 := congrArg List.length hO
    have h2 := skp_len kk L 0
    simp at h1; omega
  by_cases hlt : i < L.length
  · have hd := oc_at hlt
    have hbd : i * 8 + 8 ≤ (flat oc L).length := by rw [oc_flat_len]; omega
    rw [List.drop_eq_getElem_cons hlt, skp] at hO
    generalize L[i] = e at hd hO
    obtain ⟨q, f, rfl, hqH⟩ := hx2.sl (by omega)
    have hq3 := hsub.at ((up _).at hqH)
    by_cases b1 : (i : Int) = kk
    · rw [if_pos b1] at hO
      have hlt' : kk < L.length := by omega
      subst b1
      simp (disch := omega) [hn, t2, t4, t6, t7, t8, hz3, lx, hlt, w]
      exact FgK.same ⟨⟨i + 1, out, P, by simp [hn], by simp [t2], by simp [t4], by simp [t6], by simp [t7], by simp, by omega, by simpa using hO, hrow⟩, by simp [t8]; omega⟩
    · rw [if_neg b1] at hO
      simp (disch := omega) [hn, t2, t4, t6, t7, t8, hz3, hy3, hq3, hd, hbd, lx, hlt, b1]
      refine newK_of fun u hu => ?_
      have nu := free_ne hu y (by simp [hy3])
      have nq := free_ne hu q (by simp [hq3])
      have nr := free_ne hu z (by simp [hz3])
      have hsu : Sub s'.H (upd s'.H u (.cells (oc e))) := (Sub.refl _).upd hu
      simp (disch := omega) [hn, t2, t4, t6, t7, t8, hz3, hy3, hq3, hd, hbd, hlt, nu, nq, nr]
      refine hrow.app (by exact hsu) (by decide) rfl (by rw [oc_flat_len]) (by omega) fun g H' hg hsg => ?_
      obtain ⟨r1, r2, r3, r4, r5, r6⟩ := sub_turn hg hsg (.cells [vb true, .sl g 0 (P.length + 1) 8 false])
      simp (disch := omega) [hn, t2, t4, t6, t7, t8, r1, w]
      refine FgK.of _ r3 ⟨⟨i + 1, .sl g 0 (P.length + 1) 8 false, P ++ [e], by simp [hn], by simp [t2], by simp [t4], by simp [t6], by simp [t7], by simp, by omega, by simpa using hO, ?_⟩, by simp [t8]; omega⟩
      rw [flat_snoc]
      simpa using Row.mk (cs := flat oc (P ++ [e])) (n := P.length + 1) (sz := 8) r2
  · rw [List.drop_of_length_le (by omega), skp, List.append_nil] at hO
    rw [← hO] at hk2
    simp (disch := omega) [hn, t2, t4, t6, t7, t8, hz3, hy3, hv3, lx, hlt, hone]
    obtain ⟨H1, h3, h4⟩ := hrow.out2 (H := H) (hS.trans (up _)) (y := v) hv2 ((up _).at h2v) (.cells [vb true, out])
    exact ⟨H1, h3, hk2 _ _ h4⟩
end Go.Proofs.YtidcajmbkbamcaaGreat
end

/-! The reference's layout: Move. Conditions: as each lemma states them. -/
section
namespace Go.Proofs.YtidcajmbkbamcaaGreat
open Go Go.Ab Go.RowKit
set_option linter.unusedSimpArgs false
set_option linter.unusedVariables false
set_option linter.unnecessarySimpa false

attribute [local simp] condK_true condK_false condK_not wpc_skip wpc_ret wpc_exit wpc_seq wpc_reg wpc_regD testA_bool wpc_cond wpc_block thenA_normal thenA_ret thenA_exit blockA_normal blockA_ret blockA_exit blockA_other endA_normal endA_ret ev_tmp' ev_const ev_func ev_global cv_int cv_bool cv_string cv_pointer cv_slice cv_agg cv_map put_some put_none wH_s setE_apply setE_env less_eq env_cons env_nil upd_upd upd_apply del_apply startA_eq cells_ag cells_sl one_sl cells_vs one_vs cells_ep one_ep cells_fn one_fn cells_int one_int cells_bool one_bool cells_string one_string cells_pointer one_pointer cells_slice one_slice cells_map one_map cells_agg resK_one resK_nil resK_two rvK_t rvK_c rvsK_nil rvsK_cons iseq_nil iseq_cons gdA_true gdA_false gdA_undef istep_free istep_guard istepV_free istepV_guard dseq_nil dseq_pu dseq_rd dseq_ef wpc_regT dtree_nil dtree_pu dtree_rd dtree_ef dtree_br chkAll_nil chkAll_cons andK_true pickK_true pickK_false pickK_tb pickK_fb bin2K_pl eqbK_eq eqbK_ne eqpK_eq eqpK_ne eqmK_eq eqmK_ne eqzK_eq eqzK_ne eqzK_sl eqzK_vs un1K_pl convK_int fillK_some fillA_cons fillA_nil cellsK_some needK_true needK_ok seeK_ep seeK_ptr oneK_agg oneK_one nilcK_ptr nilcK_ep fadrK_ptr fadrK_ep fldK_ag iadAK_ptr iadAK_ep iadSK_sl iadSK_vs extK_0 extK_1 extK_2 extK_3 lenK_pl lenK_sl lenK_vs lensK_pl boxK_some minmax1K_int storeK_ptr callvK_fn callvK_pl newsK_nil newsK_vs newsK_sl appK_nil appK_nil0 appK_sl appK_vs bnd1K_int bndK_none bndK_some slsK_vs slsK_nil slsK_sl0 slsK_sl slstrK_pl boolK_some eqsK_ag iop_eqs iop_sls iop_slstr seesK_some seesK_ro mapsK_some MAP_some findK_some findK_none plK_pl nmapK_none nmapK_some iop_mlook iop_mlen iop_mmk iop_mupd iop_mdel iop_mrng itK_none itK_some ptr0K_ptr iop_mnxt iop_ment it1K_some entK_some iop_mov iop_pick iop_bin iop_eqb iop_eqp iop_eqm iop_eqz iop_un capK_pl capK_sl capK_vs iop_cap apzK_nil iop_apz mksK_int iop_mks clrK_sl clrK_vs clrK_nil iop_clr iop_conv iop_build iop_load iop_nilc iop_fadr iop_fld iop_iadA iop_iadS iop_ext iop_mkf iop_len iop_lens iop_minmax iop_al iop_box iop_bsl iop_store iop_call iop_callv iop_app BIN_add BIN_sub BIN_mul BIN_and BIN_or BIN_xor BIN_andNot BIN_eql BIN_neq BIN_lss BIN_leq BIN_gtr BIN_geq BIN_quo BIN_rem BIN_shl BIN_shr BIN_sadd BIN_seql BIN_sneq BIN_slss BIN_sleq BIN_sgtr BIN_sgeq UN_neg UN_xor UN_not MM_nil MM_cons partsA argsA ptrA lessL eqL min2I slotN_int slotP_int slotI_int
attribute [local simp] oc_len oc_tt oc_dd oc_one oc_ag oc_t1 oc_t2 oc_t3 oc_t4 oc_t5 oc_t6 oc_t7 oc_d1 oc_d2 oc_d3 oc_d4 oc_d5 oc_d6 oc_d7 opq_len opq_tt opq_dd opq_one opq_ag opq_t1 opq_t2 opq_t3 opq_t4 opq_t5 opq_t6 opq_t7 opq_t8 opq_d1 opq_d2 opq_d3 opq_d4 opq_d5 opq_d6 opq_d7 opq_d8 rc_len rc_t4 rc_t1 rc_t2 rc_t3 rc_d1 rc_d2 rc_d3 rc_d4 rc_ag rc_one rc_eq min2_t min2_f

theorem fndF_spec {s : ByteArray} : ∀ (L : List O) (j : Int), (fndF s L j = -1 ∧ ∀ o ∈ L, o.nm ≠ s) ∨ ∃ (L1 : List O) (e : O) (L2 : List O), L = L1 ++ e :: L2 ∧ fndF s L j = j + L1.length ∧ e.nm = s ∧ ∀ o ∈ L1, o.nm ≠ s
  | [], j => .inl ⟨rfl, fun _ h => by cases h⟩
  | x :: L, j => by
    unfold fndF
    by_cases h : x.nm = s
    · rw [if_pos h]
      exact .inr ⟨[], x, L, rfl, by simp, h, fun _ h => by cases h⟩
    · rw [if_neg h]
      rcases fndF_spec L (j + 1) with ⟨h1, h2⟩ | ⟨L1, e, L2, h1, h2, h3, h4⟩
      · refine .inl ⟨h1, fun o ho => ?_⟩
        rcases List.mem_cons.1 ho with rfl | ho
        · exact h
        · exact h2 o ho
      · refine .inr ⟨x :: L1, e, L2, by rw [h1]; rfl, by rw [h2]; simp; omega, h3, fun o ho => ?_⟩
        rcases List.mem_cons.1 ho with rfl | ho
        · exact h
        · exact h4 o ho
def wmvE (L : List O) (s : ByteArray) (x y : Int) : Int := if fndF s L 0 < 0 then 8 else if chk (at_ (look L s) x y) ≠ 0 then chk (at_ (look L s) x y) else if ovkF (at_ (look L s) x y) (fndF s L 0) L 0 = true then 6 else 0
def wmvL (L : List O) (s : ByteArray) (x y : Int) : List O := if wmvE L s x y = 0 then L.set (fndF s L 0).toNat (at_ (look L s) x y) else L
theorem c31 {H : AH} {K : AV → AH → Prop} {x : AV} (L : List O) (s : ByteArray) (x0 y0 : Int) (hx : LR H x L) (hl : L.length ≤ 1000000)
    (hk : Back H (wmvL L s x0 y0) (wmvE L s x0 y0) K) : @AC Tryz.prog 31 [.ag [vb true, x], vs8 s, vi x0, vi y0] H ⟨K⟩ := by
  refine AC_of (.forget ?_)
  have ox := hx.one
  refine call_c follows cf31_ok (by simp) ?_
  simp [ox]
  refine newK_of fun z hz => ?_
  simp
  refine newK_of fun v hv => ?_
  obtain ⟨n1, n2, hv2⟩ := upd_none'.1 hv
  simp [n2]
  have hS : Sub H (upd (upd H z (.cells [vb true, x])) v (.cells [vb false, vnil])) := ((Sub.refl H).upd hz).upd hv2
  have h2z : (upd (upd H z (.cells [vb true, x])) v (.cells [vb false, vnil])) z = some (.cells [vb true, x]) := by simp [upd_apply, n2]
  have h2v : (upd (upd H z (.cells [vb true, x])) v (.cells [vb false, vnil])) v = some (.cells [vb false, vnil]) := by simp [upd_apply]
  generalize upd (upd H z (.cells [vb true, x])) v (.cells [vb false, vnil]) = H2 at *
  have hx2 := hx.sub hS
  have lx := fun k => hx.lenK (k := k)
  try simp [h2z, ox]
  refine c53 L s hx2 hl ?_
  have bad : ∀ {E} {H'}, Sub H2 H' → wmvE L s x0 y0 = E → E ≠ 0 → ∃ H1, Sub H1 (upd H' v (.cells [vb true, x])) ∧ K (.tp [.ag [vb true, x], vi E]) H1 := by
    intro E H' hs e1 e2
    have := hk x H (Sub.refl H) (by rw [wmvL, if_neg (by rw [e1]; exact e2)]; exact hx)
    rw [e1] at this
    exact ⟨H, (hS.trans hs).upd hv2, this⟩
  rcases fndF_spec (s := s) L 0 with ⟨h1, _⟩ | ⟨L1, e, L2, hL, h1, h3, h4⟩
  · have e1 : wmvE L s x0 y0 = 8 := by rw [wmvE, if_pos (by omega)]
    simp [h1, h2z, h2v, ox]
    exact bad (Sub.refl _) e1 (by decide)
  have hlk : look L s = e := by rw [hL]; exact look_mid h4 h3
  rw [Int.zero_add] at h1
  have hlt : L1.length < L.length := by rw [hL]; simp
  have hge : L[L1.length] = e := by simp [hL]
  have hd := oc_at hlt
  rw [hge] at hd
  have hbd : L1.length * 8 + 8 ≤ (flat oc L).length := by rw [oc_flat_len]; omega
  have hE : wmvE L s x0 y0 = if chk (at_ e x0 y0) ≠ 0 then chk (at_ e x0 y0) else if ovkF (at_ e x0 y0) L1.length L 0 = true then 6 else 0 := by
    rw [wmvE, if_neg (by omega), hlk, h1]
  obtain ⟨q, f, rfl, hqH⟩ := hx2.sl (by omega)
  have hneg : ¬ (L1.length : Int) < 0 := by omega
  rw [h1]
  simp (disch := omega) [h2z, h2v, ox, hqH, hd, hbd, hlt, hneg]
  refine newK_of fun u hu => ?_
  have nu1 := free_ne hu z (by simp [h2z])
  have nu2 := free_ne hu v (by simp [h2v])
  have nu3 := free_ne hu q (by simp [hqH])
  have hsu : Sub H2 (upd H2 u (.cells (oc (at_ e x0 y0)))) := (Sub.refl H2).upd hu
  have hcell : ([vs8 e.nm, vi e.w, vi e.h, vi e.rf, vi e.sc, vi e.tr, vi x0, vi y0] : List AV) = oc (at_ e x0 y0) := rfl
  have hat : (⟨e.nm, e.w, e.h, e.rf, e.sc, e.tr, x0, y0⟩ : O) = at_ e x0 y0 := rfl
  simp (disch := omega) [nu1, nu2, nu3, upd_upd, hcell, hat]
  have gz := hsu.at h2z
  have gv := hsu.at h2v
  have gq := hsu.at hqH
  have gu : upd H2 u (.cells (oc (at_ e x0 y0))) u = some (.cells (oc (at_ e x0 y0))) := by simp [upd_apply]
  have hx3 := hx2.sub hsu
  have huH := hS.none_of hu
  generalize upd H2 u (.cells (oc (at_ e x0 y0))) = H3 at *
  refine (c38 (at_ e x0 y0)).ac ?_
  by_cases c1 : chk (at_ e x0 y0) = 0
  case neg =>
    have e1 : wmvE L s x0 y0 = chk (at_ e x0 y0) := by rw [hE, if_pos c1]
    simp [c1, gz, gv, ox]
    exact bad hsu e1 c1
  simp [c1, gz, gv, gu, ox]
  refine c54 L (at_ e x0 y0) L1.length hx3 hl ?_
  cases c2 : ovkF (at_ e x0 y0) L1.length L 0 with
  | true =>
    have e1 : wmvE L s x0 y0 = 6 := by rw [hE, if_neg (by simp [c1]), if_pos c2]
    simp [gz, gv, ox]
    exact bad hsu e1 (by decide)
  | false =>
  have e1 : wmvE L s x0 y0 = 0 := by rw [hE, if_neg (by simp [c1]), if_neg (by simp [c2])]
  simp [gz, gv, gu, gq, ox]
  refine newK_of fun w hw => ?_
  have nw1 := free_ne hw z (by simp [gz])
  have nw2 := free_ne hw v (by simp [gv])
  have nw3 := free_ne hw q (by simp [gq])
  have nw4 := free_ne hw u (by simp [gu])
  have hn8 : L.length * 8 ≤ (flat oc L).length := by rw [oc_flat_len]; omega
  have htk : (flat oc L).take (L.length * 8) = flat oc L := List.take_of_length_le (by rw [oc_flat_len]; omega)
  have hall : (flat oc L).all AV.one = true := by
    rw [List.all_eq_true]
    intro c hc
    obtain ⟨cs, hcs, hc⟩ := List.mem_flatten.1 hc
    obtain ⟨o, _, rfl⟩ := List.mem_map.1 hcs
    have := oc_one o
    rw [List.all_eq_true] at this
    exact this c hc
  have hl72 : L.length * 72 ≤ 140737488355328 := by omega
  have hall' : ∀ c ∈ flat oc L, c.one = true := List.all_eq_true.1 hall
  simp [gz, gv, gu, gq, ox, nw1, nw2, nw3, nw4, hn8, htk, hall, hall', hl72]
  refine ownK_of fun g hg => ?_
  have hg3 : H3 g = none := by
    rcases hg with rfl | hg
    · exact hw
    · exact (upd_none'.1 hg).2.2
  have hSg : Sub H3 (upd (del (upd H3 w (.cells [])) w) g (.cells (flat oc L))) := by
    intro j o hj
    simp only [upd_apply, del_apply]
    rw [if_neg (by rintro rfl; rw [hg3] at hj; cases hj), if_neg (by rintro rfl; rw [hw] at hj; cases hj), if_neg (by rintro rfl; rw [hw] at hj; cases hj)]
    exact hj
  have rz := hSg.at gz
  have rv := hSg.at gv
  have ru := hSg.at gu
  have rg : upd (del (upd H3 w (.cells [])) w) g (.cells (flat oc L)) g = some (.cells (flat oc L)) := by simp [upd_apply]
  simp
  generalize upd (del (upd H3 w (.cells [])) w) g (.cells (flat oc L)) = H4 at *
  refine newK_of fun t ht => ?_
  have nt1 := free_ne ht v (by simp [rv])
  have nt2 := free_ne ht u (by simp [ru])
  have nt3 := free_ne ht g (by simp [rg])
  have nvg := free_ne hg3 v (by simp [gv])
  have hset : L.set L1.length (at_ e x0 y0) = L1 ++ at_ e x0 y0 :: L2 := by rw [hL]; simp
  have hf1 : flat oc L = flat oc L1 ++ (oc e ++ flat oc L2) := by rw [hL]; simp [flat]
  have hf2 : List.take (L1.length * 8) (flat oc L) ++ (oc (at_ e x0 y0) ++ List.drop (L1.length * 8 + 8) (flat oc L)) = flat oc (L.set L1.length (at_ e x0 y0)) := by
    rw [hset, hf1]
    have l1 : (flat oc L1).length = L1.length * 8 := oc_flat_len L1
    have t1 : List.take (L1.length * 8) (flat oc L1 ++ (oc e ++ flat oc L2)) = flat oc L1 := by rw [← l1, List.take_left]
    have t2 : List.drop (L1.length * 8 + 8) (flat oc L1 ++ (oc e ++ flat oc L2)) = flat oc L2 := by
      rw [← List.drop_drop, ← l1, List.drop_left]; rfl
    rw [t1, t2]
    simp [flat]
  have hM : wmvL L s x0 y0 = L.set L1.length (at_ e x0 y0) := by rw [wmvL, if_pos e1, h1, hlk]; simp
  have hgH : H g = none := (hS.trans hsu).none_of hg3
  have hS4 : Sub H H4 := (hS.trans hsu).trans hSg
  have htH : H t = none := hS4.none_of ht
  have fin : K (.tp [.ag [vb true, .sl g 0 L.length 8 false], vi 0]) (upd H g (.cells (flat oc (L.set L1.length (at_ e x0 y0))))) := by
    have := hk (.sl g 0 L.length 8 false) (upd H g (.cells (flat oc (L.set L1.length (at_ e x0 y0))))) ((Sub.refl H).upd hgH) (by
      rw [hM]
      refine ⟨oc_flat_len _, .inr ⟨g, false, by simp, by simp [upd_apply]⟩⟩)
    rwa [e1] at this
  simp (disch := omega) [rz, rv, ru, rg, nt1, nt2, nt3, h1, hbd, hlt, hneg, nvg, hf2]
  refine ⟨_, ?_, fin⟩
  intro j o hj
  simp only [upd_apply] at hj ⊢
  by_cases c5 : j = g
  · subst c5
    simp only [if_true] at hj
    rw [if_neg nvg.2, if_pos rfl]; exact hj
  · rw [if_neg c5] at hj
    have n1 : j ≠ v := by rintro rfl; rw [hv2] at hj; cases hj
    have n2 : j ≠ t := by rintro rfl; rw [htH] at hj; cases hj
    rw [if_neg n1, if_neg c5, if_neg n2]
    exact hS4 j o hj
end Go.Proofs.YtidcajmbkbamcaaGreat
end

/-! The reference's layout: the law's calls. Conditions: as each lemma states them. -/
section
namespace Go.Proofs.YtidcajmbkbamcaaGreat
open Go Go.Ab Go.RowKit
set_option linter.unusedSimpArgs false
set_option linter.unusedVariables false
set_option linter.unnecessarySimpa false

attribute [local simp] condK_true condK_false condK_not wpc_skip wpc_ret wpc_exit wpc_seq wpc_reg wpc_regD testA_bool wpc_cond wpc_block thenA_normal thenA_ret thenA_exit blockA_normal blockA_ret blockA_exit blockA_other endA_normal endA_ret ev_tmp' ev_const ev_func ev_global cv_int cv_bool cv_string cv_pointer cv_slice cv_agg cv_map put_some put_none wH_s setE_apply setE_env less_eq env_cons env_nil upd_upd upd_apply del_apply startA_eq cells_ag cells_sl one_sl cells_vs one_vs cells_ep one_ep cells_fn one_fn cells_int one_int cells_bool one_bool cells_string one_string cells_pointer one_pointer cells_slice one_slice cells_map one_map cells_agg resK_one resK_nil resK_two rvK_t rvK_c rvsK_nil rvsK_cons iseq_nil iseq_cons gdA_true gdA_false gdA_undef istep_free istep_guard istepV_free istepV_guard dseq_nil dseq_pu dseq_rd dseq_ef wpc_regT dtree_nil dtree_pu dtree_rd dtree_ef dtree_br chkAll_nil chkAll_cons andK_true pickK_true pickK_false pickK_tb pickK_fb bin2K_pl eqbK_eq eqbK_ne eqpK_eq eqpK_ne eqmK_eq eqmK_ne eqzK_eq eqzK_ne eqzK_sl eqzK_vs un1K_pl convK_int fillK_some fillA_cons fillA_nil cellsK_some needK_true needK_ok seeK_ep seeK_ptr oneK_agg oneK_one nilcK_ptr nilcK_ep fadrK_ptr fadrK_ep fldK_ag iadAK_ptr iadAK_ep iadSK_sl iadSK_vs extK_0 extK_1 extK_2 extK_3 lenK_pl lenK_sl lenK_vs lensK_pl boxK_some minmax1K_int storeK_ptr callvK_fn callvK_pl newsK_nil newsK_vs newsK_sl appK_nil appK_nil0 appK_sl appK_vs bnd1K_int bndK_none bndK_some slsK_vs slsK_nil slsK_sl0 slsK_sl slstrK_pl boolK_some eqsK_ag iop_eqs iop_sls iop_slstr seesK_some seesK_ro mapsK_some MAP_some findK_some findK_none plK_pl nmapK_none nmapK_some iop_mlook iop_mlen iop_mmk iop_mupd iop_mdel iop_mrng itK_none itK_some ptr0K_ptr iop_mnxt iop_ment it1K_some entK_some iop_mov iop_pick iop_bin iop_eqb iop_eqp iop_eqm iop_eqz iop_un capK_pl capK_sl capK_vs iop_cap apzK_nil iop_apz mksK_int iop_mks clrK_sl clrK_vs clrK_nil iop_clr iop_conv iop_build iop_load iop_nilc iop_fadr iop_fld iop_iadA iop_iadS iop_ext iop_mkf iop_len iop_lens iop_minmax iop_al iop_box iop_bsl iop_store iop_call iop_callv iop_app BIN_add BIN_sub BIN_mul BIN_and BIN_or BIN_xor BIN_andNot BIN_eql BIN_neq BIN_lss BIN_leq BIN_gtr BIN_geq BIN_quo BIN_rem BIN_shl BIN_shr BIN_sadd BIN_seql BIN_sneq BIN_slss BIN_sleq BIN_sgtr BIN_sgeq UN_neg UN_xor UN_not MM_nil MM_cons partsA argsA ptrA lessL eqL min2I slotN_int slotP_int slotI_int
attribute [local simp] oc_len oc_tt oc_dd oc_one oc_ag oc_t1 oc_t2 oc_t3 oc_t4 oc_t5 oc_t6 oc_t7 oc_d1 oc_d2 oc_d3 oc_d4 oc_d5 oc_d6 oc_d7 opq_len opq_tt opq_dd opq_one opq_ag opq_t1 opq_t2 opq_t3 opq_t4 opq_t5 opq_t6 opq_t7 opq_t8 opq_d1 opq_d2 opq_d3 opq_d4 opq_d5 opq_d6 opq_d7 opq_d8 rc_len rc_t4 rc_t1 rc_t2 rc_t3 rc_d1 rc_d2 rc_d3 rc_d4 rc_ag rc_one rc_eq min2_t min2_f

theorem rowIn_box {H : AH} {v : Nat} {c d : AV} {out : AV} {L : List O} {X : AO} (hv : H v = some (.cells [c, d])) (h : LR H out L) : LR (upd H v X) out L := by
  rcases h with ⟨hl, ⟨h0, rfl⟩ | ⟨r, f, rfl, hr⟩⟩
  · exact ⟨hl, .inl ⟨h0, rfl⟩⟩
  · refine ⟨hl, .inr ⟨r, f, rfl, ?_⟩⟩
    have : r ≠ v := by
      rintro rfl
      rw [hv] at hr
      injection hr with e; injection e with e
      have := congrArg List.length e
      rw [oc_flat_len] at this
      simp at this; omega
    simp only [upd_apply, if_neg this]; exact hr
def wdoE (L : List O) (x : Op) : Int := if x.k = 1 then wplE L x.o else if x.k = 2 then wdlE L x.nm else wmvE L x.nm x.x x.y
def wdoL (L : List O) (x : Op) : List O := if x.k = 1 then wplL L x.o else if x.k = 2 then wdlL L x.nm else wmvL L x.nm x.x x.y
theorem c8 {H : AH} {K : AV → AH → Prop} {x : AV} (L : List O) (o : Op) (hx : LR H x L) (hl : L.length ≤ 1000000)
    (hk : Back H (wdoL L o) (wdoE L o) K) : @AC Tryz.prog 8 [.ag [vb true, x], .ag (opq o)] H ⟨K⟩ := by
  have ox := hx.one
  refine AC_of (.forget ?_)
  refine call_c follows cf8_ok (by simp) ?_
  simp [ox]
  refine newK_of fun z hz => ?_
  simp
  refine newK_of fun zo hzo => ?_
  obtain ⟨n1, n2, hzo'⟩ := upd_none'.1 hzo
  simp [n2]
  refine newK_of fun v hv => ?_
  obtain ⟨n3, n4, hv1⟩ := upd_none'.1 hv
  obtain ⟨n5, n6, hv2⟩ := upd_none'.1 hv1
  simp [n2, n4, n6]
  have hS : Sub H (upd (upd (upd H z (.cells [vb true, x])) zo (.cells (opq o))) v (.cells [vb false, vnil])) := (((Sub.refl H).upd hz).upd hzo').upd hv2
  have h2z : (upd (upd (upd H z (.cells [vb true, x])) zo (.cells (opq o))) v (.cells [vb false, vnil])) z = some (.cells [vb true, x]) := by simp [upd_apply, n2, n6]
  have h2e : (upd (upd (upd H z (.cells [vb true, x])) zo (.cells (opq o))) v (.cells [vb false, vnil])) zo = some (.cells (opq o)) := by simp [upd_apply, n4]
  have h2v : (upd (upd (upd H z (.cells [vb true, x])) zo (.cells (opq o))) v (.cells [vb false, vnil])) v = some (.cells [vb false, vnil]) := by simp [upd_apply]
  generalize upd (upd (upd H z (.cells [vb true, x])) zo (.cells (opq o))) v (.cells [vb false, vnil]) = H2 at *
  have hx2 := hx.sub hS
  have ho : (⟨o.nm, o.w, o.h, o.rf, o.sc, o.tr, o.x, o.y⟩ : O) = o.o := rfl
  unfold wdoL wdoE at hk
  by_cases c1 : o.k = 1
  · simp only [if_pos c1] at hk
    simp [c1, h2e, h2z, h2v, ox, ho]
    refine c29 L o.o hx2 hl fun out H' hs hr => ?_
    have h3 := hs.at h2v
    have h4 := hr.one
    simp [h3, h4]
    exact ⟨_, Sub.refl _, hk out _ ((hS.trans hs).upd hv2) (rowIn_box h3 hr)⟩
  simp only [if_neg c1] at hk
  by_cases c2 : o.k = 2
  · simp only [if_pos c2] at hk
    simp [c2, h2e, h2z, h2v, ox]
    refine c30 L o.nm hx2 hl fun out H' hs hr => ?_
    have h3 := hs.at h2v
    have h4 := hr.one
    simp [h3, h4]
    exact ⟨_, Sub.refl _, hk out _ ((hS.trans hs).upd hv2) (rowIn_box h3 hr)⟩
  · simp only [if_neg c2] at hk
    simp [c1, c2, h2e, h2z, h2v, ox]
    refine c31 L o.nm o.x o.y hx2 hl fun out H' hs hr => ?_
    have h3 := hs.at h2v
    have h4 := hr.one
    simp [h3, h4]
    exact ⟨_, Sub.refl _, hk out _ ((hS.trans hs).upd hv2) (rowIn_box h3 hr)⟩
end Go.Proofs.YtidcajmbkbamcaaGreat
end

/-! The list of the reference is that of the program, in order: plain facts. Conditions: as each lemma states them. -/
section
namespace Go.Proofs.YtidcajmbkbamcaaGreat
open Go Go.Ab Go.RowKit
set_option linter.unusedSimpArgs false
set_option linter.unusedVariables false
set_option linter.unnecessarySimpa false

attribute [local simp] condK_true condK_false condK_not wpc_skip wpc_ret wpc_exit wpc_seq wpc_reg wpc_regD testA_bool wpc_cond wpc_block thenA_normal thenA_ret thenA_exit blockA_normal blockA_ret blockA_exit blockA_other endA_normal endA_ret ev_tmp' ev_const ev_func ev_global cv_int cv_bool cv_string cv_pointer cv_slice cv_agg cv_map put_some put_none wH_s setE_apply setE_env less_eq env_cons env_nil upd_upd upd_apply del_apply startA_eq cells_ag cells_sl one_sl cells_vs one_vs cells_ep one_ep cells_fn one_fn cells_int one_int cells_bool one_bool cells_string one_string cells_pointer one_pointer cells_slice one_slice cells_map one_map cells_agg resK_one resK_nil resK_two rvK_t rvK_c rvsK_nil rvsK_cons iseq_nil iseq_cons gdA_true gdA_false gdA_undef istep_free istep_guard istepV_free istepV_guard dseq_nil dseq_pu dseq_rd dseq_ef wpc_regT dtree_nil dtree_pu dtree_rd dtree_ef dtree_br chkAll_nil chkAll_cons andK_true pickK_true pickK_false pickK_tb pickK_fb bin2K_pl eqbK_eq eqbK_ne eqpK_eq eqpK_ne eqmK_eq eqmK_ne eqzK_eq eqzK_ne eqzK_sl eqzK_vs un1K_pl convK_int fillK_some fillA_cons fillA_nil cellsK_some needK_true needK_ok seeK_ep seeK_ptr oneK_agg oneK_one nilcK_ptr nilcK_ep fadrK_ptr fadrK_ep fldK_ag iadAK_ptr iadAK_ep iadSK_sl iadSK_vs extK_0 extK_1 extK_2 extK_3 lenK_pl lenK_sl lenK_vs lensK_pl boxK_some minmax1K_int storeK_ptr callvK_fn callvK_pl newsK_nil newsK_vs newsK_sl appK_nil appK_nil0 appK_sl appK_vs bnd1K_int bndK_none bndK_some slsK_vs slsK_nil slsK_sl0 slsK_sl slstrK_pl boolK_some eqsK_ag iop_eqs iop_sls iop_slstr seesK_some seesK_ro mapsK_some MAP_some findK_some findK_none plK_pl nmapK_none nmapK_some iop_mlook iop_mlen iop_mmk iop_mupd iop_mdel iop_mrng itK_none itK_some ptr0K_ptr iop_mnxt iop_ment it1K_some entK_some iop_mov iop_pick iop_bin iop_eqb iop_eqp iop_eqm iop_eqz iop_un capK_pl capK_sl capK_vs iop_cap apzK_nil iop_apz mksK_int iop_mks clrK_sl clrK_vs clrK_nil iop_clr iop_conv iop_build iop_load iop_nilc iop_fadr iop_fld iop_iadA iop_iadS iop_ext iop_mkf iop_len iop_lens iop_minmax iop_al iop_box iop_bsl iop_store iop_call iop_callv iop_app BIN_add BIN_sub BIN_mul BIN_and BIN_or BIN_xor BIN_andNot BIN_eql BIN_neq BIN_lss BIN_leq BIN_gtr BIN_geq BIN_quo BIN_rem BIN_shl BIN_shr BIN_sadd BIN_seql BIN_sneq BIN_slss BIN_sleq BIN_sgtr BIN_sgeq UN_neg UN_xor UN_not MM_nil MM_cons partsA argsA ptrA lessL eqL min2I slotN_int slotP_int slotI_int

theorem bytesLess_iff : ∀ a b : List UInt8, Op.bytesLess a b = true ↔ a < b
  | [], [] => by simp [Op.bytesLess]
  | [], y :: b => by simp [Op.bytesLess]
  | x :: a, [] => by simp [Op.bytesLess]
  | x :: a, y :: b => by
    have ih := bytesLess_iff a b
    simp only [Op.bytesLess, List.cons_lt_cons_iff]
    by_cases h1 : x < y
    · simp [h1]
    · by_cases h2 : x = y
      · subst h2; simp [ih]
      · simp [h1, h2, ih]
theorem srtL_sorted (l : List (List UInt8)) : (srtL l).Pairwise fun x y => x ≤ y := by
  have := List.pairwise_mergeSort (le := fun x y : List UInt8 => decide (x ≤ y)) (fun a b c h1 h2 => by simp at *; exact List.le_trans h1 h2) (fun a b => by simpa using List.le_total a b) l
  exact this.imp fun h => by simpa using h
def Up (L : List O) : Prop := L.Pairwise fun a b => a.nm.toList ≤ b.nm.toList
theorem souts_uniq {m L : List O} (hn : (m.map okey).Nodup) (hp : L.Perm m) (hs : Up L) : L = souts m := by
  have h1 : L.map (fun o => o.nm.toList) = srtL (m.map fun o => o.nm.toList) := by
    refine List.Perm.eq_of_pairwise (le := fun x y => x ≤ y) (fun a b _ _ h1 h2 => List.le_antisymm h1 h2) ?_ (srtL_sorted _) ?_
    · exact List.pairwise_map.2 hs
    · exact (hp.map _).trans (List.mergeSort_perm _ _).symm
  unfold souts snames
  rw [← h1, List.map_map, List.map_map]
  conv => lhs; rw [← List.map_id L]
  refine List.map_congr_left fun o ho => ?_
  simp only [Function.comp, toB_toList]
  exact (look_of hn (hp.mem_iff.1 ho)).symm
theorem look_nm {m : List O} {s : ByteArray} (h : s ∈ m.map okey) : (look m s).nm = s := by
  rcases splitS okey s m with e | ⟨m1, x, m2, rfl, e1, e2⟩
  · obtain ⟨x, hx, rfl⟩ := List.mem_map.1 h
    exact absurd rfl (e x hx)
  · rw [look_mid e1 e2]; exact e2
theorem souts_up (m : List O) : Up (souts m) := by
  unfold Up souts
  rw [List.pairwise_map]
  have h1 : (snames m).Pairwise fun a b => a.toList ≤ b.toList := by
    unfold snames
    rw [List.pairwise_map]
    refine (srtL_sorted _).imp fun {a b} h => ?_
    have e : ∀ l : List UInt8, (toB l).toList = l := fun l => by rw [ByteArray.toList_eq]; rfl
    rw [e, e]; exact h
  refine List.Pairwise.imp_of_mem ?_ h1
  intro a b ha hb h
  rw [look_nm ((snames_perm m).mem_iff.1 ha), look_nm ((snames_perm m).mem_iff.1 hb)]
  exact h
theorem oins_perm (o : O) : ∀ l, (oins o l).Perm (o :: l)
  | [] => .refl _
  | x :: t => by
    unfold oins
    split
    · exact .refl _
    · exact ((oins_perm o t).cons x).trans (List.Perm.swap ..)
theorem oins_up (o : O) : ∀ l, Up l → Up (oins o l)
  | [], _ => by simp [oins, Up]
  | x :: t, h => by
    obtain ⟨h1, h2⟩ := List.pairwise_cons.1 h
    unfold oins
    split
    · rename_i c
      have hlt : o.nm.toList < x.nm.toList := (bytesLess_iff _ _).1 c
      have hle : o.nm.toList ≤ x.nm.toList := List.le_of_lt hlt
      refine List.pairwise_cons.2 ⟨fun y hy => ?_, h⟩
      rcases List.mem_cons.1 hy with rfl | hy
      · exact hle
      · exact List.le_trans hle (h1 y hy)
    · rename_i c
      have hle : x.nm.toList ≤ o.nm.toList := by
        have : ¬ o.nm.toList < x.nm.toList := fun e => c ((bytesLess_iff _ _).2 e)
        exact List.not_lt.1 this
      refine List.pairwise_cons.2 ⟨fun y hy => ?_, oins_up o t h2⟩
      rcases List.mem_cons.1 ((oins_perm o t).mem_iff.1 hy) with rfl | hy
      · exact hle
      · exact h1 y hy
end Go.Proofs.YtidcajmbkbamcaaGreat
end

/-! The reference's calls do what the program's do: plain facts. Conditions: as each lemma states them. -/
section
namespace Go.Proofs.YtidcajmbkbamcaaGreat
open Go Go.Ab Go.RowKit
set_option linter.unusedSimpArgs false
set_option linter.unusedVariables false
set_option linter.unnecessarySimpa false

attribute [local simp] condK_true condK_false condK_not wpc_skip wpc_ret wpc_exit wpc_seq wpc_reg wpc_regD testA_bool wpc_cond wpc_block thenA_normal thenA_ret thenA_exit blockA_normal blockA_ret blockA_exit blockA_other endA_normal endA_ret ev_tmp' ev_const ev_func ev_global cv_int cv_bool cv_string cv_pointer cv_slice cv_agg cv_map put_some put_none wH_s setE_apply setE_env less_eq env_cons env_nil upd_upd upd_apply del_apply startA_eq cells_ag cells_sl one_sl cells_vs one_vs cells_ep one_ep cells_fn one_fn cells_int one_int cells_bool one_bool cells_string one_string cells_pointer one_pointer cells_slice one_slice cells_map one_map cells_agg resK_one resK_nil resK_two rvK_t rvK_c rvsK_nil rvsK_cons iseq_nil iseq_cons gdA_true gdA_false gdA_undef istep_free istep_guard istepV_free istepV_guard dseq_nil dseq_pu dseq_rd dseq_ef wpc_regT dtree_nil dtree_pu dtree_rd dtree_ef dtree_br chkAll_nil chkAll_cons andK_true pickK_true pickK_false pickK_tb pickK_fb bin2K_pl eqbK_eq eqbK_ne eqpK_eq eqpK_ne eqmK_eq eqmK_ne eqzK_eq eqzK_ne eqzK_sl eqzK_vs un1K_pl convK_int fillK_some fillA_cons fillA_nil cellsK_some needK_true needK_ok seeK_ep seeK_ptr oneK_agg oneK_one nilcK_ptr nilcK_ep fadrK_ptr fadrK_ep fldK_ag iadAK_ptr iadAK_ep iadSK_sl iadSK_vs extK_0 extK_1 extK_2 extK_3 lenK_pl lenK_sl lenK_vs lensK_pl boxK_some minmax1K_int storeK_ptr callvK_fn callvK_pl newsK_nil newsK_vs newsK_sl appK_nil appK_nil0 appK_sl appK_vs bnd1K_int bndK_none bndK_some slsK_vs slsK_nil slsK_sl0 slsK_sl slstrK_pl boolK_some eqsK_ag iop_eqs iop_sls iop_slstr seesK_some seesK_ro mapsK_some MAP_some findK_some findK_none plK_pl nmapK_none nmapK_some iop_mlook iop_mlen iop_mmk iop_mupd iop_mdel iop_mrng itK_none itK_some ptr0K_ptr iop_mnxt iop_ment it1K_some entK_some iop_mov iop_pick iop_bin iop_eqb iop_eqp iop_eqm iop_eqz iop_un capK_pl capK_sl capK_vs iop_cap apzK_nil iop_apz mksK_int iop_mks clrK_sl clrK_vs clrK_nil iop_clr iop_conv iop_build iop_load iop_nilc iop_fadr iop_fld iop_iadA iop_iadS iop_ext iop_mkf iop_len iop_lens iop_minmax iop_al iop_box iop_bsl iop_store iop_call iop_callv iop_app BIN_add BIN_sub BIN_mul BIN_and BIN_or BIN_xor BIN_andNot BIN_eql BIN_neq BIN_lss BIN_leq BIN_gtr BIN_geq BIN_quo BIN_rem BIN_shl BIN_shr BIN_sadd BIN_seql BIN_sneq BIN_slss BIN_sleq BIN_sgtr BIN_sgeq UN_neg UN_xor UN_not MM_nil MM_cons partsA argsA ptrA lessL eqL min2I slotN_int slotP_int slotI_int

theorem fnd_has (L : List O) (s : ByteArray) : (0 ≤ fndF s L 0 ↔ has L s = true) ∧ (fndF s L 0 < 0 ↔ has L s = false) := by
  rcases fndF_spec (s := s) L 0 with ⟨h1, h2⟩ | ⟨L1, e, L2, rfl, h1, h3, h4⟩
  · rw [h1, has_none h2]; simp
  · rw [h1, has_mid h3]; simp
theorem has_perm {L m : List O} (h : L.Perm m) (s : ByteArray) : has L s = has m s := h.any_eq
def hit (o x : O) : Bool := !rempty (rcap (lg x) (lg o))
theorem ovk_all (o : O) (k : Int) : ∀ (L : List O) (j : Int), k < j → ovkF o k L j = L.any (hit o)
  | [], _, _ => rfl
  | x :: L, j, h => by
    unfold ovkF
    rw [ovk_all o k L (j + 1) (by omega), List.any_cons]
    have hj : j ≠ k := by omega
    cases hc : rempty (rcap (lg x) (lg o)) <;> simp [hit, hc, hj]
theorem ovk_mid (o e : O) (L2 : List O) : ∀ (L1 : List O) (j : Int), ovkF o (j + L1.length) (L1 ++ e :: L2) j = (L1 ++ L2).any (hit o)
  | [], j => by
    simp only [List.nil_append, ovkF]
    rw [if_neg (by simp)]
    exact ovk_all o _ L2 _ (by simp; omega)
  | x :: L1, j => by
    have ih := ovk_mid o e L2 L1 (j + 1)
    have e1 : j + ((x :: L1).length : Int) = j + 1 + (L1.length : Int) := by simp; omega
    rw [e1]
    simp only [List.cons_append, ovkF, List.any_cons]
    rw [ih]
    have hj : j ≠ j + 1 + (L1.length : Int) := by omega
    cases hc : rempty (rcap (lg x) (lg o)) <;> simp [hit, hc, hj]
theorem skp_all (k : Int) : ∀ (L : List O) (j : Int), k < j → skp k L j = L
  | [], _, _ => rfl
  | x :: L, j, h => by
    unfold skp
    rw [if_neg (by omega), skp_all k L (j + 1) (by omega)]
theorem skp_mid (e : O) (L2 : List O) : ∀ (L1 : List O) (j : Int), skp (j + L1.length) (L1 ++ e :: L2) j = L1 ++ L2
  | [], j => by
    simp only [List.nil_append, skp]
    rw [if_pos (by simp)]
    exact skp_all _ L2 _ (by simp; omega)
  | x :: L1, j => by
    have ih := skp_mid e L2 L1 (j + 1)
    have e1 : j + ((x :: L1).length : Int) = j + 1 + (L1.length : Int) := by simp; omega
    rw [e1]
    simp only [List.cons_append, skp]
    rw [if_neg (by omega), ih]
theorem hit_ovT {o x : O} (h : x.nm ≠ o.nm) : hit o x = ovT o x := by simp [hit, ovT, h, rcap_comm]
theorem any_hit {m : List O} {o : O} (h : ∀ x ∈ m, x.nm ≠ o.nm) : m.any (hit o) = ovl m o := by
  rw [ovl, Bool.eq_iff_iff, List.any_eq_true, List.any_eq_true]
  constructor
  · rintro ⟨x, hx, e⟩; exact ⟨x, hx, by rw [← hit_ovT (h x hx)]; exact e⟩
  · rintro ⟨x, hx, e⟩; exact ⟨x, hx, by rw [hit_ovT (h x hx)]; exact e⟩
theorem step_plug {m : List O} (hi : Inv m) (o : O) : wplE (souts m) o = plugE m o ∧ wplL (souts m) o = souts (plugM m o) := by
  have hp := souts_perm hi.nd
  have hE : wplE (souts m) o = plugE m o := by
    unfold wplE plugE
    by_cases c1 : chk o = 0
    · simp only [c1, ne_eq, not_true_eq_false, if_false]
      have hh := (fnd_has (souts m) o.nm).1
      rw [has_perm hp] at hh
      by_cases c2 : has m o.nm = true
      · rw [if_pos (hh.2 c2), if_pos c2]
      · rw [if_neg (fun e => c2 (hh.1 e)), if_neg c2, ovk_all o (-1) _ 0 (by omega), hp.any_eq, any_hit (has_false (by simpa using c2)), souts_len]
    · rw [if_pos c1, if_pos c1]
  refine ⟨hE, ?_⟩
  unfold wplL
  rw [hE]
  have hi2 := hi.plug (o := o)
  unfold plugM at *
  split
  · rename_i c
    rw [if_pos c] at hi2
    exact souts_uniq hi2.nd ((oins_perm o _).trans ((hp.cons o).trans (by simpa using (List.perm_append_comm (l₁ := [o]) (l₂ := m))))) (oins_up o _ (souts_up m))
  · rfl
theorem step_del {m : List O} (hi : Inv m) (s : ByteArray) : wdlE (souts m) s = delE m s ∧ wdlL (souts m) s = souts (delM m s) := by
  have hp := souts_perm hi.nd
  have hh := (fnd_has (souts m) s).2
  rw [has_perm hp] at hh
  constructor
  · unfold wdlE delE
    cases c : has m s with
    | true => rw [if_neg (fun e => by rw [hh.1 e] at c; cases c)]; rfl
    | false => rw [if_pos (hh.2 c)]; rfl
  · unfold wdlL
    rcases fndF_spec (s := s) (souts m) 0 with ⟨h1, h2⟩ | ⟨L1, e, L2, hL, h1, h3, h4⟩
    · rw [if_pos (by omega), delM_none fun x hx => h2 x (hp.mem_iff.2 hx)]
    · rw [if_neg (by omega), h1, hL, skp_mid]
      have hn : ((L1 ++ e :: L2).map okey).Nodup := by rw [← hL]; exact (hp.map okey).nodup_iff.2 hi.nd
      have hd := delM_mid hn h3
      refine souts_uniq (hi.del s).nd ?_ ?_
      · rw [← hd, ← hL]; exact hp.filter _
      · rw [← hd, ← hL]; exact (souts_up m).filter _
theorem step_mov {m : List O} (hi : Inv m) (s : ByteArray) (x y : Int) : wmvE (souts m) s x y = movE m s x y ∧ wmvL (souts m) s x y = souts (movM m s x y) := by
  have hp := souts_perm hi.nd
  have hh := (fnd_has (souts m) s).2
  rw [has_perm hp] at hh
  have hnL : ((souts m).map okey).Nodup := (hp.map okey).nodup_iff.2 hi.nd
  rcases fndF_spec (s := s) (souts m) 0 with ⟨h1, h2⟩ | ⟨L1, e, L2, hL, h1, h3, h4⟩
  · have c : has m s = false := hh.1 (by omega)
    have e1 : wmvE (souts m) s x y = 8 := by rw [wmvE, if_pos (by omega)]
    have e2 : movE m s x y = 8 := by rw [movE, if_pos c]
    exact ⟨by rw [e1, e2], by rw [wmvL, if_neg (by rw [e1]; decide), movM, if_neg (by rw [e2]; decide)]⟩
  · have c : has m s = true := by
      cases c : has m s with
      | true => rfl
      | false => have := hh.2 c; omega
    have he : e ∈ m := hp.mem_iff.1 (by rw [hL]; simp)
    have k1 : look (souts m) s = e := by rw [hL]; exact look_mid h4 h3
    have k2 : look m s = e := by rw [← h3]; exact look_of hi.nd he
    rw [Int.zero_add] at h1
    have hov : ovkF (at_ e x y) (L1.length : Int) (souts m) 0 = ovl m (at_ e x y) := by
      have h5 := ovk_mid (at_ e x y) e L2 L1 0
      rw [Int.zero_add] at h5
      rw [hL, h5]
      have hn := hnL
      rw [hL] at hn
      simp only [List.map_append, List.map_cons] at hn
      rw [List.nodup_append] at hn
      obtain ⟨n1, n2, n3⟩ := hn
      rw [List.nodup_cons] at n2
      have a1 : ∀ z ∈ L1 ++ L2, z.nm ≠ (at_ e x y).nm := by
        intro z hz e5
        rcases List.mem_append.1 hz with hz | hz
        · exact n3 _ (List.mem_map.2 ⟨z, hz, rfl⟩) (okey e) (by simp) e5
        · exact n2.1 (List.mem_map.2 ⟨z, hz, e5⟩)
      rw [any_hit a1]
      have : ovl m (at_ e x y) = ovl (souts m) (at_ e x y) := (hp.any_eq).symm
      rw [this, hL, ovl, ovl, List.any_append, List.any_append, List.any_cons]
      have : ovT (at_ e x y) e = false := by simp [ovT, at_]
      rw [this, Bool.false_or]
    have hE : wmvE (souts m) s x y = movE m s x y := by
      have a1 : ¬ fndF s (souts m) 0 < 0 := by omega
      have a2 : ¬ has m s = false := by rw [c]; decide
      simp only [wmvE, movE, if_neg a1, if_neg a2, k1, k2]
      rw [h1, hov]
    refine ⟨hE, ?_⟩
    have hi2 := hi.mov s x y
    unfold wmvL
    rw [hE]
    unfold movM at *
    split
    · rename_i c2
      rw [if_pos c2] at hi2
      rw [k1, h1]
      have hset : (souts m).set ((L1.length : Int)).toNat (at_ e x y) = L1 ++ at_ e x y :: L2 := by rw [hL]; simp
      have hmap : (souts m).map (fun o => if o.nm = s then at_ o x y else o) = L1 ++ at_ e x y :: L2 := by
        have hn := hnL
        rw [hL] at hn ⊢
        rw [← h3]
        exact mov_mid hn
      rw [hset, ← hmap]
      refine souts_uniq hi2.nd (hp.map _) ?_
      unfold Up
      rw [List.pairwise_map]
      refine (souts_up m).imp fun {a b} h => ?_
      have e6 : ∀ o : O, (if o.nm = s then at_ o x y else o).nm = o.nm := fun o => by split <;> rfl
      rw [e6, e6]; exact h
    · rfl
theorem step_do {m : List O} (hi : Inv m) (x : Op) : wdoE (souts m) x = doE m x ∧ wdoL (souts m) x = souts (doM m x) := by
  unfold wdoE wdoL doE doM
  by_cases c1 : x.k = 1
  · simp only [if_pos c1]; exact step_plug hi _
  · simp only [if_neg c1]
    by_cases c2 : x.k = 2
    · simp only [if_pos c2]; exact step_del hi _
    · simp only [if_neg c2]; exact step_mov hi _ _ _
end Go.Proofs.YtidcajmbkbamcaaGreat
end
