/-
  The layout: its map of outputs, their names in order, the outputs. Conditions: as each lemma states them.
-/
import Derived.Test.YtidcajmbkbamcaaO6
import Derived.Test.YtidcajmbkbamcaaAbM
import Derived.Test.YtidcajmbkbamcaaAbN
import Derived.Test.YtidcajmbkbamcaaAbS
import Derived.Test.YtidcajmbkbamcaaShelf
namespace Go.Proofs.Ytidcajmbkbamcaa
open Go Go.Ab Go.RowKit
set_option linter.unusedSimpArgs false
set_option linter.unusedVariables false
set_option linter.unnecessarySimpa false

attribute [local simp] condK_true condK_false condK_not wpc_skip wpc_ret wpc_exit wpc_seq wpc_reg wpc_regD testA_bool wpc_cond wpc_block thenA_normal thenA_ret thenA_exit blockA_normal blockA_ret blockA_exit blockA_other endA_normal endA_ret ev_tmp' ev_const ev_func ev_global cv_int cv_bool cv_string cv_pointer cv_slice cv_agg put_some put_none wH_s setE_apply setE_env less_eq env_cons env_nil upd_upd upd_apply del_apply startA_eq cells_ag cells_sl one_sl cells_vs one_vs cells_ep one_ep cells_fn one_fn cells_int one_int cells_bool one_bool cells_string one_string cells_pointer one_pointer cells_slice one_slice cells_map one_map cells_agg resK_one resK_nil resK_two rvK_t rvK_c rvsK_nil rvsK_cons iseq_nil iseq_cons gdA_true gdA_false gdA_undef istep_free istep_guard istepV_free istepV_guard dseq_nil dseq_pu dseq_rd dseq_ef chkAll_nil chkAll_cons andK_true pickK_true pickK_false pickK_tb pickK_fb bin2K_pl eqbK_eq eqbK_ne eqpK_eq eqpK_ne un1K_pl convK_int fillK_some fillA_cons fillA_nil cellsK_some needK_true needK_ok seeK_ep seeK_ptr oneK_agg oneK_one nilcK_ptr nilcK_ep fadrK_ptr fadrK_ep fldK_ag iadAK_ptr iadAK_ep iadSK_sl iadSK_vs extK_0 extK_1 extK_2 extK_3 lenK_pl lenK_sl lenK_vs lensK_pl boxK_some minmax1K_int storeK_ptr callvK_fn callvK_pl newsK_nil newsK_vs newsK_sl appK_nil appK_nil0 appK_sl appK_vs bnd1K_int bndK_none bndK_some slsK_vs slsK_nil slsK_sl0 slsK_sl slstrK_pl boolK_some eqsK_ag iop_eqs iop_sls iop_slstr seesK_some seesK_ro mapsK_some MAP_some findK_some findK_none plK_pl nmapK_none nmapK_some iop_mlook iop_mlen iop_mmk iop_mupd iop_mdel iop_mrng itK_none itK_some ptr0K_ptr iop_mnxt iop_ment it1K_some entK_some iop_mov iop_pick iop_bin iop_eqb iop_eqp iop_un iop_conv iop_build iop_load iop_nilc iop_fadr iop_fld iop_iadA iop_iadS iop_ext iop_mkf iop_len iop_lens iop_minmax iop_al iop_box iop_bsl iop_store iop_call iop_callv iop_app BIN_add BIN_sub BIN_mul BIN_and BIN_or BIN_xor BIN_andNot BIN_eql BIN_neq BIN_lss BIN_leq BIN_gtr BIN_geq BIN_quo BIN_rem BIN_shl BIN_shr BIN_sadd BIN_seql BIN_sneq BIN_slss BIN_sleq BIN_sgtr BIN_sgeq UN_neg UN_xor UN_not MM_nil MM_cons partsA argsA ptrA lessL eqL min2I slotN_int slotP_int slotI_int

theorem oc_len (r : O) : (oc r).length = 8 := rfl
theorem oc_tt (r : O) : (oc r).take 8 = oc r := rfl
theorem oc_dd (r : O) : (oc r).drop 8 = [] := rfl
theorem oc_one (r : O) : (oc r).all AV.one = true := rfl
theorem oc_t1 (r : O) : (oc r).take 1 = [vs8 r.nm] := rfl
theorem oc_d1 (r : O) : (oc r).tail = [vi r.w, vi r.h, vi r.rf, vi r.sc, vi r.tr, vi r.x, vi r.y] := rfl
theorem oc_t2 (r : O) : (oc r).take 2 = [vs8 r.nm, vi r.w] := rfl
theorem oc_d2 (r : O) : (oc r).drop 2 = [vi r.h, vi r.rf, vi r.sc, vi r.tr, vi r.x, vi r.y] := rfl
theorem oc_t3 (r : O) : (oc r).take 3 = [vs8 r.nm, vi r.w, vi r.h] := rfl
theorem oc_d3 (r : O) : (oc r).drop 3 = [vi r.rf, vi r.sc, vi r.tr, vi r.x, vi r.y] := rfl
theorem oc_t4 (r : O) : (oc r).take 4 = [vs8 r.nm, vi r.w, vi r.h, vi r.rf] := rfl
theorem oc_d4 (r : O) : (oc r).drop 4 = [vi r.sc, vi r.tr, vi r.x, vi r.y] := rfl
theorem oc_t5 (r : O) : (oc r).take 5 = [vs8 r.nm, vi r.w, vi r.h, vi r.rf, vi r.sc] := rfl
theorem oc_d5 (r : O) : (oc r).drop 5 = [vi r.tr, vi r.x, vi r.y] := rfl
theorem oc_t6 (r : O) : (oc r).take 6 = [vs8 r.nm, vi r.w, vi r.h, vi r.rf, vi r.sc, vi r.tr] := rfl
theorem oc_d6 (r : O) : (oc r).drop 6 = [vi r.x, vi r.y] := rfl
theorem oc_t7 (r : O) : (oc r).take 7 = [vs8 r.nm, vi r.w, vi r.h, vi r.rf, vi r.sc, vi r.tr, vi r.x] := rfl
theorem oc_d7 (r : O) : (oc r).drop 7 = [vi r.y] := rfl
theorem oc_ag (c0 : ByteArray) (c1 : Int) (c2 : Int) (c3 : Int) (c4 : Int) (c5 : Int) (c6 : Int) (c7 : Int) : AV.ag [vs8 c0, vi c1, vi c2, vi c3, vi c4, vi c5, vi c6, vi c7] = .ag (oc ⟨c0, c1, c2, c3, c4, c5, c6, c7⟩) := rfl
attribute [local simp] oc_len oc_tt oc_dd oc_one oc_ag oc_t1 oc_t2 oc_t3 oc_t4 oc_t5 oc_t6 oc_t7 oc_d1 oc_d2 oc_d3 oc_d4 oc_d5 oc_d6 oc_d7
abbrev okey (o : O) : ByteArray := o.nm
abbrev oval (o : O) : AV := .ag (oc o)
/-- The object, its map, the map's entries. -/
structure LS (H : AH) (p b : Nat) (m : List O) (st : List Nat) (cl : Nat) : Prop where
  ob : H p = some (.cells [vb true, .pl (.map (some b))])
  mp : H b = some (.map (mS okey oval m) st cl)
  ne : p ≠ b
  nd : (m.map okey).Nodup
  stp : Stp st cl m.length
theorem LS.sub {H H' : AH} {p b : Nat} {m : List O} {st : List Nat} {cl : Nat} (h : LS H p b m st cl) (hs : Sub H H') : LS H' p b m st cl := ⟨hs _ _ h.ob, hs _ _ h.mp, h.ne, h.nd, h.stp⟩
def upo (H : AH) (b : Nat) (m : List O) (st : List Nat) (cl : Nat) : AH := upd H b (.map (mS okey oval m) st cl)
theorem LS.new {H : AH} {p b : Nat} {m m' : List O} {st st' : List Nat} {cl cl' : Nat} (h : LS H p b m st cl) (nd : (m'.map okey).Nodup) (stp : Stp st' cl' m'.length) : LS (upo H b m' st' cl') p b m' st' cl' :=
  ⟨by simp only [upo, upd_apply, if_neg h.ne]; exact h.ob, by simp only [upo, upd_apply, if_true], h.ne, nd, stp⟩
theorem upd_self {H : AH} {b : Nat} {o : AO} (h : H b = some o) : upd H b o = H := by
  funext j; simp only [upd_apply]; split
  · rename_i e; rw [e, h]
  · rfl
theorem LS.self {H : AH} {p b : Nat} {m : List O} {st : List Nat} {cl : Nat} (h : LS H p b m st cl) : upo H b m st cl = H := upd_self h.mp
theorem c36 {H : AH} {K : AV → AH → Prop} {p b : Nat} {m : List O} {st : List Nat} {cl : Nat} (h : LS H p b m st cl) (hk : K (vb true) H) : @AC Try.prog 36 [pA p] H ⟨K⟩ := by
  have h1 := h.ob
  refine call_c follows cf36_ok (by simp) ?_
  simp [*]
theorem c27 {H : AH} {K : AV → AH → Prop} (hk : ∀ p b, H p = none → H b = none → LS (upd (upd H b (.map [] [] 0)) p (.cells [vb true, .pl (.map (some b))])) p b [] [] 0 → K (pA p) (upd (upd H b (.map [] [] 0)) p (.cells [vb true, .pl (.map (some b))]))) :
    @AC Try.prog 27 [] H ⟨K⟩ := by
  refine call_c follows cf27_ok (by simp) ?_
  simp
  refine newK_of fun b hb => ?_
  simp
  refine newK_of fun p hp => ?_
  obtain ⟨n1, n2, hp⟩ := upd_none'.1 hp
  simp
  exact hk p b hp hb ⟨by simp [upd_apply], by simp [upd_apply, n2, mS], n1, .nil, .nil⟩
/-- The names of the outputs, in order. -/
def snames (m : List O) : List ByteArray := (srtL (m.map fun o => o.nm.toList)).map toB
theorem snames_len (m : List O) : (snames m).length = m.length := by simp [snames, srtL]
theorem snames_of {l : List ByteArray} {m : List O} (h : l.Perm (m.map okey)) : (srtL (l.map (·.toList))).map toB = snames m := by
  unfold snames
  rw [srtL_perm (h.map _), List.map_map]
  rfl
theorem rowC_names (l : List ByteArray) : rowC encStr [] (l.map (·.toList)) [] = l.map vs8 := by
  simp only [rowC, List.nil_append, List.append_nil, List.map_map]
  refine List.map_congr_left fun b _ => ?_
  show AV.pl (.string ⟨b.toList.toArray⟩) = vs8 b
  rw [ByteArray.toList_eq]
theorem rowC_names' (z : List (List UInt8)) : rowC encStr [] z [] = (z.map toB).map vs8 := by
  simp only [rowC, List.nil_append, List.append_nil, List.map_map]
  rfl
def allO (x : O) : Bool := true
theorem c37 {H : AH} {K : AV → AH → Prop} {p b : Nat} {m : List O} {st : List Nat} {cl : Nat} (h : LS H p b m st cl) (hm : m.length ≤ 1000000)
    (hk : ∀ out H', Row H H' out ((snames m).map vs8) m.length 1 → K out H') : @AC Try.prog 37 [pA p] H ⟨K⟩ := by
  have h1 := h.ob
  have h2 := h.mp
  refine AC_of (.forget ?_)
  refine call_c follows cf37_ok (by simp) ?_
  simp [*]
  refine newK_of fun it hit => ?_
  have hbi : b ≠ it := ne_of_free h2 hit
  simp
  refine wpc_loop (fun s => ∃ (seen : List Nat) (out : AV) (l : List ByteArray), s.n = 21 ∧ s.t 3 = out ∧ s.t 9 = pA it ∧ Row (upd H it (.it b cl cl seen)) s.H out (l.map vs8) l.length 1 ∧ l.Perm ((vis allO m st seen).map okey))
    (fun s => left st (slotSn s.H it)) ?_ ?_
  · refine FgK.same ⟨[], vnil, [], by simp, by simp, by simp, Row.nil _ 1, ?_⟩
    rw [vis_nil]; exact .refl _
  rintro s ⟨seen, out, l, hn, e3, e9, hrow, hperm⟩
  have hsub := hrow.sub
  have hHi : s.H it = some (.it b cl cl seen) := hsub _ _ (by simp [upd_apply])
  have hHb : s.H b = some (.map (mS okey oval m) st cl) := hsub _ _ (by simp [upd_apply, hbi, h2])
  have hms : left st (slotSn s.H it) = left st seen := by rw [slotSn_of hHi]
  simp [hn, e3, e9, hHi, hHb]
  refine nextK_of h.stp.2.2 (Nat.le_refl _) (fun hall => ?_) (fun j e s1 hj hs1 hns => ?_)
  · have hp2 : l.Perm (m.map okey) := by
      have e := vis_all allO m st seen h.stp.1.symm hall
      rw [e] at hperm
      have : m.filter allO = m := List.filter_eq_self.2 fun _ _ => rfl
      rwa [this] at hperm
    have hln : l.length = m.length := by simpa using hp2.length_eq
    have hnm := snames_of hp2
    have hsubH : Sub H (upd H it (.it b cl cl seen)) := (Sub.refl H).upd hit
    rcases hrow with ⟨f1, f2, rfl, f4⟩ | ⟨q, rfl, hq, hsH⟩
    · obtain rfl : l = [] := by simpa using f2
      have : m.length = 0 := by simpa using hln.symm
      simp [hn, e3]
      refine AC_of (sort_nil Try.slices_Sort_string_none ?_)
      simp [hn, e3]
      refine ⟨H, by rw [f4]; exact hsubH, ?_⟩
      obtain rfl : m = [] := List.length_eq_zero_iff.1 this
      have e0 : snames ([] : List O) = [] := by simp [snames, srtL]
      exact hk vnil H (by rw [e0]; exact Row.nil H 1)
    · simp [hn, e3]
      have hq2 : H q = none ∧ q ≠ it := by
        have : q ≠ it := by rintro rfl; simp [upd_apply] at hq
        exact ⟨by simpa [upd_apply, this] using hq, this⟩
      refine AC_of ?_
      have hzl : (l.map (·.toList)).length = l.length := by simp
      rw [← hzl]
      refine sort_row (H := s.H) (enc := encStr) (b := q) (pre := []) (post := []) (zs := l.map (·.toList)) (fun blk off cap zs w => Try.slices_Sort_string blk off cap zs w) (by rw [hsH, rowC_names]; simp [upd_apply]) (by rw [hzl]; omega) ?_
      rw [rowC_names']
      have hnm' : ((l.map (·.toList)).mergeSort fun x y => decide (x ≤ y)).map toB = snames m := hnm
      rw [hnm']
      simp [hn, e3]
      refine ⟨upd H q (.cells ((snames m).map vs8)), ?_, ?_⟩
      · rw [hsH]
        intro j o hj
        simp only [upd_apply] at hj ⊢
        split
        · rename_i e; rw [if_pos e] at hj; exact hj
        · rename_i e
          rw [if_neg e] at hj
          rw [if_neg (by rintro rfl; rw [hit] at hj; cases hj)]
          exact hj
      · have := hk (.sl q 0 l.length 1 false) _ (by rw [hln]; exact Row.mk hq2.1)
        exact this
  · obtain ⟨x, hx, rfl⟩ : ∃ x, m[j]? = some x ∧ e = (.string (okey x), oval x) := by
      simp only [mS, List.getElem?_map, Option.map_eq_some_iff] at hj
      obtain ⟨x, h3, h4⟩ := hj
      exact ⟨x, h3, h4.symm⟩
    have he := entF_of (mS okey oval m) st j _ s1 h.stp.2.1 hj hs1
    have hst := vis_step allO m st seen j x s1 h.stp.2.1 hx hs1 hns
    have hrow2 := hrow.turn (X' := .it b cl cl (s1 :: seen))
    have hlt := left_lt (List.mem_of_getElem? hs1) hns
    have hll : l.length ≤ m.length := by
      have h3 := hperm.length_eq
      have h4 := (vis_sub allO m st seen)
      simp at h3; omega
    have hIt : upd s.H it (.it b cl cl (s1 :: seen)) it = some (.it b cl cl (s1 :: seen)) := by simp [upd_apply]
    have hMp : upd s.H it (.it b cl cl (s1 :: seen)) b = some (.map (mS okey oval m) st cl) := by simp [upd_apply, hbi, hHb]
    simp [hn, e3, e9, hHb, hbi, he]
    refine newK_of fun z hz => ?_
    have hsz : Sub (upd s.H it (.it b cl cl (s1 :: seen))) (upd (upd s.H it (.it b cl cl (s1 :: seen))) z (.cells [vs8 x.nm])) := (Sub.refl _).upd hz
    try simp [hn, e3, e9]
    refine hrow2.app (by exact hsz) (by decide) rfl (by simp) (by omega) fun q H' hq hsq => ?_
    simp [hn, e3, e9]
    refine FgK.of _ hsq ⟨⟨s1 :: seen, .sl q 0 (l.length + 1) 1 false, l ++ [x.nm], by simp [hn], by simp, by simp [e9], ?_, ?_⟩, ?_⟩
    · have := Row.mk (cs := l.map vs8 ++ [vs8 x.nm]) (n := l.length + 1) (sz := 1) hq
      simpa using this
    · have h5 := hst.symm.map okey
      simp only [allO, if_true, List.map_append, List.map_cons, List.map_nil] at h5
      exact (hperm.append_right _).trans h5
    · have hqi : q ≠ it := by rintro rfl; simp [upd_apply] at hq
      rw [slotSn_of (m := b) (since := cl) (last := cl) (seen := s1 :: seen) (by simp [upd_apply, Ne.symm hqi]), hms]; exact hlt
end Go.Proofs.Ytidcajmbkbamcaa
