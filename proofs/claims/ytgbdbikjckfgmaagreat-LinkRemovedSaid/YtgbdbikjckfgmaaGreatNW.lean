/- Link: LinkPairs' walk. Printed by gen_nw.py. -/
import Derived.Test.YtgbdbikjckfgmaaGreatN2
namespace Go.Proofs.YtgbdbikjckfgmaaGreat
open Go.RowKit Go.Shelf

set_option maxRecDepth 100000 in
set_option maxHeartbeats 32000000 in
theorem linkPairs_thick (x : FV) (f : Fl) (w : World) (h : FlQ QR w x f) (ht : f.thin = false) :
    Calls Tryz.prog 3 #[.agg #[.slice x.oa f.no x.oc, .slice x.na f.nw x.nc, .slice x.ma f.nm x.mc]] w fun e w' => e = .returned (.bool true) ∧ Below w.heap.size w w' := by
  obtain ⟨oa, oc, na, nc, ma, mc⟩ := x
  have HTH := Lib.hid (thinW ⟨oa, oc, na, nc, ma, mc⟩ f w h false ht)
  clear h ht
  dsimp only at HTH ⊢
  generalize f.no = no at *
  generalize f.nw = nw at *
  generalize f.nm = nm at *
  have HA := Lib.hid ((BF.base w).alloc #[.slice oa no oc, .slice na nw nc, .slice ma nm mc] 25)
  go_enter Tryz.func3, Tryz.ntmps3
  have c0 := HA.out.cell (.head _) 0
  have c1 := HA.out.cell (.head _) 1
  have c2 := HA.out.cell (.head _) 2
  go_wp2_with fail
  refine (HTH.out _ HA.out.fr).mono ?_
  rintro _ w1 ⟨rfl, hb⟩
  have HA' := Lib.hid (HA.out.below hb)
  clear HA
  have HA := HA'
  clear HA'
  clear hb c0 c1 c2
  go_wp2_with fail
  refine (awake5_any _).mono ?_
  rintro _ w2 ⟨rfl, hb⟩
  have HA' := Lib.hid (HA.out.below hb)
  clear HA
  have HA := HA'
  clear HA'
  clear hb
  go_wp2_with fail
  go_ret
  exact ⟨rfl, HA.out.fr⟩
set_option maxRecDepth 100000 in
set_option maxHeartbeats 32000000 in
theorem linkPairs_bad (x : FV) (f : Fl) (w : World) (h : FlQ QR w x f) (ht : f.thin = true) (hf : f.fault ≠ 0) :
    Calls Tryz.prog 3 #[.agg #[.slice x.oa f.no x.oc, .slice x.na f.nw x.nc, .slice x.ma f.nm x.mc]] w fun e w' => e = .returned (.bool true) ∧ Below w.heap.size w w' := by
  obtain ⟨oa, oc, na, nc, ma, mc⟩ := x
  have HTH := Lib.hid (thinW ⟨oa, oc, na, nc, ma, mc⟩ f w h true ht)
  have HFI := Lib.hid (fileW ⟨oa, oc, na, nc, ma, mc⟩ f w h ht)
  have HCK := Lib.hid (checkW f ht f.fault rfl)
  have HPA : Hid (∀ (z : FV) X, FlQ QP X z f → Calls Tryz.prog 22 #[.agg #[.slice z.oa f.no z.oc, .slice z.na f.nw z.nc, .slice z.ma f.nm z.mc]] X fun e w' => e = .returned (.tuple #[.slice none 0 0, .int .i64 f.fault]) ∧ Below X.heap.size X w') := fun z X hq => pairs_bad z f X hq (by have := (thin_bd ht).1; omega) (by have := (thin_bd ht).2.1; omega) (by have := (thin_bd ht).2.2.1; omega) hf
  have HFA := Lib.hid (faultW ⟨oa, oc, na, nc, ma, mc⟩ f w h f.fault rfl)
  have kf : (f.fault != 0) = true := by simp [hf]
  have QK1 := Lib.hid QP.k
  clear h ht hf
  dsimp only at HTH HFI HFA ⊢
  generalize f.fault = ft at *
  generalize f.no = no at *
  generalize f.nw = nw at *
  generalize f.nm = nm at *
  have HA := Lib.hid ((BF.base w).alloc #[.slice oa no oc, .slice na nw nc, .slice ma nm mc] 25)
  go_enter Tryz.func3, Tryz.ntmps3
  have c0 := HA.out.cell (.head _) 0
  have c1 := HA.out.cell (.head _) 1
  have c2 := HA.out.cell (.head _) 2
  go_wp2_with fail
  refine (HTH.out _ HA.out.fr).mono ?_
  rintro _ w1 ⟨rfl, hb⟩
  have HA' := Lib.hid (HA.out.below hb)
  clear HA
  have HA := HA'
  clear HA'
  clear hb c0 c1 c2
  have c0 := HA.out.cell (.head _) 0
  have c1 := HA.out.cell (.head _) 1
  have c2 := HA.out.cell (.head _) 2
  go_wp2_with fail
  refine (HFI.out _ HA.out.fr).mono ?_
  rintro _ w2 ⟨z, rfl, hq, hb⟩
  have HA' := Lib.hid (HA.out.below hb)
  clear HA
  have HA := HA'
  clear HA'
  have HQ := Lib.hid hq
  clear hq hb c0 c1 c2
  go_wp2_with fail
  refine (HCK.out z _ HQ.out).mono ?_
  rintro _ w3 ⟨rfl, hb⟩
  have HA' := Lib.hid (HA.out.below hb)
  clear HA
  have HA := HA'
  clear HA'
  clear hb
  clear HQ
  have c0 := HA.out.cell (.head _) 0
  have c1 := HA.out.cell (.head _) 1
  have c2 := HA.out.cell (.head _) 2
  go_wp2_with fail
  refine (HFI.out _ HA.out.fr).mono ?_
  rintro _ w4 ⟨z, rfl, hq, hb⟩
  have HA' := Lib.hid (HA.out.below hb)
  clear HA
  have HA := HA'
  clear HA'
  have HQ := Lib.hid hq
  clear hq hb c0 c1 c2
  go_wp2_with fail
  refine (HPA.out z _ HQ.out).mono ?_
  rintro _ w5 ⟨rfl, hb⟩
  have HA' := Lib.hid (HA.out.below hb)
  clear HA
  have HA := HA'
  clear HA'
  clear hb
  clear HQ
  have c0 := HA.out.cell (.head _) 0
  have c1 := HA.out.cell (.head _) 1
  have c2 := HA.out.cell (.head _) 2
  go_wp2_with fail
  refine (HFA.out _ HA.out.fr).mono ?_
  rintro _ w6 ⟨rfl, hb⟩
  have HA' := Lib.hid (HA.out.below hb)
  clear HA
  have HA := HA'
  clear HA'
  clear hb c0 c1 c2
  go_wp2_with fail
  refine (awake5_any _).mono ?_
  rintro _ w7 ⟨rfl, hb⟩
  have HA' := Lib.hid (HA.out.below hb)
  clear HA
  have HA := HA'
  clear HA'
  clear hb
  go_wp2_with fail
  go_ret
  exact ⟨rfl, HA.out.fr⟩
set_option maxRecDepth 100000 in
set_option maxHeartbeats 32000000 in
theorem linkPairs_ok (x : FV) (f : Fl) (w : World) (h : FlQ QR w x f) (ht : f.thin = true) (hf : f.fault = 0) :
    Calls Tryz.prog 3 #[.agg #[.slice x.oa f.no x.oc, .slice x.na f.nw x.nc, .slice x.ma f.nm x.mc]] w fun e w' => e = .returned (.bool true) ∧ Below w.heap.size w w' := by
  obtain ⟨oa, oc, na, nc, ma, mc⟩ := x
  have OK := Lib.hid (Fl.ok hf)
  have hno := OK.out.no
  have hnw := OK.out.nw
  obtain ⟨i0, hi0, hz0, hz1, hz2⟩ := info_parts Tryz.infoPairR
  have HTH := Lib.hid (thinW ⟨oa, oc, na, nc, ma, mc⟩ f w h true ht)
  have HFI := Lib.hid (fileW ⟨oa, oc, na, nc, ma, mc⟩ f w h ht)
  have HCK := Lib.hid (checkW f ht 0 hf)
  have HPA : Hid (∀ (z : FV) X, FlQ QP X z f → Calls Tryz.prog 22 #[.agg #[.slice z.oa f.no z.oc, .slice z.na f.nw z.nc, .slice z.ma f.nm z.mc]] X (GivesP X (dL f.g f.nw f.no))) := fun z X hq => by rw [dL_g]; exact pairs_ok z f X hq hf
  have HFA := Lib.hid (faultW ⟨oa, oc, na, nc, ma, mc⟩ f w h 0 hf)
  have HGR := Lib.hid (graphedW ⟨oa, oc, na, nc, ma, mc⟩ f w h hf)
  have HLE := Lib.hid (fun i => dL_len f.g f.nw i)
  have HRE := Lib.hid (fun i k => dR_len f.g i k)
  have HIS := Lib.hid (fun i k X hi hk => is_any f.g i k X hi hk)
  unfold GivesP at HPA
  clear h ht hf OK
  dsimp only at HTH HFI HFA HGR ⊢
  generalize f.g = g at *
  generalize f.no = no at *
  generalize f.nw = nw at *
  generalize f.nm = nm at *
  have HA := Lib.hid ((BF.base w).alloc #[.slice oa no oc, .slice na nw nc, .slice ma nm mc] 25)
  go_enter Tryz.func3, Tryz.ntmps3
  have c0 := HA.out.cell (.head _) 0
  have c1 := HA.out.cell (.head _) 1
  have c2 := HA.out.cell (.head _) 2
  go_wp2_with fail
  refine (HTH.out _ HA.out.fr).mono ?_
  rintro _ w1 ⟨rfl, hb⟩
  have HA' := Lib.hid (HA.out.below hb)
  clear HA
  have HA := HA'
  clear HA'
  clear hb c0 c1 c2
  have c0 := HA.out.cell (.head _) 0
  have c1 := HA.out.cell (.head _) 1
  have c2 := HA.out.cell (.head _) 2
  go_wp2_with fail
  refine (HFI.out _ HA.out.fr).mono ?_
  rintro _ w2 ⟨z, rfl, hq, hb⟩
  have HA' := Lib.hid (HA.out.below hb)
  clear HA
  have HA := HA'
  clear HA'
  have HQ := Lib.hid hq
  clear hq hb c0 c1 c2
  go_wp2_with fail
  refine (HCK.out z _ HQ.out).mono ?_
  rintro _ w3 ⟨rfl, hb⟩
  have HA' := Lib.hid (HA.out.below hb)
  clear HA
  have HA := HA'
  clear HA'
  clear hb
  clear HQ
  have c0 := HA.out.cell (.head _) 0
  have c1 := HA.out.cell (.head _) 1
  have c2 := HA.out.cell (.head _) 2
  go_wp2_with fail
  refine (HFI.out _ HA.out.fr).mono ?_
  rintro _ w4 ⟨z, rfl, hq, hb⟩
  have HA' := Lib.hid (HA.out.below hb)
  clear HA
  have HA := HA'
  clear HA'
  have HQ := Lib.hid hq
  clear hq hb c0 c1 c2
  go_wp2_with fail
  refine (HPA.out z _ HQ.out).mono ?_
  rintro _ w5 ⟨pa, pc, rfl, hp, hb⟩
  have HA' := Lib.hid (HA.out.below hb)
  clear HA
  have HA := HA'
  clear HA'
  have HP := Lib.hid hp
  clear hp
  clear hb
  clear HQ
  have c0 := HA.out.cell (.head _) 0
  have c1 := HA.out.cell (.head _) 1
  have c2 := HA.out.cell (.head _) 2
  go_wp2_with fail
  refine (HFA.out _ HA.out.fr).mono ?_
  rintro _ w6 ⟨rfl, hb⟩
  have HA' := Lib.hid (HA.out.below hb)
  clear HA
  have HA := HA'
  clear HA'
  have HP' := Lib.hid (HP.out.below hb)
  clear HP
  have HP := HP'
  clear HP'
  clear hb c0 c1 c2
  have c0 := HA.out.cell (.head _) 0
  have c1 := HA.out.cell (.head _) 1
  have c2 := HA.out.cell (.head _) 2
  go_wp2_with fail
  refine (HGR.out _ HA.out.fr).mono ?_
  rintro _ w7 ⟨rfl, hb⟩
  have HA' := Lib.hid (HA.out.below hb)
  clear HA
  have HA := HA'
  clear HA'
  have HP' := Lib.hid (HP.out.below hb)
  clear HP
  have HP := HP'
  clear HP'
  clear hb c0 c1 c2
  have HS := Lib.hid (HA.out.alloc (a8 fun _ => 0) 40)
  have HGH := Lib.hid (HS.out.bk _ _ _ (.head _)).2
  have HGS := Lib.hid (graph_info (gI g))
  have HGZ : Hid ((a8 fun _ => (0 : Int)).size = (a8 (gI g)).size) := by unfold Hid; rw [a8_size, a8_size]
  have hb := below_setw (Below.refl w7.heap.size w7) #[.int .i64 0, .int .i64 0, .int .i64 0, .int .i64 0, .int .i64 0, .int .i64 0, .int .i64 0, .int .i64 0] (a8 (gI g)) 40
  have HA' : Hid (BF w ((w7.alloc (.cells #[.int .i64 0, .int .i64 0, .int .i64 0, .int .i64 0, .int .i64 0, .int .i64 0, .int .i64 0, .int .i64 0] 40)).setRow w7.heap.size (a8 (gI g))) [(w7.heap.size, a8 (gI g), 40), (w.heap.size, #[.slice oa no oc, .slice na nw nc, .slice ma nm mc], 25)]) := HA.out.setw _ _
  have HP' := Lib.hid (HP.out.below hb)
  clear HP
  have HP := HP'
  clear HP'
  clear HA hb
  have HA := HA'
  clear HA'
  go_wp2_with (first | (refine wpList_store_row (o := ⟨none, .store 40 (.tmp 7) (.tmp 43), _, _, _, _⟩) rfl 40 (.tmp 7) (.tmp 43) rfl w7.heap.size (a8 (gI g)) rfl rfl 40 (a8 fun _ => 0) HGH.out HGS.out HGZ.out (a8_one _) ?_) | (refine step_store_row (o := ⟨none, .store 40 (.tmp 7) (.tmp 43), _, _, _, _⟩) rfl 40 (.tmp 7) (.tmp 43) rfl w7.heap.size (a8 (gI g)) rfl rfl 40 (a8 fun _ => 0) HGH.out HGS.out HGZ.out (a8_one _) ?_))
  generalize ((w7.alloc (.cells #[.int .i64 0, .int .i64 0, .int .i64 0, .int .i64 0, .int .i64 0, .int .i64 0, .int .i64 0, .int .i64 0] 40)).setRow w7.heap.size (a8 (gI g))) = wg at *
  generalize w7.heap.size = GB at *
  clear HS HGH HGZ HTH HFI HCK HPA HFA HGR
  have HB : Hid (Below wg.heap.size wg wg) := Below.refl _ _
  have HSZ : Hid (w.heap.size ≤ wg.heap.size) := HA.out.fr.size
  go_loopw [8, 9] (fun v i wr => ∃ k : Nat, i = .int .i64 (k : Int) ∧ k ≤ no ∧ wr.ownsRow wg.heap.size 45 2 v (dL g nw k).length (flat (dL g nw k)) ∧ Below wg.heap.size wg wr) (fun _ i _ => no - (intOf i).toNat)
  case atStart => exact ⟨0, rfl, Nat.zero_le _, World.ownsRow_nil _ _ _ _, Below.refl _ _⟩
  case round =>
    clear HB
    obtain ⟨i, rfl, hi, hown, hbl⟩ := hrel
    rename World => wx
    obtain ⟨va, vc, rfl⟩ := own_slice' hown
    have HO := Lib.hid hown
    have HB := Lib.hid hbl
    have HX := Lib.hid (HA.out.below hbl)
    clear hown hbl
    have c0 := HX.out.cell (.tail _ (.head _)) 0
    by_cases hlt : i < no
    · have ki : (0 : Int) ≤ (i : Int) := by omega
      have kj : (i : Int) < (no : Int) := by omega
      have h8 : i < 8 := by omega
      have HLI := Lib.hid (HLE.out i)
      have HSI := Lib.hid (dL_succ g nw i)
      have HISI := Lib.hid (fun k X hk => HIS.out i k X h8 hk)
      have HRI := Lib.hid (HRE.out i)
      go_wp2_with fail
      clear c0
      go_loopw [8, 10] (fun v i2 wr => ∃ j : Nat, i2 = .int .i64 (j : Int) ∧ j ≤ nw ∧ wr.ownsRow wg.heap.size 45 2 v (dL g nw i ++ dR g i j).length (flat (dL g nw i ++ dR g i j)) ∧ Below wg.heap.size wg wr) (fun _ i2 _ => nw - (intOf i2).toNat)
      case atStart => exact ⟨0, rfl, Nat.zero_le _, by rw [dR_zero, List.append_nil]; exact HO.out, HB.out⟩
      case round =>
        clear HO HB HX
        obtain ⟨j, rfl, hj, hown, hbl⟩ := hrel
        rename World => wy
        obtain ⟨va, vc, rfl⟩ := own_slice' hown
        have HO := Lib.hid hown
        have HB := Lib.hid hbl
        have HX := Lib.hid (HA.out.below hbl)
        clear hown hbl
        have c1 := HX.out.cell (.tail _ (.head _)) 1
        by_cases hlt2 : j < nw
        · have ji : (0 : Int) ≤ (j : Int) := by omega
          have jj : (j : Int) < (nw : Int) := by omega
          have h82 : j < 8 := by omega
          have HCJ := Lib.hid (fun X => HISI.out j X h82)
          have hli := HLI.out
          have hri := HRI.out j
          have hmm : nw * i ≤ 8 * 8 := Nat.mul_le_mul (by omega) (by omega)
          have hle : (dL g nw i ++ dR g i j).length ≤ 72 := by rw [List.length_append]; omega
          have HCLE : Hid (dL g nw i ++ dR g i (j + 1) = (dL g nw i ++ dR g i j) ++ if g i j = true then [((i : Int), (j : Int))] else []) := by unfold Hid; rw [dR_succ, ← List.append_assoc]
          generalize dL g nw i ++ dR g i j = cl at *
          generalize hpr : g i j = pr at HCJ HCLE
          clear hpr hli hri hmm
          have HGH := Lib.hid (HX.out.bk _ _ _ (.head _)).2
          go_wp2_with (first | (refine wpList_load_row (o := ⟨some 58, .load 40 (.tmp 7), _, _, _, _⟩) rfl 40 (.tmp 7) rfl GB rfl 40 (a8 (gI g)) (0, 0) _ HGH.out Tryz.underlying40 rfl HGS.out ?_))
          refine (HCJ.out _).mono ?_
          rintro _ w20 ⟨rfl, hb⟩
          have HO2 := Lib.hid (own_below HO.out hb)
          have HB2 := Lib.hid (HB.out.trans (hb.mono HB.out.size))
          clear hb HO HB c1 HGH HX HCJ
          cases pr
          · have HC2 : Hid (dL g nw i ++ dR g i (j + 1) = cl) := by unfold Hid; rw [HCLE.out]; simp
            go_wp2_with fail
            go_roundw
            case rel => exact ⟨j + 1, by go_num, by omega, by rw [HC2.out]; exact HO2.out, HB2.out⟩
            case measure => simp [intOf]; omega
          · have HC2 : Hid (dL g nw i ++ dR g i (j + 1) = cl ++ [((i : Int), (j : Int))]) := by unfold Hid; rw [HCLE.out]; simp
            have hsz := HB2.out.size
            have HN := Lib.hid (World.news_of_block (heap_alloc_new w20 (.cells #[.int .i64 (i : Int), .int .i64 (j : Int)] 45)))
            have HOA := Lib.hid (World.ownsRow.alloc HO2.out (.cells #[.int .i64 (i : Int), .int .i64 (j : Int)] 45))
            have HBA := Lib.hid (HB2.out.trans ((below_alloc w20 (.cells #[.int .i64 (i : Int), .int .i64 (j : Int)] 45)).mono hsz))
            clear HCLE HO2 HB2
            go_wp2_with (at_builtin; refine wpList_append_src _ rfl (.tmp 62) (.tmp 66) 42 rfl wg.heap.size 45 i0 (.agg #[.int .i64 0, .int .i64 0]) 2 16 Tryz.underlying42 hi0 hz0 hz1 hz2 rfl (by decide) (.slice va cl.length vc) cl.length (flat cl) rfl HOA.out (some ⟨w20.heap.size, 0, none⟩) 1 1 [.int .i64 (i : Int), .int .i64 (j : Int)] rfl ⟨rfl, fun q u hu => ⟨_, rfl, HN.out q u hu⟩⟩ ?c0 ?c1 ?c2 ?c3 ?_)
            case c0 => simp [Value.oneCell']
            case c1 => unfold maxLen; omega
            case c2 => omega
            case c3 => simp; omega
            intro v' w21 hown hgr _
            have HO5 : Hid (w21.ownsRow wg.heap.size 45 2 v' (cl ++ [((i : Int), (j : Int))]).length (flat (cl ++ [((i : Int), (j : Int))]))) := by unfold Hid; rw [flat_append, List.length_append]; exact hown
            have HB5 := Lib.hid (HBA.out.trans ((Fr.grown hgr).low HBA.out.size (fun q hq e => by have := own_low HOA.out e; omega)))
            clear hown hgr
            go_wp2_with fail
            go_roundw
            case rel => exact ⟨j + 1, by go_num, by omega, by rw [HC2.out]; exact HO5.out, HB5.out⟩
            case measure => simp [intOf]; omega
        · have HE : Hid (dL g nw i ++ dR g i j = dL g nw (i + 1)) := by
            have hjl : j = nw := by omega
            unfold Hid; rw [hjl, ← HSI.out]
          rw [HE.out] at HO ⊢
          go_wp2_with fail
          go_roundw
          case rel => exact ⟨i + 1, by go_num, by omega, HO.out, HB.out⟩
          case measure => simp [intOf]; omega
    · obtain rfl : i = no := by omega
      have HS2 := Lib.hid (SkIn.own HO.out)
      have HP2 := Lib.hid (HP.out.below HB.out)
      have hll := HLE.out i
      have hmm : nw * i ≤ 8 * 8 := Nat.mul_le_mul (by omega) (by omega)
      have hl2 : (dL g nw i).length ≤ 100000 := by omega
      clear HLE HRE HIS hll hmm HO HP
      generalize dL g nw i = L at *
      go_wp2_with fail
      refine (pairs_lit L _ _ _ _ _ hl2 HP2.out HS2.out).mono ?_
      rintro _ w30 ⟨rfl, hb⟩
      have HX2 := Lib.hid (HX.out.below hb)
      clear hb
      go_wp2_with fail
      refine (awake5_any _).mono ?_
      rintro _ w31 ⟨rfl, hb⟩
      have HX3 := Lib.hid (HX2.out.below hb)
      clear hb
      go_wp2_with fail
      go_ret
      exact ⟨rfl, HX3.out.fr⟩
theorem linkPairs_walk (x : FV) (f : Fl) (w : World) (h : FlLaw w x f) : Calls Tryz.prog 3 #[.agg #[.slice x.oa f.no x.oc, .slice x.na f.nw x.nc, .slice x.ma f.nm x.mc]] w fun e w' => e = .returned (.bool true) ∧ Below w.heap.size w w' := by
  cases ht : f.thin
  · exact linkPairs_thick x f w h.l ht
  · by_cases hf : f.fault = 0
    · exact linkPairs_ok x f w h.l ht hf
    · exact linkPairs_bad x f w h.l ht hf
end Go.Proofs.YtgbdbikjckfgmaaGreat
