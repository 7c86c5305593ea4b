/- Link: Only. Printed by gen_mz.py. -/
import Derived.Test.YtgbdbikjckfgmaaGreatMY
namespace Go.Proofs.YtgbdbikjckfgmaaGreat
open Go.RowKit Go.Shelf

set_option maxHeartbeats 2000000 in
theorem onlyF_bad (x : FV) (f : Fl) (w : World) (h : FlQ QP w x f) (h1 : f.no ≤ 100000) (h2 : f.nw ≤ 100000) (h3 : f.nm ≤ 100000) (hf : f.fault ≠ 0) :
    Calls Tryz.prog 38 #[.agg #[.slice x.oa f.no x.oc, .slice x.na f.nw x.nc, .slice x.ma f.nm x.mc]] w fun e w' => e = .returned (.tuple #[.slice none 0 0, .int .i64 f.fault]) ∧ Below w.heap.size w w' := by
  have hb0 := below_alloc w (.cells #[.slice x.oa f.no x.oc, .slice x.na f.nw x.nc, .slice x.ma f.nm x.mc] 33)
  have HC := Lib.hid (work_bad x f _ (h.below QP.k hb0) h1 h2 h3 hf)
  have HB := Lib.hid hb0
  have hf1 : (f.fault != 0) = true := by simp [hf]
  clear h hf h1 h2 h3 hb0
  generalize f.fault = ft at *
  generalize f.no = no at *
  generalize f.nw = nw at *
  generalize f.nm = nm at *
  go_enter Tryz.func38, Tryz.ntmps38
  go_wp2_with fail
  go_step3
  go_wp2_with fail
  refine HC.out.mono ?_
  rintro _ w1 ⟨rfl, hb⟩
  have HB1 := Lib.hid (below_step HB.out hb)
  clear hb
  go_wp2_with fail
  (try rw [Exit.noGoto_ret])
  change bodyPost _ _ _ Exit.ret _ _
  go_ret2
  exact ⟨rfl, HB1.out⟩
/-- What Only gives: the list, or a tie. -/
def GivesO (b : Bool) (w : World) (n : Nat) (z : Nat → Int) (e : Ending) (w' : World) : Prop := (b = true ∧ GivesT w n z e w') ∨ (b = false ∧ e = .returned (.tuple #[.slice none 0 0, .int .i64 10]) ∧ Below w.heap.size w w')
set_option maxRecDepth 100000 in
set_option maxHeartbeats 8000000 in
theorem onlyF_ok (x : FV) (f : Fl) (w : World) (h : FlQ QP w x f) (hf : f.fault = 0) :
    Calls Tryz.prog 38 #[.agg #[.slice x.oa f.no x.oc, .slice x.na f.nw x.nc, .slice x.ma f.nm x.mc]] w (GivesO f.only w f.no f.lst) := by
  have OK := Lib.hid (Fl.ok hf)
  have HA0 := Lib.hid ((BF.base w).alloc #[.slice x.oa f.no x.oc, .slice x.na f.nw x.nc, .slice x.ma f.nm x.mc] 33)
  have HC := Lib.hid (work_ok x f _ (h.below QP.k HA0.out.fr) hf)
  have HM := Lib.hid (fun B W (hW : WkF W B f) => matchF_any OK.out B none 0 [] W (by simp) hW (SkIn.nil _ _ _))
  have HLI := Lib.hid (fun B W (hW : WkF W B f) => list_any OK.out B (f.m []).1 W hW (match_rg (g := offG f.g (SK [])) (P := f.P) (F := 9) (no := f.no) f.no (Nat.le_refl _)).1)
  have HLS : Hid ((fun i => backL (f.m []).1 i 8) = f.lst) := rfl
  rw [HLS.out] at HLI
  have HL8 := Lib.hid (a8_l8 (f.m []).1)
  have hno := OK.out.no
  have HCON := Lib.hid (fun B i k W (hW : WkF W B f) => lsure_any OK.out B i k W hW)
  have HOR := Lib.hid (fun i => OK.out.lst_or i)
  have HT : Hid ((∀ q, q < f.no → (decide (f.lst q = -1) || f.sure q (f.lst q).toNat) = true) → f.only = true) := fun h => allB_true h
  have HF : Hid (∀ q, q < f.no → (decide (f.lst q = -1) || f.sure q (f.lst q).toNat) = false → f.only = false) := fun q hq hr => by
    cases e : f.only
    · rfl
    · exact absurd (allB_all e q hq) (by simp [hr])
  clear h hf
  generalize f.only = on at *
  generalize f.lst = z at *
  generalize f.sure = sr at *
  generalize (f.m []).1 = l at *
  generalize (f.m []).2 = m at *
  generalize f.no = no at *
  generalize f.nw = nw at *
  generalize f.nm = nm at *
  go_enter Tryz.func38, Tryz.ntmps38
  go_wp2_with fail
  go_step3
  go_wp2_with fail
  refine HC.out.mono ?_
  rintro _ w1 ⟨B, rfl, hwk, hb⟩
  have HW := Lib.hid hwk
  have HA1 := Lib.hid (HA0.out.below hb)
  clear hb hwk HC HA0
  go_wp2_with fail
  refine (HM.out B _ HW.out).mono ?_
  rintro _ w2 ⟨rfl, hb⟩
  have HW2 := Lib.hid (HW.out.below hb)
  have HA2 := Lib.hid (HA1.out.below hb)
  clear hb HA1 HW HM
  rw [HL8.out]
  unfold l8
  have HB3 := Lib.hid (below_alloc w2 (.cells #[.int .i64 (l 0), .int .i64 (l 1), .int .i64 (l 2), .int .i64 (l 3), .int .i64 (l 4), .int .i64 (l 5), .int .i64 (l 6), .int .i64 (l 7)] 134))
  have HW3 := Lib.hid (HW2.out.below HB3.out)
  have HLB := Lib.hid (HLI.out B _ HW3.out)
  rw [HL8.out] at HLB
  unfold l8 at HLB
  go_wp2_with fail
  refine HLB.out.mono ?_
  rintro _ w4 ⟨a, c, rfl, hz, hb⟩
  have HZ := Lib.hid hz
  have HB4 := Lib.hid (below_step HB3.out hb)
  have HW4 := Lib.hid (HW2.out.below HB4.out)
  have HA4 := Lib.hid (HA2.out.fr.trans (HB4.out.mono HA2.out.fr.size))
  clear hz hb HB3 HB4 HA2 HLB HW3 HW2 HLI HL8
  go_wp2_with fail
  go_step3
  go_wp2_with fail
  go_loopw [10, 33] (fun v i wr => v = .bool true ∧ ∃ k : Nat, i = .int .i64 (k : Int) ∧ k ≤ no ∧ (∀ q, q < k → (decide (z q = -1) || sr q (z q).toNat) = true) ∧ Below w4.heap.size w4 wr) (fun _ i _ => no - (intOf i).toNat)
  case atStart => exact ⟨rfl, 0, rfl, Nat.zero_le _, fun q h => absurd h (Nat.not_lt_zero _), Below.refl _ _⟩
  case round =>
    obtain ⟨rfl, i, rfl, hi, hrd, hbl⟩ := hrel
    have HRD := Lib.hid hrd
    rename World => wx
    have HB := Lib.hid hbl
    clear hbl hrd
    by_cases hlt : i < no
    · obtain ⟨rb, ro, ra, hrb, hrc⟩ := (HZ.out.below HB.out).at hlt
      rw [ra]
      have ki : (0 : Int) ≤ (i : Int) := by omega
      have kj : (i : Int) < (no : Int) := by omega
      have hor := HOR.out i
      rcases hor with hm1 | ⟨k, hk⟩
      · rw [hm1] at hrc
        have HS : Hid ((decide (z i = -1) || sr i (z i).toNat) = true) := by unfold Hid; rw [hm1]; simp
        clear hm1
        go_wp2_with fail
        go_roundw
        case rel => exact ⟨rfl, i + 1, by go_num, by omega, fun q hq => by
          rcases Nat.lt_or_eq_of_le (Nat.le_of_lt_succ hq) with h | rfl
          · exact HRD.out q h
          · exact HS.out, HB.out⟩
        case measure => simp [intOf]; omega
      · rw [hk] at hrc
        have hne : ((k : Int) != -1) = true := by simp
        have HS : Hid ((decide (z i = -1) || sr i (z i).toNat) = sr i k) := by
          unfold Hid
          rw [hk, Int.toNat_natCast, show decide ((k : Int) = -1) = false from decide_eq_false (by omega)]; rfl
        have HCI := Lib.hid (HCON.out B i k wx (HW4.out.below HB.out))
        clear hk
        generalize hsr : sr i k = s at *
        clear hsr
        go_wp2_with fail
        refine HCI.out.mono ?_
        rintro _ w6 ⟨rfl, hb⟩
        have HB6 := Lib.hid (below_step HB.out hb)
        clear hb
        cases s
        · have HFF := Lib.hid (HF.out i hlt HS.out)
          go_wp2_with fail
          (try rw [Exit.noGoto_ret])
          change bodyPost _ _ _ Exit.ret _ _
          go_ret2
          exact .inr ⟨HFF.out, rfl, HA4.out.trans (HB6.out.mono HA4.out.size)⟩
        · go_wp2_with fail
          go_roundw
          case rel => exact ⟨rfl, i + 1, by go_num, by omega, fun q hq => by
            rcases Nat.lt_or_eq_of_le (Nat.le_of_lt_succ hq) with h | rfl
            · exact HRD.out q h
            · exact HS.out, HB6.out⟩
          case measure => simp [intOf]; omega
    · obtain rfl : i = no := by omega
      have HTT := Lib.hid (HT.out HRD.out)
      go_wp2_with fail
      (try rw [Exit.noGoto_ret])
      change bodyPost _ _ _ Exit.ret _ _
      go_ret2
      exact .inl ⟨HTT.out, a, c, rfl, HZ.out.below HB.out, HA4.out.trans (HB.out.mono HA4.out.size)⟩
end Go.Proofs.YtgbdbikjckfgmaaGreat
