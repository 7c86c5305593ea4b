/- Link: the reference's IsCover. -/
import Derived.Test.YtgbdbikjckfgmaaGreatQE
namespace Go.Proofs.YtgbdbikjckfgmaaGreat
open Go.RowKit Go.Shelf

set_option maxRecDepth 100000 in
set_option maxHeartbeats 4000000 in
theorem rHas_any (a : Option Addr) (n c : Nat) (z : Nat → Int) (k : Int) (w : World) (h : IntsIn w (.slice a n c) n z) (hn : n ≤ 100000) :
    Calls Tryz.prog 41 #[.slice a n c, .int .i64 k] w fun e w' => e = .returned (.bool (!allB (fun j => !(z j == k)) n)) ∧ Below w.heap.size w w' := by
  have HR := Lib.hid h
  have HY : Hid (∀ j, j < n → (z j == k) = true → (!allB (fun j => !(z j == k)) n) = true) := fun j hj h => by rw [allB_false hj (by rw [h]; rfl)]; rfl
  have HN : Hid ((∀ j, j < n → (z j == k) = false) → (!allB (fun j => !(z j == k)) n) = false) := fun h => by rw [allB_true fun j hj => by rw [h j hj]; rfl]; rfl
  clear h
  generalize (!allB (fun j => !(z j == k)) n) = r at *
  go_enter Tryz.func41, Tryz.ntmps41
  go_wp2_with fail
  go_loopw [5] (fun v wr => ∃ j : Nat, v = .int .i64 (j : Int) ∧ j ≤ n ∧ wr = w ∧ ∀ i, i < j → (z i == k) = false) (fun v _ => n - (intOf v).toNat)
  case atStart => exact ⟨0, rfl, Nat.zero_le _, rfl, fun i hi => absurd hi (Nat.not_lt_zero i)⟩
  case round =>
    obtain ⟨j, rfl, hj, rfl, hall⟩ := hrel
    have HALL := Lib.hid hall
    clear hall
    by_cases hlt : j < n
    · obtain ⟨b, off, rfl, hb, x0⟩ := HR.out.at hlt
      have ki : (0 : Int) ≤ (j : Int) := by omega
      have kj : (j : Int) < (n : Int) := by omega
      have HYJ := Lib.hid (HY.out j hlt)
      have HNJ : Hid ((z j == k) = false → ∀ i, i < j + 1 → (z i == k) = false) := fun h i hi => by
        rcases Nat.lt_succ_iff_lt_or_eq.1 hi with hi | rfl
        · exact HALL.out i hi
        · exact h
      generalize z j = zj at *
      cases h1 : (zj == k)
      · rw [h1] at HNJ
        have HN2 := Lib.hid (HNJ.out rfl)
        clear HNJ HYJ
        go_wp2_with fail
        go_roundw
        case rel => exact ⟨j + 1, by go_num, by omega, (by first | trivial | rfl), HN2.out⟩
        case measure => simp [intOf]; omega
      · rw [h1] at HYJ
        have hr := HYJ.out rfl
        subst hr
        clear HNJ HYJ
        go_wp2_with fail
        go_ret
        exact ⟨rfl, Below.refl _ _⟩
    · have hr := HN.out fun i hi => HALL.out i (by omega)
      subst hr
      go_wp2_with fail
      go_ret
      exact ⟨rfl, Below.refl _ _⟩
set_option maxRecDepth 100000 in
set_option maxHeartbeats 16000000 in
theorem rIsCover_any (x : FV) (f : Fl) (oa pa : Option Addr) (na nb oc pc : Nat) (za zb : Nat → Int) (w : World) (hf : f.fault = 0) (ha : IntsIn w (.slice oa na oc) na za) (hbb : IntsIn w (.slice pa nb pc) nb zb) (hna : na ≤ 100000) (hnb : nb ≤ 100000) :
    Calls Tryz.prog 54 #[.agg #[.slice x.oa f.no x.oc, .slice x.na f.nw x.nc, .slice x.ma f.nm x.mc], .agg (a8 (gI f.g)), .slice oa na oc, .slice pa nb pc] w fun e w' => e = .returned (.bool (f.isC na za nb zb)) ∧ Below w.heap.size w w' := by
  have OK := Lib.hid (Fl.ok hf)
  have hno := OK.out.no
  have hnw := OK.out.nw
  obtain ⟨fa, fc, ga, gc, ma, mc⟩ := x
  have HIS := Lib.hid (fun i k X hi hk => is_any f.g i k X hi hk)
  have HRA := Lib.hid (fun X (hX : Below w.heap.size w X) => rRising_any oa na oc za f.no X (ha.below hX) hna (by omega))
  have HRB := Lib.hid (fun X (hX : Below w.heap.size w X) => rRising_any pa nb pc zb f.nw X (hbb.below hX) hnb (by omega))
  have HHA := Lib.hid (fun k X (hX : Below w.heap.size w X) => rHas_any oa na oc za k X (ha.below hX) hna)
  have HHB := Lib.hid (fun k X (hX : Below w.heap.size w X) => rHas_any pa nb pc zb k X (hbb.below hX) hnb)
  have HIC : Hid (f.isC na za nb zb = (risesB za na f.no && risesB zb nb f.nw && allB (fun i : Nat => allB (fun k : Nat => !f.g i k || hasN za na i || hasN zb nb k) f.nw) f.no)) := rfl
  have HE1 : Hid (∀ k, (!allB (fun j => !(za j == k)) na) = hasN za na k) := fun k => rfl
  have HE2 : Hid (∀ k, (!allB (fun j => !(zb j == k)) nb) = hasN zb nb k) := fun k => rfl
  have HS1 := Lib.hid (graph_info' (gI f.g))
  clear ha hbb hf OK
  dsimp only
  obtain ⟨rb, hrb⟩ : ∃ rb, f.isC na za nb zb = rb := ⟨_, rfl⟩
  rw [hrb] at HIC ⊢
  clear hrb
  generalize f.g = g at *
  generalize f.no = no at *
  generalize f.nw = nw at *
  generalize f.nm = nm at *
  generalize risesB za na (no : Int) = ra at *
  generalize risesB zb nb (nw : Int) = rbb at *
  have HRF1 : Hid (ra = false → rb = false) := fun h => by rw [HIC.out, h]; rfl
  have HRF2 : Hid (rbb = false → rb = false) := fun h => by rw [HIC.out, h]; simp
  have HRF3 : Hid (∀ i k, i < no → k < nw → (!g i k || hasN za na (i : Int) || hasN zb nb (k : Int)) = false → rb = false) := fun i k hi hk h => by
    rw [HIC.out, allB_false (p := fun i : Nat => allB (fun k : Nat => !g i k || hasN za na i || hasN zb nb k) nw) hi (allB_false hk h)]; simp
  have HRT : Hid (ra = true → rbb = true → (∀ i k, i < no → k < nw → (!g i k || hasN za na (i : Int) || hasN zb nb (k : Int)) = true) → rb = true) := fun h1 h2 h3 => by
    rw [HIC.out, h1, h2, allB_true fun i hi => allB_true fun k hk => h3 i k hi hk]; rfl
  clear HIC
  have HA0 : Hid (BF w ((w.alloc (.cells #[.slice fa no fc, .slice ga nw gc, .slice ma nm mc] 25)).alloc (.cells (a8 (gI g)) 40)) [(w.heap.size, #[.slice fa no fc, .slice ga nw gc, .slice ma nm mc], 25), (w.heap.size + 1, a8 (gI g), 40)]) := BF.made2 w _ _ _ _
  go_enter Tryz.func54, Tryz.ntmps54
  go_upto_region 1 with (refine wpList_box_row (o := ⟨some 5, .box 40 (.tmp 1), _, _, _, _⟩) rfl 40 (.tmp 1) rfl (a8 (gI g)) rfl ?_)
  (try rw [World.size_alloc])
  generalize ((w.alloc (.cells #[.slice fa no fc, .slice ga nw gc, .slice ma nm mc] 25)).alloc (.cells (a8 (gI g)) 40)) = w0 at *
  have c0 := HA0.out.cell (.head _) 0
  have c1 := HA0.out.cell (.head _) 1
  go_wp2_with fail
  refine (HRA.out _ HA0.out.fr).mono ?_
  rintro _ w1 ⟨rfl, hb⟩
  have HA1 := Lib.hid (HA0.out.below hb)
  clear hb HA0 c0 c1
  cases ra
  · have hr := HRF1.out rfl
    subst hr
    go_wp2_with fail
    go_ret
    exact ⟨rfl, HA1.out.fr⟩
  have c0 := HA1.out.cell (.head _) 0
  have c1 := HA1.out.cell (.head _) 1
  go_wp2_with fail
  refine (HRB.out _ HA1.out.fr).mono ?_
  rintro _ w2 ⟨rfl, hb⟩
  have HA2 := Lib.hid (HA1.out.below hb)
  clear hb HA1 c0 c1
  cases rbb
  · have hr := HRF2.out rfl
    subst hr
    go_wp2_with fail
    go_ret
    exact ⟨rfl, HA2.out.fr⟩
  clear HRA HRB HRF1 HRF2
  go_wp2_with fail
  go_loopw [9] (fun v wr => ∃ i : Nat, v = .int .i64 (i : Int) ∧ i ≤ no ∧ (∀ a b, a < i → b < nw → (!g a b || hasN za na (a : Int) || hasN zb nb (b : Int)) = true) ∧ BF w wr [(w.heap.size, #[.slice fa no fc, .slice ga nw gc, .slice ma nm mc], 25), (w.heap.size + 1, a8 (gI g), 40)]) (fun v _ => no - (intOf v).toNat)
  case atStart => exact ⟨0, rfl, Nat.zero_le _, fun a b ha => absurd ha (Nat.not_lt_zero a), HA2.out⟩
  case round =>
    clear HA2
    obtain ⟨i, rfl, hi, hall, hbf⟩ := hrel
    rename World => wx
    have HA := Lib.hid hbf
    have HALL := Lib.hid hall
    clear hbf hall
    have c0 := HA.out.cell (.head _) 0
    by_cases hlt : i < no
    · have ki : (0 : Int) ≤ (i : Int) := by omega
      have kj : (i : Int) < (no : Int) := by omega
      have h8 : i < 8 := by omega
      go_wp2_with fail
      clear c0
      go_loopw [10] (fun v wr => ∃ k : Nat, v = .int .i64 (k : Int) ∧ k ≤ nw ∧ (∀ b, b < k → (!g i b || hasN za na (i : Int) || hasN zb nb (b : Int)) = true) ∧ BF w wr [(w.heap.size, #[.slice fa no fc, .slice ga nw gc, .slice ma nm mc], 25), (w.heap.size + 1, a8 (gI g), 40)]) (fun v _ => nw - (intOf v).toNat)
      case atStart => exact ⟨0, rfl, Nat.zero_le _, fun b hb => absurd hb (Nat.not_lt_zero b), HA.out⟩
      case round =>
        clear HA
        obtain ⟨k, rfl, hk, hal2, hbf⟩ := hrel
        rename World => wy
        have HA := Lib.hid hbf
        have HAL2 := Lib.hid hal2
        clear hbf hal2
        have c1 := HA.out.cell (.head _) 1
        by_cases hlk : k < nw
        · have kk : (0 : Int) ≤ (k : Int) := by omega
          have kl : (k : Int) < (nw : Int) := by omega
          have h82 : k < 8 := by omega
          have HCI := Lib.hid (fun X => HIS.out i k X h8 h82)
          have HCA := Lib.hid (HHA.out (i : Int))
          have HCB := Lib.hid (HHB.out (k : Int))
          rw [HE1.out] at HCA
          rw [HE2.out] at HCB
          have HF := Lib.hid (HRF3.out i k hlt hlk)
          have HN : Hid ((!g i k || hasN za na (i : Int) || hasN zb nb (k : Int)) = true → ∀ b, b < k + 1 → (!g i b || hasN za na (i : Int) || hasN zb nb (b : Int)) = true) := fun h b hb => by
            rcases Nat.lt_succ_iff_lt_or_eq.1 hb with hb | rfl
            · exact HAL2.out b hb
            · exact h
          clear HAL2
          obtain ⟨p1, h1⟩ : ∃ p, g i k = p := ⟨_, rfl⟩
          obtain ⟨p2, h2⟩ : ∃ p, hasN za na (i : Int) = p := ⟨_, rfl⟩
          obtain ⟨p3, h3⟩ : ∃ p, hasN zb nb (k : Int) = p := ⟨_, rfl⟩
          rw [h1, h2, h3] at HF
          have HN' : Hid ((!p1 || p2 || p3) = true → ∀ b, b < k + 1 → (!g i b || hasN za na (i : Int) || hasN zb nb (b : Int)) = true) := fun h => HN.out (by rw [h1, h2, h3]; exact h)
          rw [h1] at HCI
          rw [h2] at HCA
          rw [h3] at HCB
          clear h1 h2 h3 HN
          have HG := Lib.hid (HA.out.bk _ _ _ (.tail _ (.head _))).2
          go_wp2_with (refine wpList_load_row (o := ⟨some 39, .load 40 (.tmp 5), _, _, _, _⟩) rfl 40 (.tmp 5) rfl (w.heap.size + 1) rfl 40 (a8 (gI g)) (0, 0) _ HG.out Tryz.underlying40 rfl HS1.out ?_)
          refine (HCI.out _).mono ?_
          rintro _ w5 ⟨rfl, hb⟩
          have HA5 := Lib.hid (HA.out.below hb)
          clear hb HA c1 HG
          cases p1
          · have HN2 := Lib.hid (HN'.out (by simp))
            go_wp2_with fail
            go_roundw
            case rel => exact ⟨k + 1, by go_num, by omega, HN2.out, HA5.out⟩
            case measure => simp [intOf]; omega
          · go_wp2_with fail
            refine (HCA.out _ HA5.out.fr).mono ?_
            rintro _ w6 ⟨rfl, hb⟩
            have HA6 := Lib.hid (HA5.out.below hb)
            clear hb HA5
            cases p2
            · go_wp2_with fail
              refine (HCB.out _ HA6.out.fr).mono ?_
              rintro _ w7 ⟨rfl, hb⟩
              have HA7 := Lib.hid (HA6.out.below hb)
              clear hb HA6
              cases p3
              · have hr := HF.out rfl
                subst hr
                go_wp2_with fail
                go_ret
                exact ⟨rfl, HA7.out.fr⟩
              · have HN2 := Lib.hid (HN'.out (by simp))
                go_wp2_with fail
                go_roundw
                case rel => exact ⟨k + 1, by go_num, by omega, HN2.out, HA7.out⟩
                case measure => simp [intOf]; omega
            · have HN2 := Lib.hid (HN'.out (by simp))
              go_wp2_with fail
              go_roundw
              case rel => exact ⟨k + 1, by go_num, by omega, HN2.out, HA6.out⟩
              case measure => simp [intOf]; omega
        · have HN3 : Hid (∀ a b, a < i + 1 → b < nw → (!g a b || hasN za na (a : Int) || hasN zb nb (b : Int)) = true) := fun a b ha hb => by
            rcases Nat.lt_succ_iff_lt_or_eq.1 ha with ha | rfl
            · exact HALL.out a b ha hb
            · exact HAL2.out b (by omega)
          go_wp2_with fail
          go_roundw
          case rel => exact ⟨i + 1, by go_num, by omega, HN3.out, HA.out⟩
          case measure => simp [intOf]; omega
    · have hr := HRT.out (by simp) (by simp) fun a b ha hb => HALL.out a b (by omega) hb
      subst hr
      go_wp2_with fail
      go_ret
      exact ⟨rfl, HA.out.fr⟩
end Go.Proofs.YtgbdbikjckfgmaaGreat
