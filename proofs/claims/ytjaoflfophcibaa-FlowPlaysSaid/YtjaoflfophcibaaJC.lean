/- FlowPlays: small of any truth. Printed by gen_jc.py. -/
import Derived.Test.YtjaoflfophcibaaIR
import Derived.Test.YtjaoflfophcibaaPL
namespace Go.Proofs.Ytjaoflfophcibaa
open Go.RowKit Go.Shelf

/-- A truth as a law is handed one. -/
structure Tr.big (x : Tr) : Prop where
  f : x.nf ≤ maxLen
  b : x.nb ≤ maxLen
  d : x.nd ≤ maxLen
  m : x.nm ≤ maxLen
  dl : ∀ c, x.dl c ≤ maxLen
  ml : ∀ c, x.ml c ≤ maxLen
/-- The lists have at most 7 elements. -/
def Tr.sm (x : Tr) : Bool := allB (fun c => decide (x.dl c ≤ 7)) (min x.nd 8) && (allB (fun c => decide (x.ml c ≤ 7)) (min x.nm 8) && (decide (x.nf ≤ 7) && decide (x.nb ≤ 7) && decide (x.nd ≤ 7) && decide (x.nm ≤ 7)))
theorem allB_at {p : Nat → Bool} {n k : Nat} (h : allB p n = true) (hk : k < n) : p k = true := by
  unfold allB at h
  simp only [List.all_eq_true, List.mem_range] at h
  exact h k hk
theorem Tr.sm_of {x : Tr} (h : x.sm = true) : TrSm x := by
  unfold Tr.sm at h
  simp only [Bool.and_eq_true, decide_eq_true_eq] at h
  obtain ⟨h1, h2, ⟨⟨h3, h4⟩, h5⟩, h6⟩ := h
  refine ⟨by omega, by omega, by omega, by omega, fun c hc => ?_, fun c hc => ?_⟩
  · have := of_decide_eq_true (allB_at h1 (show c < min x.nd 8 by omega)); omega
  · have := of_decide_eq_true (allB_at h2 (show c < min x.nm 8 by omega)); omega
set_option maxRecDepth 100000 in
set_option maxHeartbeats 8000000 in
theorem small_big (y : XV) (x : Tr) (hs : x.big) (w : World) (hl : XLi w y x) :
    Calls Try.prog 46 #[.agg #[.slice y.fa x.nf y.fc, .slice y.ba x.nb y.bc, .slice y.da x.nd y.dc, .slice y.ma x.nm y.mc]] w fun e w' => e = .returned (.bool x.sm) ∧ Below w.heap.size w w' := by
  obtain ⟨hs1, hs2, hs3, hs4, hs5, hs6⟩ := hs
  unfold maxLen at hs1 hs2 hs3 hs4 hs5 hs6
  have HS5 := Lib.hid hs5; have HS6 := Lib.hid hs6
  have HRC := Lib.hid hl.2.2.1; have HRM := Lib.hid hl.2.2.2
  clear hl hs5 hs6
  have HA0 : Hid (BF w (w.alloc (.cells #[.slice y.fa x.nf y.fc, .slice y.ba x.nb y.bc, .slice y.da x.nd y.dc, .slice y.ma x.nm y.mc] 75)) [(w.heap.size, #[.slice y.fa x.nf y.fc, .slice y.ba x.nb y.bc, .slice y.da x.nd y.dc, .slice y.ma x.nm y.mc], 75)]) := (BF.base w).alloc _ _
  go_enter Try.func46, Try.ntmps46
  go_wp2_with fail
  go_loopw [3] (fun i wr => ∃ k : Nat, k ≤ min x.nd 8 ∧ i = .int .i64 k ∧ (∀ q, q < k → decide (x.dl q ≤ 7) = true) ∧ BF w wr [(w.heap.size, #[.slice y.fa x.nf y.fc, .slice y.ba x.nb y.bc, .slice y.da x.nd y.dc, .slice y.ma x.nm y.mc], 75)]) (fun i _ => x.nd - (intOf i).toNat)
  case atStart => exact ⟨0, Nat.zero_le _, rfl, fun q h => absurd h (Nat.not_lt_zero _), HA0.out⟩
  case round =>
    clear HA0
    obtain ⟨k, hk, rfl, hall, hbf⟩ := hrel
    have HALL := Lib.hid hall; have HA0 := Lib.hid hbf
    clear hall hbf
    have c0 := HA0.out.cell (.head _) 0
    have c1 := HA0.out.cell (.head _) 1
    have c2 := HA0.out.cell (.head _) 2
    have c3 := HA0.out.cell (.head _) 3
    have ki : (0 : Int) ≤ (k : Int) := by omega
    by_cases hb : k < min x.nd 8
    · have kj : (k : Int) < (x.nd : Int) := by omega
      have h8 : k < 8 := by omega
      obtain ⟨bc, oc, ra, rc, hca, hbc, hx, hrow⟩ := HRC.out.at (k := k) (by omega)
      rw [hca] at c2
      have y0 := kept HA0.out.fr hbc hx
      have hrl := HS5.out k
      clear hrow hx hca
      by_cases h7 : x.dl k ≤ 7
      · go_wp2_with fail
        go_roundw
        case rel => exact ⟨k + 1, by omega, by go_num, fun q hq => by rcases Nat.lt_succ_iff_lt_or_eq.1 hq with h | rfl; exact HALL.out q h; exact decide_eq_true h7, HA0.out⟩
        case measure => simp [intOf]; omega
      · go_wp2_with fail
        go_ret
        exact ⟨ret_bool (by unfold Tr.sm; rw [allB_false (k := k) hb (decide_eq_false h7)]; rfl), HA0.out.fr⟩
    · have HD : Hid (allB (fun c => decide (x.dl c ≤ 7)) (min x.nd 8) = true) := allB_true (fun q hq => HALL.out q (by omega))
      have HA1 := HA0
      clear HALL HA0
      by_cases hlt : k < x.nd
      all_goals
        have kj : k < x.nd ∨ ¬ k < x.nd := by omega
        first | (have k8 : ¬ k < 8 := by omega) | (have k9 : ¬ (k : Int) < (x.nd : Int) := by omega)
        clear kj hk hb
        go_wp2_with fail
        clear c0 c1 c2 c3
        go_loopw [4] (fun i wr => ∃ k : Nat, k ≤ min x.nm 8 ∧ i = .int .i64 k ∧ (∀ q, q < k → decide (x.ml q ≤ 7) = true) ∧ BF w wr [(w.heap.size, #[.slice y.fa x.nf y.fc, .slice y.ba x.nb y.bc, .slice y.da x.nd y.dc, .slice y.ma x.nm y.mc], 75)]) (fun i _ => x.nm - (intOf i).toNat)
        case atStart => exact ⟨0, Nat.zero_le _, rfl, fun q h => absurd h (Nat.not_lt_zero _), HA1.out⟩
        case round =>
          clear HA1
          obtain ⟨k2, hk, rfl, hall, hbf⟩ := hrel
          have HALL := Lib.hid hall; have HA0 := Lib.hid hbf
          clear hall hbf
          have c0 := HA0.out.cell (.head _) 0
          have c1 := HA0.out.cell (.head _) 1
          have c2 := HA0.out.cell (.head _) 2
          have c3 := HA0.out.cell (.head _) 3
          have ki2 : (0 : Int) ≤ (k2 : Int) := by omega
          by_cases hb : k2 < min x.nm 8
          · have kj : (k2 : Int) < (x.nm : Int) := by omega
            have h8 : k2 < 8 := by omega
            obtain ⟨bc, oc, ra, rc, hca, hbc, hx, hrow⟩ := HRM.out.at (k := k2) (by omega)
            rw [hca] at c3
            have y0 := kept HA0.out.fr hbc hx
            have hrl := HS6.out k2
            clear hrow hx hca
            by_cases h7 : x.ml k2 ≤ 7
            · go_wp2_with fail
              go_roundw
              case rel => exact ⟨k2 + 1, by omega, by go_num, fun q hq => by rcases Nat.lt_succ_iff_lt_or_eq.1 hq with h | rfl; exact HALL.out q h; exact decide_eq_true h7, HA0.out⟩
              case measure => simp [intOf]; omega
            · go_wp2_with fail
              go_ret
              exact ⟨ret_bool (by unfold Tr.sm; rw [HD.out, allB_false (k := k2) hb (decide_eq_false h7)]; rfl), HA0.out.fr⟩
          · have HE : Hid (x.sm = (decide (x.nf ≤ 7) && decide (x.nb ≤ 7) && decide (x.nd ≤ 7) && decide (x.nm ≤ 7))) := by unfold Hid Tr.sm; rw [HD.out, allB_true (fun q hq => HALL.out q (by omega))]; rfl
            by_cases hlt2 : k2 < x.nm
            all_goals
              first | (have k28 : ¬ k2 < 8 := by omega) | (have k29 : ¬ (k2 : Int) < (x.nm : Int) := by omega)
              by_cases e1 : x.nf ≤ 7
              · by_cases e2 : x.nb ≤ 7
                · by_cases e3 : x.nd ≤ 7
                  · by_cases e4 : x.nm ≤ 7
                    all_goals
                      first
                        | (exfalso; omega)
                        | (go_wp2_with fail
                           go_ret
                           exact ⟨ret_bool (by rw [HE.out]; simp [e1, e2, e3, e4]; try omega), HA0.out.fr⟩)
                  · go_wp2_with fail
                    go_ret
                    exact ⟨ret_bool (by rw [HE.out]; simp [e1, e2, e3]), HA0.out.fr⟩
                · go_wp2_with fail
                  go_ret
                  exact ⟨ret_bool (by rw [HE.out]; simp [e1, e2]), HA0.out.fr⟩
              · go_wp2_with fail
                go_ret
                exact ⟨ret_bool (by rw [HE.out]; simp [e1]), HA0.out.fr⟩
end Go.Proofs.Ytjaoflfophcibaa
