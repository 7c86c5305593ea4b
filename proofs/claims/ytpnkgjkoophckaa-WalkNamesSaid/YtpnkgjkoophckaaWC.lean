/- Walk: road, roads, CheckMap. Printed by gen_wc.py. -/
import Derived.Test.YtpnkgjkoophckaaWB
namespace Go.Proofs.Ytpnkgjkoophckaa
open Go.RowKit Go.Shelf

theorem find_some {p : Nat → Bool} {k : Nat} : ∀ {n}, k < n → (∀ q, q < k → p q = false) → p k = true → (List.range n).find? p = some k
  | 0, h, _, _ => by omega
  | n + 1, h, h1, h2 => by
    rw [List.range_succ, List.find?_append]
    by_cases hk : k < n
    · rw [find_some hk h1 h2]; rfl
    · obtain rfl : k = n := by omega
      rw [List.find?_eq_none.2 (fun q hq => by rw [h1 q (List.mem_range.1 hq)]; simp)]
      simp [h2]
theorem road_at {m : Mp} {a b : Int} {k : Nat} (hk : k < m.nr) (h1 : ∀ q, q < k → joinsB (m.ra q) (m.rb q) a b = false) (h2 : joinsB (m.ra k) (m.rb k) a b = true) : m.road a b = k := by
  unfold Mp.road
  rw [find_some (p := fun k => joinsB (m.ra k) (m.rb k) a b) hk h1 h2]
theorem road_no {m : Mp} {a b : Int} (h1 : ∀ q, q < m.nr → joinsB (m.ra q) (m.rb q) a b = false) : m.road a b = -1 := by
  unfold Mp.road
  rw [List.find?_eq_none.2 (fun q hq => by rw [h1 q (List.mem_range.1 hq)]; simp)]
theorem road_bd (m : Mp) (a b : Int) : -1 ≤ m.road a b ∧ m.road a b < m.nr := by
  unfold Mp.road
  split
  · rename_i k hk
    have := List.mem_of_find?_eq_some hk
    rw [List.mem_range] at this
    omega
  · omega
theorem road_join {m : Mp} {a b : Int} {k : Nat} (h : m.road a b = k) : k < m.nr ∧ joinsB (m.ra k) (m.rb k) a b = true := by
  unfold Mp.road at h
  split at h
  · rename_i q hq
    have h1 := List.mem_of_find?_eq_some hq
    have h2 := List.find?_some hq
    obtain rfl : q = k := by omega
    exact ⟨List.mem_range.1 h1, h2⟩
  · omega
set_option maxHeartbeats 1000000 in
theorem joinsAt_any (c4 c5 : Nat) (a b lo hi x y : Int) (w : World) (h4 : c4 < w.heap.size) (h5 : c5 < w.heap.size) (k4 : w.cell? ⟨c4, 0, none⟩ = some (.int .i64 x)) (k5 : w.cell? ⟨c5, 0, none⟩ = some (.int .i64 y)) :
    Calls Try.prog 117 #[.agg #[.int .i64 a, .int .i64 b, .int .i64 lo, .int .i64 hi], .pointer (some ⟨c4, 0, none⟩), .pointer (some ⟨c5, 0, none⟩)] w fun e w' => e = .returned (.bool (joinsB a b x y)) ∧ Below w.heap.size w w' := by
  go_enter Try.func117, Try.ntmps117
  go_wp2_with (go_at_call 118; refine (joins_any a b lo hi x y _).mono ?_; rintro e w2 ⟨rfl, hb⟩)
  go_ret
  exact ⟨rfl, (below_alloc w _).trans (hb.mono (by simp))⟩
set_option maxHeartbeats 1000000 in
theorem roadIdx_any (c4 c5 : Nat) (x : MV) (m : Mp) (y z : Int) (w : World) (hlen : m.nr ≤ 100000) (h4 : c4 < w.heap.size) (h5 : c5 < w.heap.size) (k4 : w.cell? ⟨c4, 0, none⟩ = some (.int .i64 y)) (k5 : w.cell? ⟨c5, 0, none⟩ = some (.int .i64 z)) (hz : RdIn w (.slice x.ra m.nr x.rc) m.nr m) :
    Calls Try.prog 116 #[.slice x.ra m.nr x.rc, .func (.func 117) #[] #[.pointer (some ⟨c4, 0, none⟩), .pointer (some ⟨c5, 0, none⟩)]] w fun e w' => e = .returned (.int .i64 (m.road y z)) ∧ Below w.heap.size w w' := by
  obtain ⟨wa, wc, a, cap⟩ := x
  have HZ := Lib.hid hz; clear hz
  have HV := Lib.hid (fun W (hW : Below w.heap.size w W) (k : Nat) => joinsAt_any c4 c5 (m.ra k) (m.rb k) (m.rt k).1 (m.rt k).2 y z W (Nat.lt_of_lt_of_le h4 hW.size) (Nat.lt_of_lt_of_le h5 hW.size) ((hW.cell (p := ⟨c4, 0, none⟩) h4).trans k4) ((hW.cell (p := ⟨c5, 0, none⟩) h5).trans k5))
  have HRA := Lib.hid (fun k => road_at (m := m) (a := y) (b := z) (k := k))
  have HRN := Lib.hid (road_no (m := m) (a := y) (b := z))
  clear k4 k5
  simp only at *
  generalize m.road y z = rr at *
  generalize hn : m.nr = n at *
  clear hn
  go_enter Try.func116, Try.ntmps116
  go_wp2
  go_loopw [8] (fun i wr => ∃ k : Nat, k ≤ n ∧ i = .int .i64 k ∧ (∀ q, q < k → joinsB (m.ra q) (m.rb q) y z = false) ∧ Below w.heap.size w wr) (fun i _ => n - (intOf i).toNat)
  case atStart => exact ⟨0, Nat.zero_le _, rfl, fun q h => absurd h (Nat.not_lt_zero _), Below.refl _ _⟩
  case round =>
    obtain ⟨k, hk, rfl, hall, hbl⟩ := hrel
    have HA := Lib.hid hall; clear hall
    have HB := Lib.hid hbl; clear hbl
    by_cases hlt : k < n
    · obtain ⟨b, off, rfl, hb, x0, x1, x2, x3⟩ := (HZ.out.below HB.out).at hlt
      by_cases hin : joinsB (m.ra k) (m.rb k) y z = true
      · go_wp2_with (go_at_call 117; refine (HV.out _ HB.out k).mono ?_; rintro r w2 ⟨rfl, hb2⟩)
        go_ret
        exact ⟨ret_int (HRA.out k hlt HA.out hin).symm, HB.out.trans (hb2.mono HB.out.size)⟩
      · have hin' : joinsB (m.ra k) (m.rb k) y z = false := by simpa using hin
        clear hin
        go_wp2_with (go_at_call 117; refine (HV.out _ HB.out k).mono ?_; rintro r w2 ⟨rfl, hb2⟩)
        go_roundw
        case rel => exact ⟨k + 1, by omega, by go_num, (fun q hq => by rcases Nat.lt_succ_iff_lt_or_eq.1 hq with h | rfl; exact HA.out q h; exact hin'), HB.out.trans (hb2.mono HB.out.size)⟩
        case measure => simp [intOf]; omega
    · obtain rfl : k = n := by omega
      go_wp2
      go_ret
      exact ⟨ret_int (HRN.out HA.out).symm, HB.out⟩
set_option maxHeartbeats 1000000 in
theorem road_any (x : MV) (m : Mp) (y z : Int) (w : World) (h : MpIn w x m) (hlen : m.nr ≤ 100000) :
    Calls Try.prog 107 #[.agg #[.slice x.wa m.nw x.wc, .slice x.ra m.nr x.rc], .int .i64 y, .int .i64 z] w fun e w' => e = .returned (.int .i64 (m.road y z)) ∧ Below w.heap.size w w' := by
  have HI := Lib.hid (fun c4 c5 W (hW : Below w.heap.size w W) h4 h5 k4 k5 => roadIdx_any c4 c5 x m y z W hlen h4 h5 k4 k5 (h.rd.below hW))
  clear h
  generalize m.road y z = rr at *
  go_enter Try.func107, Try.ntmps107
  go_wp2_with fail
  obtain ⟨hs, hB, k0, k1, k2⟩ := alloc3 w (.cells #[.slice x.wa m.nw x.wc, .slice x.ra m.nr x.rc] 37) (.cells #[.int .i64 y] 3) (.cells #[.int .i64 z] 3)
  refine (HI.out _ _ _ hB (by omega) (by omega) (cell_of_row _ _ 0 _ _ _ k1) (cell_of_row _ _ 0 _ _ _ k2)).mono ?_
  rintro _ w1 ⟨rfl, hb⟩
  go_wp2_with fail
  go_ret
  exact ⟨rfl, below_step hB hb⟩

set_option maxHeartbeats 4000000 in
theorem roads_any (x : MV) (m : Mp) (w : World) (h : MpIn w x m) (hnw : m.nw ≤ 100000) (hlen : m.nr ≤ 100000) :
    Calls Try.prog 85 #[.agg #[.slice x.wa m.nw x.wc, .slice x.ra m.nr x.rc]] w fun e w' => e = .returned (.bool (allB m.roadOk m.nr)) ∧ Below w.heap.size w w' := by
  obtain ⟨qa, qc, rda, rdc⟩ := x
  have HPL := Lib.hid (fun n W (_ : Below w.heap.size w W) => place_any qa rda qc rdc m.nw m.nr n W (by omega))
  have HRD := Lib.hid (fun y z W (hW : Below w.heap.size w W) => road_any ⟨qa, qc, rda, rdc⟩ m y z W (h.below hW) hlen)
  have HZ := Lib.hid h.rd
  clear h
  simp only at *
  have HOKD := Lib.hid (fun k => show m.roadOk k = (inB (m.ra k) 0 (m.nw - 1) && inB (m.rb k) 0 (m.nw - 1) && decide (m.ra k ≠ m.rb k) && insideR ((m.rt k).1, (m.rt k).2) 1 50 && decide (m.road (m.ra k) (m.rb k) = k)) from rfl)
  go_enter Try.func85, Try.ntmps85
  have HB0 : Hid (Below w.heap.size w (w.alloc (.cells #[.slice qa m.nw qc, .slice rda m.nr rdc] 37))) := below_alloc _ _
  have HK0 : Hid ((w.alloc (.cells #[.slice qa m.nw qc, .slice rda m.nr rdc] 37)).heap[w.heap.size]? = some (.cells #[.slice qa m.nw qc, .slice rda m.nr rdc] 37 (0, 0))) := heap_alloc_new _ _
  go_wp2_with fail
  have hsz : w.heap.size < (w.alloc (.cells #[.slice qa m.nw qc, .slice rda m.nr rdc] 37)).heap.size := by simp
  generalize w.alloc (.cells #[.slice qa m.nw qc, .slice rda m.nr rdc] 37) = w0 at *
  go_loopw [11] (fun i wr => ∃ k : Nat, k ≤ m.nr ∧ i = .int .i64 k ∧ (∀ q, q < k → m.roadOk q = true) ∧ Below w0.heap.size w0 wr) (fun i _ => m.nr - (intOf i).toNat)
  case atStart => exact ⟨0, Nat.zero_le _, rfl, fun q h => absurd h (Nat.not_lt_zero _), Below.refl _ _⟩
  case round =>
    obtain ⟨k, hk, rfl, hall, hbl⟩ := hrel
    have HA := Lib.hid hall; clear hall
    have HB := Lib.hid hbl; clear hbl
    have HW := Lib.hid (HB0.out.trans (HB.out.mono (Nat.le_of_lt hsz)))
    have hsr := Nat.lt_of_lt_of_le hsz HB.out.size
    by_cases hlt : k < m.nr
    · obtain ⟨b, off, hba, hb, x0, x1, x2, x3⟩ := (HZ.out.below (HW.out)).at hlt
      have HP1 := Lib.hid (HPL.out (m.ra k))
      have HP2 := Lib.hid (HPL.out (m.rb k))
      have HIN := Lib.hid (fun W (_ : Below w.heap.size w W) => inside_any (m.rt k).1 (m.rt k).2 1 50 W)
      have HRO := Lib.hid (HRD.out (m.ra k) (m.rb k))
      have HOK := Lib.hid (HOKD.out k)
      have HRB := Lib.hid (road_bd m (m.ra k) (m.rb k))
      clear HOKD
      have m0 := (HB.out.cell (p := ⟨w.heap.size, 0, none⟩) hsz).trans (cell_of_row _ _ 0 _ _ _ HK0.out)
      have m1 := (HB.out.cell (p := ⟨w.heap.size, 1, none⟩) hsz).trans (cell_of_row _ _ 1 _ _ _ HK0.out)
      have HW1 : Hid (Below w.heap.size w (wr.alloc (.cells #[.int .i64 (m.ra k), .int .i64 (m.rb k), .int .i64 (m.rt k).1, .int .i64 (m.rt k).2] 120))) := HW.out.trans ((below_alloc _ _).mono (Nat.le_of_lt hsr))
      have HWW : Hid (Below w0.heap.size w0 (wr.alloc (.cells #[.int .i64 (m.ra k), .int .i64 (m.rb k), .int .i64 (m.rt k).1, .int .i64 (m.rt k).2] 120))) := below_step HB.out (below_alloc _ _)
      have HX0 : Hid (Below (wr.alloc (.cells #[.int .i64 (m.ra k), .int .i64 (m.rb k), .int .i64 (m.rt k).1, .int .i64 (m.rt k).2] 120)).heap.size (wr.alloc (.cells #[.int .i64 (m.ra k), .int .i64 (m.rb k), .int .i64 (m.rt k).1, .int .i64 (m.rt k).2] 120)) (wr.alloc (.cells #[.int .i64 (m.ra k), .int .i64 (m.rb k), .int .i64 (m.rt k).1, .int .i64 (m.rt k).2] 120))) := Below.refl _ _
      have HCE : Hid (∀ X : World, Below (wr.alloc (.cells #[.int .i64 (m.ra k), .int .i64 (m.rb k), .int .i64 (m.rt k).1, .int .i64 (m.rt k).2] 120)).heap.size (wr.alloc (.cells #[.int .i64 (m.ra k), .int .i64 (m.rb k), .int .i64 (m.rt k).1, .int .i64 (m.rt k).2] 120)) X → X.cell? ⟨w.heap.size, 0, none⟩ = some (.slice qa m.nw qc) ∧ X.cell? ⟨w.heap.size, 1, none⟩ = some (.slice rda m.nr rdc) ∧ X.cell? ⟨wr.heap.size, 0, none⟩ = some (.int .i64 (m.ra k)) ∧ X.cell? ⟨wr.heap.size, 1, none⟩ = some (.int .i64 (m.rb k)) ∧ X.cell? ⟨wr.heap.size, 2, none⟩ = some (.int .i64 (m.rt k).1) ∧ X.cell? ⟨wr.heap.size, 3, none⟩ = some (.int .i64 (m.rt k).2)) := fun X hX => by
        obtain ⟨c0, c1, c2, c3⟩ := cells4 ((hX.block wr.heap.size (by simp)).trans (heap_alloc_new _ _))
        have q0 := (hX.cell (p := ⟨w.heap.size, 0, none⟩) (by simp; omega)).trans (((below_alloc wr _).cell (p := ⟨w.heap.size, 0, none⟩) hsr).trans m0)
        have q1 := (hX.cell (p := ⟨w.heap.size, 1, none⟩) (by simp; omega)).trans (((below_alloc wr _).cell (p := ⟨w.heap.size, 1, none⟩) hsr).trans m1)
        exact ⟨q0, q1, c0, c1, c2, c3⟩
      have T1 : True := trivial
      clear m0 m1 HRD HPL
      generalize inB (m.ra k) 0 ((m.nw : Int) - 1) = p1 at *
      generalize inB (m.rb k) 0 ((m.nw : Int) - 1) = p2 at *
      generalize insideR ((m.rt k).1, (m.rt k).2) 1 50 = p3 at *
      generalize m.road (m.ra k) (m.rb k) = rr at *
      generalize m.ra k = ya at *
      generalize m.rb k = yb at *
      generalize (m.rt k).1 = lo at *
      generalize (m.rt k).2 = hi at *
      subst hba
      cases p1
      · go_wp2_with (first | (go_at_call 66; have qq := T1; clear qq T1; refine (HP1.out _ (below_step HW1.out HX0.out)).mono ?_; rintro _ x1 ⟨rfl, hb⟩; have HX1 := Lib.hid (below_step HX0.out hb); obtain ⟨d0, d1, e0, e1, e2, e3⟩ := HCE.out _ HX1.out; clear hb; have T2 : True := trivial))
        go_ret
        exact ⟨ret_bool (by rw [allB_false hlt (HOK.out.trans (by simp))]), HW1.out.trans (HX1.out.mono HW1.out.size)⟩
      cases p2
      · go_wp2_with (first | (go_at_call 66; have qq := T1; clear qq T1; refine (HP1.out _ (below_step HW1.out HX0.out)).mono ?_; rintro _ x1 ⟨rfl, hb⟩; have HX1 := Lib.hid (below_step HX0.out hb); obtain ⟨d0, d1, e0, e1, e2, e3⟩ := HCE.out _ HX1.out; clear hb; have T2 : True := trivial) | (go_at_call 66; have qq := T2; clear qq T2; refine (HP2.out _ (below_step HW1.out HX1.out)).mono ?_; rintro _ x2 ⟨rfl, hb⟩; have HX2 := Lib.hid (below_step HX1.out hb); obtain ⟨d0, d1, e0, e1, e2, e3⟩ := HCE.out _ HX2.out; clear hb; have T3 : True := trivial))
        go_ret
        exact ⟨ret_bool (by rw [allB_false hlt (HOK.out.trans (by simp))]), HW1.out.trans (HX2.out.mono HW1.out.size)⟩
      by_cases hab : ya = yb
      · subst hab
        go_wp2_with (first | (go_at_call 66; have qq := T1; clear qq T1; refine (HP1.out _ (below_step HW1.out HX0.out)).mono ?_; rintro _ x1 ⟨rfl, hb⟩; have HX1 := Lib.hid (below_step HX0.out hb); obtain ⟨d0, d1, e0, e1, e2, e3⟩ := HCE.out _ HX1.out; clear hb; have T2 : True := trivial) | (go_at_call 66; have qq := T2; clear qq T2; refine (HP2.out _ (below_step HW1.out HX1.out)).mono ?_; rintro _ x2 ⟨rfl, hb⟩; have HX2 := Lib.hid (below_step HX1.out hb); obtain ⟨d0, d1, e0, e1, e2, e3⟩ := HCE.out _ HX2.out; clear hb; have T3 : True := trivial))
        go_ret
        exact ⟨ret_bool (by rw [allB_false hlt (HOK.out.trans (by simp))]), HW1.out.trans (HX2.out.mono HW1.out.size)⟩
      cases p3
      · go_wp2_with (first | (go_at_call 66; have qq := T1; clear qq T1; refine (HP1.out _ (below_step HW1.out HX0.out)).mono ?_; rintro _ x1 ⟨rfl, hb⟩; have HX1 := Lib.hid (below_step HX0.out hb); obtain ⟨d0, d1, e0, e1, e2, e3⟩ := HCE.out _ HX1.out; clear hb; have T2 : True := trivial) | (go_at_call 66; have qq := T2; clear qq T2; refine (HP2.out _ (below_step HW1.out HX1.out)).mono ?_; rintro _ x2 ⟨rfl, hb⟩; have HX2 := Lib.hid (below_step HX1.out hb); obtain ⟨d0, d1, e0, e1, e2, e3⟩ := HCE.out _ HX2.out; clear hb; have T3 : True := trivial) | (go_at_call 106; have qq := T3; clear qq T3; refine (HIN.out _ (below_step HW1.out HX2.out)).mono ?_; rintro _ x3 ⟨rfl, hb⟩; have HX3 := Lib.hid (below_step HX2.out hb); obtain ⟨d0, d1, e0, e1, e2, e3⟩ := HCE.out _ HX3.out; clear hb; have T4 : True := trivial))
        go_ret
        exact ⟨ret_bool (by rw [allB_false hlt (HOK.out.trans (by simp))]), HW1.out.trans (HX3.out.mono HW1.out.size)⟩
      by_cases hrr : rr = (k : Int)
      · subst hrr
        go_wp2_with (first | (go_at_call 66; have qq := T1; clear qq T1; refine (HP1.out _ (below_step HW1.out HX0.out)).mono ?_; rintro _ x1 ⟨rfl, hb⟩; have HX1 := Lib.hid (below_step HX0.out hb); obtain ⟨d0, d1, e0, e1, e2, e3⟩ := HCE.out _ HX1.out; clear hb; have T2 : True := trivial) | (go_at_call 66; have qq := T2; clear qq T2; refine (HP2.out _ (below_step HW1.out HX1.out)).mono ?_; rintro _ x2 ⟨rfl, hb⟩; have HX2 := Lib.hid (below_step HX1.out hb); obtain ⟨d0, d1, e0, e1, e2, e3⟩ := HCE.out _ HX2.out; clear hb; have T3 : True := trivial) | (go_at_call 106; have qq := T3; clear qq T3; refine (HIN.out _ (below_step HW1.out HX2.out)).mono ?_; rintro _ x3 ⟨rfl, hb⟩; have HX3 := Lib.hid (below_step HX2.out hb); obtain ⟨d0, d1, e0, e1, e2, e3⟩ := HCE.out _ HX3.out; clear hb; have T4 : True := trivial) | (go_at_call 107; have qq := T4; clear qq T4; refine (HRO.out _ (below_step HW1.out HX3.out)).mono ?_; rintro _ x4 ⟨rfl, hb⟩; have HX4 := Lib.hid (below_step HX3.out hb); obtain ⟨d0, d1, e0, e1, e2, e3⟩ := HCE.out _ HX4.out; clear hb; have T5 : True := trivial))
        go_roundw
        case rel => exact ⟨k + 1, by omega, by go_num, (fun q hq => by rcases Nat.lt_succ_iff_lt_or_eq.1 hq with h | rfl; exact HA.out q h; exact HOK.out.trans (by simp [hab])), HWW.out.trans (HX4.out.mono HWW.out.size)⟩
        case measure => simp [intOf]; omega
      have hrb : (rr != (k : Int)) = true := by simp [hrr]
      · go_wp2_with (first | (go_at_call 66; have qq := T1; clear qq T1; refine (HP1.out _ (below_step HW1.out HX0.out)).mono ?_; rintro _ x1 ⟨rfl, hb⟩; have HX1 := Lib.hid (below_step HX0.out hb); obtain ⟨d0, d1, e0, e1, e2, e3⟩ := HCE.out _ HX1.out; clear hb; have T2 : True := trivial) | (go_at_call 66; have qq := T2; clear qq T2; refine (HP2.out _ (below_step HW1.out HX1.out)).mono ?_; rintro _ x2 ⟨rfl, hb⟩; have HX2 := Lib.hid (below_step HX1.out hb); obtain ⟨d0, d1, e0, e1, e2, e3⟩ := HCE.out _ HX2.out; clear hb; have T3 : True := trivial) | (go_at_call 106; have qq := T3; clear qq T3; refine (HIN.out _ (below_step HW1.out HX2.out)).mono ?_; rintro _ x3 ⟨rfl, hb⟩; have HX3 := Lib.hid (below_step HX2.out hb); obtain ⟨d0, d1, e0, e1, e2, e3⟩ := HCE.out _ HX3.out; clear hb; have T4 : True := trivial) | (go_at_call 107; have qq := T4; clear qq T4; refine (HRO.out _ (below_step HW1.out HX3.out)).mono ?_; rintro _ x4 ⟨rfl, hb⟩; have HX4 := Lib.hid (below_step HX3.out hb); obtain ⟨d0, d1, e0, e1, e2, e3⟩ := HCE.out _ HX4.out; clear hb; have T5 : True := trivial))
        go_ret
        exact ⟨ret_bool (by rw [allB_false hlt (HOK.out.trans (by simp [hrr]))]), HW1.out.trans (HX4.out.mono HW1.out.size)⟩
    · obtain rfl : k = m.nr := by omega
      go_wp2_with fail
      go_ret
      exact ⟨ret_bool (by rw [allB_true HA.out]), HW.out⟩
end Go.Proofs.Ytpnkgjkoophckaa
