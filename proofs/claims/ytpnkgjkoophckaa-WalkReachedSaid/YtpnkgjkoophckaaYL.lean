/- Walk: the reference's In, Joins, Fault; the law's Thin, fault, ready. -/
import Derived.Test.YtpnkgjkoophckaaWD
import Derived.Test.YtpnkgjkoophckaaWG
namespace Go.Proofs.Ytpnkgjkoophckaa
open Go.RowKit Go.Shelf

set_option maxHeartbeats 400000 in
theorem rIn_any (a b c : Int) (w : World) :
    Calls Try.prog 24 #[.int .i64 a, .int .i64 b, .int .i64 c] w fun e w' => e = .returned (.bool (inB a b c)) ∧ w = w' := by
  go_enter Try.func24, Try.ntmps24
  go_wp2
  all_goals go_ret
  all_goals (refine ⟨?_, rfl⟩; congr 2; simp [inB]; omega)
set_option maxHeartbeats 2000000 in
theorem rJoins_any (a b lo hi x y : Int) (w : World) :
    Calls Try.prog 100 #[.agg #[.int .i64 a, .int .i64 b, .int .i64 lo, .int .i64 hi], .int .i64 x, .int .i64 y] w fun e w' => e = .returned (.bool (joinsB a b x y)) ∧ Below w.heap.size w w' := by
  go_enter Try.func100, Try.ntmps100
  go_wp2
  all_goals go_ret
  all_goals (refine ⟨ret_bool ?_, below_alloc _ _⟩; unfold joinsB; rw [Bool.eq_iff_iff]; simp; omega)
theorem insideR_in (r : R2) (hi : Int) : insideR r 0 hi = (inB r.1 0 r.2 && decide (r.2 ≤ hi)) := by unfold insideR inB; rfl
theorem insideR_in1 (r : R2) (hi : Int) : insideR r 1 hi = (inB r.1 1 r.2 && decide (r.2 ≤ hi)) := by unfold insideR inB; rfl
theorem joinsB_self (a b : Int) : joinsB a b a b = true := by simp [joinsB]
theorem road_k {m : Mp} {k : Nat} (hk : k < m.nr) (h : ∀ q, q < k → joinsB (m.ra q) (m.rb q) (m.ra k) (m.rb k) = false) : m.road (m.ra k) (m.rb k) = k := road_at hk h (joinsB_self _ _)
theorem road_nk {m : Mp} {k q : Nat} (hk : k < m.nr) (hq : q < k) (h : joinsB (m.ra q) (m.rb q) (m.ra k) (m.rb k) = true) : m.road (m.ra k) (m.rb k) ≠ k := by
  intro e
  unfold Mp.road at e
  cases hf : (List.range m.nr).find? (fun k' => joinsB (m.ra k') (m.rb k') (m.ra k) (m.rb k)) with
  | none => rw [hf] at e; simp only at e; omega
  | some p =>
    rw [hf] at e
    obtain rfl : p = k := by simp only at e; omega
    obtain ⟨_, us, bs, h1, h2⟩ := List.find?_eq_some_iff_append.1 hf
    have hlt : q ∈ us := by
      have hl := congrArg List.length h1
      simp at hl
      have e1 : (List.range m.nr)[us.length]? = some p := by rw [h1]; simp
      have : us.length = p := by
        rw [List.getElem?_range (by omega)] at e1
        simpa using e1
      have e2 : (List.range m.nr)[q]? = us[q]? := by rw [h1, List.getElem?_append_left (by omega)]
      rw [List.getElem?_range (by omega)] at e2
      exact List.mem_of_getElem? e2.symm
    have := h2 q hlt
    simp [h] at this
set_option maxRecDepth 100000 in
set_option maxHeartbeats 16000000 in
theorem rFault_any (x : MV) (m : Mp) (w : World) (h : MpIn w x m) (hnw : m.nw ≤ 100000) (hnr : m.nr ≤ 100000) :
    Calls Try.prog 73 #[.agg #[.slice x.wa m.nw x.wc, .slice x.ra m.nr x.rc]] w fun e w' => e = .returned (.int .i64 m.fault) ∧ Below w.heap.size w w' := by
  obtain ⟨qa, qc, rda, rdc⟩ := x
  obtain ⟨hwk, hrd⟩ := h
  have HWK := Lib.hid hwk; have HRD := Lib.hid hrd
  clear hwk hrd
  simp only at *
  have HFE : Hid (m.fault = if 8 < m.nw ∨ 20 < m.nr then 3 else if (decide (1 ≤ m.nw) && allB (fun i => insideR (m.wk i) 0 50) m.nw && allB m.roadOk m.nr) = true then 0 else 1) := fault_eq m
  have HA0 : Hid (BF w (w.alloc (.cells #[.slice qa m.nw qc, .slice rda m.nr rdc] 25)) [(w.heap.size, #[.slice qa m.nw qc, .slice rda m.nr rdc], 25)]) := (BF.base w).alloc _ _
  go_enter Try.func73, Try.ntmps73
  go_upto_region 1 with fail
  generalize w.alloc (.cells #[.slice qa m.nw qc, .slice rda m.nr rdc] 25) = w0 at *
  have c0 := HA0.out.cell (.head _) 0
  have c1 := HA0.out.cell (.head _) 1
  by_cases k1 : 8 < m.nw
  · have kb : ((m.nw : Int) > 8) := by omega
    go_wp2_with fail
    go_ret
    exact ⟨ret_int (by rw [HFE.out, if_pos (.inl k1)]), HA0.out.fr⟩
  have kb : ¬ ((m.nw : Int) > 8) := by omega
  by_cases k2 : 20 < m.nr
  · have kc : ((m.nr : Int) > 20) := by omega
    go_wp2_with fail
    go_ret
    exact ⟨ret_int (by rw [HFE.out, if_pos (.inr k2)]), HA0.out.fr⟩
  have kc : ¬ ((m.nr : Int) > 20) := by omega
  have HFE2 : Hid (m.fault = if (decide (1 ≤ m.nw) && allB (fun i => insideR (m.wk i) 0 50) m.nw && allB m.roadOk m.nr) = true then 0 else 1) := by
    have h := HFE.out; rw [if_neg (by omega)] at h; exact h
  clear HFE
  by_cases k3 : m.nw = 0
  · have kd : (m.nw : Int) = 0 := by omega
    go_wp2_with fail
    go_ret
    exact ⟨ret_int (by rw [HFE2.out, k3]; simp), HA0.out.fr⟩
  have kd : ((m.nw : Int) == 0) = false := by simp; omega
  have HFE3 : Hid (m.fault = if (allB (fun i => insideR (m.wk i) 0 50) m.nw && allB m.roadOk m.nr) = true then 0 else 1) := by
    have h := HFE2.out; rw [decide_eq_true (show 1 ≤ m.nw by omega), Bool.true_and] at h; exact h
  clear HFE2
  have HOKD := Lib.hid (fun k => show m.roadOk k = (inB (m.ra k) 0 (m.nw - 1) && inB (m.rb k) 0 (m.nw - 1) && decide (m.ra k ≠ m.rb k) && insideR ((m.rt k).1, (m.rt k).2) 1 50 && decide (m.road (m.ra k) (m.rb k) = k)) from rfl)
  go_wp2_with fail
  go_loopw [3] (fun i wr => ∃ k : Nat, i = .int .i64 k ∧ k ≤ m.nw ∧ (∀ q, q < k → insideR (m.wk q) 0 50 = true) ∧ BF w wr [(w.heap.size, #[.slice qa m.nw qc, .slice rda m.nr rdc], 25)]) (fun i _ => m.nw - (intOf i).toNat)
  case atStart => exact ⟨0, rfl, Nat.zero_le _, fun q h => absurd h (Nat.not_lt_zero _), HA0.out⟩
  case round =>
    clear HA0 c0 c1
    obtain ⟨k, rfl, hk, hall, hbf⟩ := hrel
    have HAL := Lib.hid hall
    have HA0 := Lib.hid hbf
    clear hall hbf
    have c0 := HA0.out.cell (.head _) 0
    have c1 := HA0.out.cell (.head _) 1
    by_cases hlt : k < m.nw
    · obtain ⟨b, off, rfl, hb, x0, x1⟩ := HWK.out.at (k := k) hlt
      have y0 := kept HA0.out.fr hb x0
      have y1 := kept HA0.out.fr hb x1
      have HIS : Hid (insideR (m.wk k) 0 50 = (inB (m.wk k).1 0 (m.wk k).2 && decide ((m.wk k).2 ≤ 50))) := insideR_in _ _
      have HA1 := Lib.hid ((HA0.out.alloc #[.int .i64 (m.wk k).1, .int .i64 (m.wk k).2] 77).sub (L' := [(w.heap.size, #[.slice (some ⟨b, off, none⟩) m.nw qc, .slice rda m.nr rdc], 25)]) (List.forall_mem_cons.2 ⟨.tail _ (.head _), List.forall_mem_nil _⟩))
      have HIA := Lib.hid (fun W => rIn_any (m.wk k).1 0 (m.wk k).2 W)
      have ki : (0 : Int) ≤ (k : Int) := by omega
      have kj : (k : Int) < (m.nw : Int) := by omega
      generalize inB (m.wk k).1 0 (m.wk k).2 = p1 at *
      obtain ⟨ir, HIR⟩ : ∃ ir, Hid (insideR (m.wk k) 0 50 = ir) := ⟨_, rfl⟩
      rw [HIR.out] at HIS
      generalize (m.wk k).1 = lo at *
      generalize (m.wk k).2 = hi at *
      clear x0 x1 hb
      cases p1
      · go_wp2_with (go_at_call 24; refine (HIA.out _).mono ?_; rintro _ _ ⟨rfl, rfl⟩)
        go_ret
        exact ⟨ret_int (by rw [HFE3.out, if_neg]; rw [allB_false hlt (HIR.out.trans (HIS.out.trans (Bool.false_and _)))]; simp), HA1.out.fr⟩
      by_cases h50 : hi ≤ 50
      · have ke : ¬ (hi > 50) := by omega
        go_wp2_with (go_at_call 24; refine (HIA.out _).mono ?_; rintro _ _ ⟨rfl, rfl⟩)
        go_roundw
        case rel => exact ⟨k + 1, by go_num, by omega, (fun q hq => by rcases Nat.lt_succ_iff_lt_or_eq.1 hq with h | rfl; exact HAL.out q h; exact HIR.out.trans (HIS.out.trans (by simp [h50]))), HA1.out⟩
        case measure => simp [intOf]; omega
      · have ke : (hi > 50) := by omega
        go_wp2_with (go_at_call 24; refine (HIA.out _).mono ?_; rintro _ _ ⟨rfl, rfl⟩)
        go_ret
        exact ⟨ret_int (by rw [HFE3.out, if_neg]; rw [allB_false hlt (HIR.out.trans (HIS.out.trans (by simp [h50])))]; simp), HA1.out.fr⟩
    · have hkn : m.nw = k := by omega
      have HFE4 : Hid (m.fault = if allB m.roadOk m.nr = true then 0 else 1) := by
        have h := HFE3.out; rw [allB_true (fun q hq => HAL.out q (by omega)), Bool.true_and] at h; exact h
      clear HFE3 HAL
      have HNW := Lib.hid hkn
      rw [hkn] at HWK HA0 HOKD hnw c0
      have hq : ¬ ((k : Int) < (k : Int)) := by omega
      clear hlt hkn kb kd k1 k3
      go_wp2_with fail
      rename World => wy
      go_loopw [5] (fun i wr => ∃ j : Nat, i = .int .i64 j ∧ j ≤ m.nr ∧ (∀ q, q < j → m.roadOk q = true) ∧ BF w wr [(w.heap.size, #[.slice qa k qc, .slice rda m.nr rdc], 25)]) (fun i _ => m.nr - (intOf i).toNat)
      case atStart => exact ⟨0, rfl, Nat.zero_le _, fun q h => absurd h (Nat.not_lt_zero _), HA0.out⟩
      case round =>
        clear HA0 c0 c1
        obtain ⟨j, rfl, hj, hall, hbf⟩ := hrel
        rename World => wr
        have HAL := Lib.hid hall
        have HA0 := Lib.hid hbf
        clear hall hbf
        have c0 := HA0.out.cell (.head _) 0
        have c1 := HA0.out.cell (.head _) 1
        by_cases hlt : j < m.nr
        · obtain ⟨b, off, rfl, hb, x0, x1, x2, x3⟩ := HRD.out.at (k := j) hlt
          have y0 := kept HA0.out.fr hb x0
          have y1 := kept HA0.out.fr hb x1
          have y2 := kept HA0.out.fr hb x2
          have y3 := kept HA0.out.fr hb x3
          have HIS : Hid (insideR ((m.rt j).1, (m.rt j).2) 1 50 = (inB (m.rt j).1 1 (m.rt j).2 && decide ((m.rt j).2 ≤ 50))) := insideR_in1 _ _
          have HOK : Hid (m.roadOk j = (inB (m.ra j) 0 ((k : Int) - 1) && inB (m.rb j) 0 ((k : Int) - 1) && decide (m.ra j ≠ m.rb j) && (inB (m.rt j).1 1 (m.rt j).2 && decide ((m.rt j).2 ≤ 50)) && decide (m.road (m.ra j) (m.rb j) = j))) := by
            have h := HOKD.out j; rw [HIS.out] at h; exact h
          have HRK := Lib.hid (road_k (m := m) hlt)
          have HRN := Lib.hid (fun q hq hh => road_nk (m := m) (q := q) hlt hq hh)
          obtain ⟨xs, hxs⟩ : ∃ xs, xs = (#[.int .i64 (m.ra j), .int .i64 (m.rb j), .int .i64 (m.rt j).1, .int .i64 (m.rt j).2] : Array Value) := ⟨_, rfl⟩
          have HA1 := Lib.hid (HA0.out.alloc #[.int .i64 (m.ra j), .int .i64 (m.rb j), .int .i64 (m.rt j).1, .int .i64 (m.rt j).2] 79)
          have HI1 := Lib.hid (fun W => rIn_any (m.ra j) 0 ((k : Int) - 1) W)
          have HI2 := Lib.hid (fun W => rIn_any (m.rb j) 0 ((k : Int) - 1) W)
          have HI3 := Lib.hid (fun W => rIn_any (m.rt j).1 1 (m.rt j).2 W)
          have HJN := Lib.hid (fun q W => rJoins_any (m.ra q) (m.rb q) (m.rt q).1 (m.rt q).2 (m.ra j) (m.rb j) W)
          have ki : (0 : Int) ≤ (j : Int) := by omega
          have kj : (j : Int) < (m.nr : Int) := by omega
          have kw : IntKind.i64.wrap ((k : Int) - 1) = (k : Int) - 1 := IntWalk.i64_in _ (by omega)
          generalize inB (m.ra j) 0 ((k : Int) - 1) = p1 at *
          generalize inB (m.rb j) 0 ((k : Int) - 1) = p2 at *
          generalize inB (m.rt j).1 1 (m.rt j).2 = p3 at *
          obtain ⟨rk, HRKK⟩ : ∃ rk, Hid (m.roadOk j = rk) := ⟨_, rfl⟩
          rw [HRKK.out] at HOK
          have HFB : Hid (rk = false → m.fault = 1) := fun h => by rw [HFE4.out, if_neg]; rw [allB_false hlt (HRKK.out.trans h)]; simp
          have HJF := Lib.hid (fun q => show joinsB (m.ra q) (m.rb q) (m.ra j) (m.rb j) = joinsB (m.ra q) (m.rb q) (m.ra j) (m.rb j) from rfl)
          generalize m.road (m.ra j) (m.rb j) = rr at *
          generalize hza : m.ra j = za at *
          generalize hzb : m.rb j = zb at *
          generalize (m.rt j).1 = lo at *
          generalize (m.rt j).2 = hi at *
          clear x0 x1 x2 x3 hb HIS hxs hza hzb
          have T1 : True := trivial
          have hsM := (HA0.out.lt (.head _)).2
          cases p1
          · go_wp2_with (go_at_call 24; refine (HI1.out _).mono ?_; rintro _ _ ⟨rfl, rfl⟩)
            go_ret
            exact ⟨ret_int (HFB.out (by rw [HOK.out]; simp)).symm, HA1.out.fr⟩
          cases p2
          · go_wp2_with (first | (go_at_call 24; have qq := T1; clear qq T1; refine (HI1.out _).mono ?_; rintro _ _ ⟨rfl, rfl⟩; have T2 : True := trivial) | (go_at_call 24; have qq := T2; clear qq T2; refine (HI2.out _).mono ?_; rintro _ _ ⟨rfl, rfl⟩; have T3 : True := trivial))
            go_ret
            exact ⟨ret_int (HFB.out (by rw [HOK.out]; simp)).symm, HA1.out.fr⟩
          by_cases hab : za = zb
          · subst hab
            go_wp2_with (first | (go_at_call 24; have qq := T1; clear qq T1; refine (HI1.out _).mono ?_; rintro _ _ ⟨rfl, rfl⟩; have T2 : True := trivial) | (go_at_call 24; have qq := T2; clear qq T2; refine (HI2.out _).mono ?_; rintro _ _ ⟨rfl, rfl⟩; have T3 : True := trivial))
            go_ret
            exact ⟨ret_int (HFB.out (by rw [HOK.out]; simp)).symm, HA1.out.fr⟩
          have kab : (za == zb) = false := by simp [hab]
          cases p3
          · go_wp2_with (first | (go_at_call 24; have qq := T1; clear qq T1; refine (HI1.out _).mono ?_; rintro _ _ ⟨rfl, rfl⟩; have T2 : True := trivial) | (go_at_call 24; have qq := T2; clear qq T2; refine (HI2.out _).mono ?_; rintro _ _ ⟨rfl, rfl⟩; have T3 : True := trivial) | (go_at_call 24; have qq := T3; clear qq T3; refine (HI3.out _).mono ?_; rintro _ _ ⟨rfl, rfl⟩; have T4 : True := trivial))
            go_ret
            exact ⟨ret_int (HFB.out (by rw [HOK.out]; simp)).symm, HA1.out.fr⟩
          by_cases h50 : hi ≤ 50
          case neg =>
            have ke : (hi > 50) := by omega
            go_wp2_with (first | (go_at_call 24; have qq := T1; clear qq T1; refine (HI1.out _).mono ?_; rintro _ _ ⟨rfl, rfl⟩; have T2 : True := trivial) | (go_at_call 24; have qq := T2; clear qq T2; refine (HI2.out _).mono ?_; rintro _ _ ⟨rfl, rfl⟩; have T3 : True := trivial) | (go_at_call 24; have qq := T3; clear qq T3; refine (HI3.out _).mono ?_; rintro _ _ ⟨rfl, rfl⟩; have T4 : True := trivial))
            go_ret
            exact ⟨ret_int (HFB.out (by rw [HOK.out]; simp [show ¬ hi ≤ 50 from by omega])).symm, HA1.out.fr⟩
          have ke : ¬ (hi > 50) := by omega
          have HOK2 : Hid (rk = decide (rr = j)) := by have h := HOK.out; simp [hab, h50] at h; exact h
          clear HOK
          go_wp2_with (first | (go_at_call 24; have qq := T1; clear qq T1; refine (HI1.out _).mono ?_; rintro _ _ ⟨rfl, rfl⟩; have T2 : True := trivial) | (go_at_call 24; have qq := T2; clear qq T2; refine (HI2.out _).mono ?_; rintro _ _ ⟨rfl, rfl⟩; have T3 : True := trivial) | (go_at_call 24; have qq := T3; clear qq T3; refine (HI3.out _).mono ?_; rintro _ _ ⟨rfl, rfl⟩; have T4 : True := trivial))
          clear HI1 HI2 HI3 y0 y1 y2 y3 c0 c1 HOKD
          have hsz := HA0.out.fr.size
          obtain ⟨RB, hRB⟩ : ∃ RB, wr.heap.size = RB := ⟨_, rfl⟩
          rw [hRB] at HA1 ⊢
          clear hRB
          generalize wr.alloc (.cells #[.int .i64 za, .int .i64 zb, .int .i64 lo, .int .i64 hi] 79) = w5 at *
          go_loopw [7] (fun i wr => ∃ q : Nat, i = .int .i64 q ∧ q ≤ j ∧ (∀ p, p < q → joinsB (m.ra p) (m.rb p) za zb = false) ∧ BF w wr [(RB, #[.int .i64 za, .int .i64 zb, .int .i64 lo, .int .i64 hi], 79), (w.heap.size, #[.slice qa k qc, .slice (some ⟨b, off, none⟩) m.nr rdc], 25)]) (fun i _ => j - (intOf i).toNat)
          case atStart => exact ⟨0, rfl, Nat.zero_le _, fun q h => absurd h (Nat.not_lt_zero _), HA1.out⟩
          case round =>
            clear HA1 HA0
            obtain ⟨q, rfl, hq2, hall, hbf⟩ := hrel
            rename World => wz
            have HA2 := Lib.hid hbf
            have HNO := Lib.hid hall
            clear hbf hall
            have c0 := HA2.out.cell (.tail _ (.head _)) 0
            have c1 := HA2.out.cell (.tail _ (.head _)) 1
            have d0 := HA2.out.cell (.head _) 0
            have d1 := HA2.out.cell (.head _) 1
            by_cases hlq : q < j
            · obtain ⟨b', off', e', hbq, x0, x1, x2, x3⟩ := HRD.out.at (k := q) (by omega)
              cases e'
              have y0 := kept HA2.out.fr hbq x0
              have y1 := kept HA2.out.fr hbq x1
              have y2 := kept HA2.out.fr hbq x2
              have y3 := kept HA2.out.fr hbq x3
              have HJQ := Lib.hid (HJN.out q)
              obtain ⟨jb, HJB⟩ : ∃ jb, Hid (joinsB (m.ra q) (m.rb q) za zb = jb) := ⟨_, rfl⟩
              rw [HJB.out] at HJQ
              have HJB2 : Hid (∀ p, p = q → joinsB (m.ra p) (m.rb p) za zb = jb) := fun p e => by rw [e]; exact HJB.out
              clear HJB
              have qi : (0 : Int) ≤ (q : Int) := by omega
              have qj : (q : Int) < (m.nr : Int) := by omega
              have ql : (q : Int) < (j : Int) := by omega
              generalize m.ra q = ya at *
              generalize m.rb q = yb at *
              generalize (m.rt q).1 = l2 at *
              generalize (m.rt q).2 = h2 at *
              clear HJN
              go_upto_region 20 with fail
              have S4 := y2
              go_region_held3 (fun X => X.cell? ⟨w.heap.size, 1, none⟩ = some (.slice (some ⟨b, off, none⟩) m.nr rdc) ∧ X.cell? ⟨RB, 0, none⟩ = some (.int .i64 za) ∧ X.cell? ⟨RB, 1, none⟩ = some (.int .i64 zb) ∧ X.cell? ⟨b, off + q * 4, none⟩ = some (.int .i64 ya) ∧ X.cell? ⟨b, off + q * 4 + 1, none⟩ = some (.int .i64 yb) ∧ X.cell? ⟨b, off + q * 4 + 2, none⟩ = some (.int .i64 l2) ∧ X.cell? ⟨b, off + q * 4 + 3, none⟩ = some (.int .i64 h2)) (first | (refine ⟨?_, ?_, ?_, ?_, ?_, ?_, ?_⟩ <;> assumption) | go_keep) (first | (go_at_call 100; refine (HJQ.out _).mono ?_; rintro _ w6 ⟨rfl, hb⟩; have HA3 := Lib.hid (HA2.out.below ((Below.refl _ _).drew.trans hb)); have z1 := HA3.out.cell (.tail _ (.head _)) 1; have z2 := HA3.out.cell (.head _) 0; have z3 := HA3.out.cell (.head _) 1; have z4 := kept HA3.out.fr hbq x0; have z5 := kept HA3.out.fr hbq x1; have z6 := kept HA3.out.fr hbq x2; have z7 := kept HA3.out.fr hbq x3; clear hb))
              clear y0 y1 y2 y3 S4 c0 c1 d0 d1 x0 x1 x2 x3 hbq z1 z2 z3 z4 z5 z6 z7
              cases jb
              · go_wp2_with fail
                go_roundw
                case rel => exact ⟨q + 1, by go_num, by omega, (fun p hp => by rcases Nat.lt_succ_iff_lt_or_eq.1 hp with h | rfl; exact HNO.out p h; exact HJB2.out _ rfl), HA3.out⟩
                case measure => simp [intOf]; omega
              · have HRJ := Lib.hid (HRN.out q hlq (HJB2.out q rfl))
                go_wp2_with fail
                go_ret
                exact ⟨ret_int (HFB.out (by rw [HOK2.out]; simp [HRJ.out])).symm, HA3.out.fr⟩
            · obtain rfl : q = j := by omega
              have HRJ := Lib.hid (HRK.out HNO.out)
              have ql : ¬ ((q : Int) < (q : Int)) := by omega
              go_wp2_with fail
              go_roundw
              case rel => exact ⟨q + 1, by go_num, by omega, (fun p hp => by rcases Nat.lt_succ_iff_lt_or_eq.1 hp with h | rfl; exact HAL.out p h; exact HRKK.out.trans (HOK2.out.trans (by simp [HRJ.out]))), HA2.out.sub (List.forall_mem_cons.2 ⟨.tail _ (.head _), List.forall_mem_nil _⟩)⟩
              case measure => simp [intOf]; omega
        · have hjn : m.nr = j := by omega
          go_wp2_with fail
          go_ret
          exact ⟨ret_int (by rw [HFE4.out, if_pos (allB_true (fun q hq => HAL.out q (by omega)))]), HA0.out.fr⟩
theorem thin_any (x : MV) (nw nr : Nat) (w : World) :
    Calls Try.prog 18 #[.agg #[.slice x.wa nw x.wc, .slice x.ra nr x.rc]] w fun e w' => e = .returned (.bool (decide (nw ≤ 11) && decide (nr ≤ 24))) ∧ Below w.heap.size w w' := by
  go_enter Try.func18, Try.ntmps18
  go_wp2
  all_goals go_ret
  all_goals (refine ⟨ret_bool ?_, below_alloc _ _⟩; rw [Bool.eq_iff_iff]; simp; omega)
theorem lfault_any (x : MV) (m : Mp) (w : World) (h : MpIn w x m) (hnw : m.nw ≤ 100000) (hnr : m.nr ≤ 100000) :
    Calls Try.prog 23 #[.agg #[.slice x.wa m.nw x.wc, .slice x.ra m.nr x.rc]] w fun e w' => e = .returned (.int .i64 m.fault) ∧ Below w.heap.size w w' := by
  have HF := Lib.hid (fun W (hW : Below w.heap.size w W) => rFault_any x m W (h.below hW) hnw hnr)
  clear h
  go_enter Try.func23, Try.ntmps23
  have HB := Lib.hid (below_alloc w (.cells #[.slice x.wa m.nw x.wc, .slice x.ra m.nr x.rc] 25))
  go_wp2_with fail
  refine (HF.out _ HB.out).mono ?_
  rintro _ w1 ⟨rfl, hb⟩
  go_wp2_with fail
  go_ret
  exact ⟨rfl, below_step HB.out hb⟩
def readyB (m : Mp) : Bool := decide (m.nw ≤ 11) && decide (m.nr ≤ 24) && decide (m.fault = 0)
set_option maxHeartbeats 4000000 in
theorem ready_any (x : MV) (m : Mp) (w : World) (h : MpIn w x m) (hnw : m.nw ≤ maxLen) (hnr : m.nr ≤ maxLen) :
    Calls Try.prog 35 #[.agg #[.slice x.wa m.nw x.wc, .slice x.ra m.nr x.rc]] w fun e w' => e = .returned (.bool (readyB m)) ∧ Below w.heap.size w w' := by
  have HF := Lib.hid (fun W (hW : Below w.heap.size w W) h1 h2 => lfault_any x m W (h.below hW) h1 h2)
  have HRB : Hid (readyB m = (decide (m.nw ≤ 11) && decide (m.nr ≤ 24) && decide (m.fault = 0))) := rfl
  clear h
  unfold maxLen at hnw hnr
  go_enter Try.func35, Try.ntmps35
  have HB := Lib.hid (below_alloc w (.cells #[.slice x.wa m.nw x.wc, .slice x.ra m.nr x.rc] 25))
  have c0 := cell_of_row _ _ 0 _ _ _ (heap_alloc_new w (.cells #[.slice x.wa m.nw x.wc, .slice x.ra m.nr x.rc] 25))
  have c1 := cell_of_row _ _ 1 _ _ _ (heap_alloc_new w (.cells #[.slice x.wa m.nw x.wc, .slice x.ra m.nr x.rc] 25))
  have hsz : w.heap.size < (w.alloc (.cells #[.slice x.wa m.nw x.wc, .slice x.ra m.nr x.rc] 25)).heap.size := by simp
  go_upto_region 1 with fail
  generalize w.alloc (.cells #[.slice x.wa m.nw x.wc, .slice x.ra m.nr x.rc] 25) = w0 at *
  by_cases hth : m.nw ≤ 11 ∧ m.nr ≤ 24
  · obtain ⟨h1, h2⟩ := hth
    have HT : Hid (∀ W, Calls Try.prog 18 #[.agg #[.slice x.wa m.nw x.wc, .slice x.ra m.nr x.rc]] W fun e w' => e = .returned (.bool true) ∧ Below W.heap.size W w') := fun W => by have h := thin_any x m.nw m.nr W; rw [decide_eq_true h1, decide_eq_true h2] at h; exact h
    have HRB2 : Hid (readyB m = decide (m.fault = 0)) := by have h := HRB.out; rw [decide_eq_true h1, decide_eq_true h2] at h; exact h
    have HF2 := Lib.hid (fun W hW => HF.out W hW (by omega) (by omega))
    clear HF HRB
    generalize m.fault = ft at *
    go_wp2_with (go_at_call 18; refine (HT.out _).mono ?_; rintro _ w1 ⟨rfl, hb⟩; have HB1 := Lib.hid (below_step HB.out hb); have d0 := (hb.cell (p := ⟨w.heap.size, 0, none⟩) hsz).trans c0; have d1 := (hb.cell (p := ⟨w.heap.size, 1, none⟩) hsz).trans c1; clear hb)
    refine (HF2.out _ HB1.out).mono ?_
    rintro _ w2 ⟨rfl, hb⟩
    go_wp2_with fail
    go_ret
    exact ⟨ret_bool (by rw [HRB2.out]; rfl), below_step HB1.out hb⟩
  · have HT : Hid (∀ W, Calls Try.prog 18 #[.agg #[.slice x.wa m.nw x.wc, .slice x.ra m.nr x.rc]] W fun e w' => e = .returned (.bool false) ∧ Below W.heap.size W w') := fun W => by have h := thin_any x m.nw m.nr W; rw [show (decide (m.nw ≤ 11) && decide (m.nr ≤ 24)) = false by rw [Bool.eq_false_iff]; simp; omega] at h; exact h
    have HRB2 : Hid (readyB m = false) := by have h := HRB.out; rw [show (decide (m.nw ≤ 11) && decide (m.nr ≤ 24)) = false by rw [Bool.eq_false_iff]; simp; omega] at h; exact h
    clear HF HRB
    go_wp2_with (go_at_call 18; refine (HT.out _).mono ?_; rintro _ w1 ⟨rfl, hb⟩; have HB1 := Lib.hid (below_step HB.out hb); clear hb)
    go_ret
    exact ⟨ret_bool HRB2.out.symm, HB1.out⟩
end Go.Proofs.Ytpnkgjkoophckaa
