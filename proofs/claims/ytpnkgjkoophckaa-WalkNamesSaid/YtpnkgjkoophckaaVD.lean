/- Walk: truth; Time. -/
import Derived.Test.YtpnkgjkoophckaaVC
namespace Go.Proofs.Ytpnkgjkoophckaa
open Go.RowKit Go.Shelf

/-- A truth is one of a map. -/
def truthB (m : Mp) (n1 n2 : Nat) (tw tr : Nat → Int) : Bool := decide (n1 = m.nw) && (decide (n2 = m.nr) && (allB (fun i => inB (tw i) (m.wk i).1 (m.wk i).2) m.nw && allB (fun i => inB (tr i) (m.rt i).1 (m.rt i).2) m.nr))
set_option maxRecDepth 100000 in
set_option maxHeartbeats 16000000 in
theorem truth_any (x : MV) (m : Mp) (t : TV) (n1 n2 : Nat) (tw tr : Nat → Int) (w : World) (h : MpIn w x m) (h1 : IntsIn w (.slice t.wa n1 t.wc) n1 tw) (h2 : IntsIn w (.slice t.ra n2 t.rc) n2 tr) (hnw : m.nw ≤ 100000) (hnr : m.nr ≤ 100000) :
    Calls Try.prog 87 #[.agg #[.slice x.wa m.nw x.wc, .slice x.ra m.nr x.rc], .agg #[.slice t.wa n1 t.wc, .slice t.ra n2 t.rc]] w fun e w' => e = .returned (.bool (truthB m n1 n2 tw tr)) ∧ Below w.heap.size w w' := by
  obtain ⟨qa, qc, rda, rdc⟩ := x
  obtain ⟨ta, tc, sa, sc⟩ := t
  have HWK := Lib.hid h.wk; have HRD := Lib.hid h.rd
  have HTW := Lib.hid h1; have HTR := Lib.hid h2
  simp only at *
  clear h h1 h2
  have HTB : Hid (truthB m n1 n2 tw tr = (decide (n1 = m.nw) && (decide (n2 = m.nr) && (allB (fun i => inB (tw i) (m.wk i).1 (m.wk i).2) m.nw && allB (fun i => inB (tr i) (m.rt i).1 (m.rt i).2) m.nr)))) := rfl
  generalize truthB m n1 n2 tw tr = tb at *
  have HHW := Lib.hid (fun k W => has_any (m.wk k).1 (m.wk k).2 (tw k) W)
  have HHR := Lib.hid (fun k W => has_any (m.rt k).1 (m.rt k).2 (tr k) W)
  have HA0 : Hid (BF w ((w.alloc (.cells #[.slice qa m.nw qc, .slice rda m.nr rdc] 37)).alloc (.cells #[.slice ta n1 tc, .slice sa n2 sc] 98)) [(w.heap.size, #[.slice qa m.nw qc, .slice rda m.nr rdc], 37), (w.heap.size + 1, #[.slice ta n1 tc, .slice sa n2 sc], 98)]) := BF.made2 _ _ _ _ _
  go_enter Try.func87, Try.ntmps87
  go_upto_region 1 with fail
  generalize ((w.alloc (.cells #[.slice qa m.nw qc, .slice rda m.nr rdc] 37)).alloc (.cells #[.slice ta n1 tc, .slice sa n2 sc] 98)) = w0 at *
  have c0 := HA0.out.cell (.head _) 0
  have c1 := HA0.out.cell (.head _) 1
  have u0 := HA0.out.cell (.tail _ (.head _)) 0
  have u1 := HA0.out.cell (.tail _ (.head _)) 1
  by_cases k1 : n1 = m.nw
  case neg =>
    have kb : ((n1 : Int) != (m.nw : Int)) = true := by simp; omega
    go_wp2_with fail
    go_ret
    exact ⟨ret_bool (by rw [HTB.out, decide_eq_false k1]; rfl), HA0.out.fr⟩
  subst k1
  by_cases k2 : n2 = m.nr
  case neg =>
    have kb : ((n2 : Int) != (m.nr : Int)) = true := by simp; omega
    go_wp2_with fail
    go_ret
    exact ⟨ret_bool (by rw [HTB.out, decide_eq_false k2]; simp), HA0.out.fr⟩
  subst k2
  have HTB2 : Hid (tb = (allB (fun i => inB (tw i) (m.wk i).1 (m.wk i).2) m.nw && allB (fun i => inB (tr i) (m.rt i).1 (m.rt i).2) m.nr)) := by have h := HTB.out; unfold Hid; simpa using h
  clear HTB
  go_wp2_with fail
  go_loopw [28] (fun i wr => ∃ k : Nat, i = .int .i64 k ∧ k ≤ m.nw ∧ (∀ q, q < k → inB (tw q) (m.wk q).1 (m.wk q).2 = true) ∧ BF w wr [(w.heap.size, #[.slice qa m.nw qc, .slice rda m.nr rdc], 37), (w.heap.size + 1, #[.slice ta m.nw tc, .slice sa m.nr sc], 98)]) (fun i _ => m.nw - (intOf i).toNat)
  case atStart => exact ⟨0, rfl, Nat.zero_le _, fun q h => absurd h (Nat.not_lt_zero _), HA0.out⟩
  case round =>
    clear HA0 c0 c1 u0 u1
    obtain ⟨k, rfl, hk, hall, hbf⟩ := hrel
    have HAL := Lib.hid hall; have HA0 := Lib.hid hbf
    clear hall hbf
    have c0 := HA0.out.cell (.head _) 0
    have c1 := HA0.out.cell (.head _) 1
    have u0 := HA0.out.cell (.tail _ (.head _)) 0
    have u1 := HA0.out.cell (.tail _ (.head _)) 1
    by_cases hlt : k < m.nw
    · obtain ⟨b, off, rfl, hb, x0, x1⟩ := HWK.out.at (k := k) hlt
      obtain ⟨b2, off2, rfl, hb2, x2⟩ := HTW.out.at (k := k) hlt
      have y0 := kept HA0.out.fr hb x0
      have y1 := kept HA0.out.fr hb x1
      have y2 := kept HA0.out.fr hb2 x2
      have ki : (0 : Int) ≤ (k : Int) := by omega
      have kj : (k : Int) < (m.nw : Int) := by omega
      have HH := Lib.hid (HHW.out k)
      have HT : Hid (∀ v, inB (tw k) (m.wk k).1 (m.wk k).2 = v → (v = false → tb = false) ∧ (v = true → ∀ q, q < k + 1 → inB (tw q) (m.wk q).1 (m.wk q).2 = true)) := fun v e => ⟨fun h => by rw [HTB2.out, allB_false hlt (e.trans h)]; rfl, fun h q hq => by rcases Nat.lt_succ_iff_lt_or_eq.1 hq with h1 | rfl; exact HAL.out q h1; exact e.trans h⟩
      obtain ⟨v, hv⟩ : ∃ v, inB (tw k) (m.wk k).1 (m.wk k).2 = v := ⟨_, rfl⟩
      have HT2 := Lib.hid (HT.out v hv)
      rw [hv] at HH
      clear hv HT x0 x1 x2 hb hb2 HAL HHW
      generalize (m.wk k).1 = lo at *
      generalize (m.wk k).2 = hi at *
      generalize tw k = tk at *
      cases v
      · go_wp2_with (go_at_call 110; refine (HH.out _).mono ?_; rintro _ w6 ⟨rfl, hb⟩; have HA3 := Lib.hid (HA0.out.below hb); clear hb)
        go_ret
        exact ⟨ret_bool (HT2.out.1 trivial).symm, HA3.out.fr⟩
      · go_wp2_with (go_at_call 110; refine (HH.out _).mono ?_; rintro _ w6 ⟨rfl, hb⟩; have HA3 := Lib.hid (HA0.out.below hb); clear hb)
        go_roundw
        case rel => exact ⟨k + 1, by go_num, by omega, HT2.out.2 trivial, HA3.out⟩
        case measure => simp [intOf]; omega
    · have hkn : k = m.nw := by omega
      have HTB3 : Hid (tb = allB (fun i => inB (tr i) (m.rt i).1 (m.rt i).2) m.nr) := by have h := HTB2.out; rw [allB_true (fun q hq => HAL.out q (by omega)), Bool.true_and] at h; exact h
      have HKN := Lib.hid hkn
      rw [HKN.out]
      have kq : ¬ ((m.nw : Int) < (m.nw : Int)) := by omega
      clear hkn hlt HTB2 HHW HAL
      go_wp2_with fail
      go_loopw [45] (fun i wr => ∃ k : Nat, i = .int .i64 k ∧ k ≤ m.nr ∧ (∀ q, q < k → inB (tr q) (m.rt q).1 (m.rt q).2 = true) ∧ BF w wr [(w.heap.size, #[.slice qa m.nw qc, .slice rda m.nr rdc], 37), (w.heap.size + 1, #[.slice ta m.nw tc, .slice sa m.nr sc], 98)]) (fun i _ => m.nr - (intOf i).toNat)
      case atStart => exact ⟨0, rfl, Nat.zero_le _, fun q h => absurd h (Nat.not_lt_zero _), HA0.out⟩
      case round =>
        clear HA0 c0 c1 u0 u1
        obtain ⟨j, rfl, hj, hall, hbf⟩ := hrel
        rename World => wy
        have HAL := Lib.hid hall; have HA0 := Lib.hid hbf
        clear hall hbf
        have c0 := HA0.out.cell (.head _) 0
        have c1 := HA0.out.cell (.head _) 1
        have u0 := HA0.out.cell (.tail _ (.head _)) 0
        have u1 := HA0.out.cell (.tail _ (.head _)) 1
        by_cases hlt : j < m.nr
        · obtain ⟨b, off, rfl, hb, x0, x1, x2, x3⟩ := HRD.out.at (k := j) hlt
          obtain ⟨b2, off2, rfl, hb2, x4⟩ := HTR.out.at (k := j) hlt
          have y0 := kept HA0.out.fr hb x0
          have y1 := kept HA0.out.fr hb x1
          have y2 := kept HA0.out.fr hb x2
          have y3 := kept HA0.out.fr hb x3
          have y4 := kept HA0.out.fr hb2 x4
          have ki : (0 : Int) ≤ (j : Int) := by omega
          have kj : (j : Int) < (m.nr : Int) := by omega
          have HH := Lib.hid (HHR.out j)
          have HT : Hid (∀ v, inB (tr j) (m.rt j).1 (m.rt j).2 = v → (v = false → tb = false) ∧ (v = true → ∀ q, q < j + 1 → inB (tr q) (m.rt q).1 (m.rt q).2 = true)) := fun v e => ⟨fun h => by rw [HTB3.out, allB_false hlt (e.trans h)], fun h q hq => by rcases Nat.lt_succ_iff_lt_or_eq.1 hq with h1 | rfl; exact HAL.out q h1; exact e.trans h⟩
          obtain ⟨v, hv⟩ : ∃ v, inB (tr j) (m.rt j).1 (m.rt j).2 = v := ⟨_, rfl⟩
          have HT2 := Lib.hid (HT.out v hv)
          rw [hv] at HH
          clear hv HT x0 x1 x2 x3 x4 hb hb2 HAL HHR
          generalize (m.rt j).1 = lo at *
          generalize (m.rt j).2 = hi at *
          generalize tr j = tk at *
          cases v
          · go_wp2_with (go_at_call 110; refine (HH.out _).mono ?_; rintro _ w6 ⟨rfl, hb⟩; have HA3 := Lib.hid (HA0.out.below hb); clear hb)
            go_ret
            exact ⟨ret_bool (HT2.out.1 trivial).symm, HA3.out.fr⟩
          · go_wp2_with (go_at_call 110; refine (HH.out _).mono ?_; rintro _ w6 ⟨rfl, hb⟩; have HA3 := Lib.hid (HA0.out.below hb); clear hb)
            go_roundw
            case rel => exact ⟨j + 1, by go_num, by omega, HT2.out.2 trivial, HA3.out⟩
            case measure => simp [intOf]; omega
        · obtain rfl : j = m.nr := by omega
          go_wp2_with fail
          go_ret
          exact ⟨ret_bool (by rw [HTB3.out, allB_true HAL.out]), HA0.out.fr⟩
/-- The error of Time; its number. -/
def timeE (m : Mp) (y : Wl) (n1 n2 : Nat) (tw tr : Nat → Int) : Int := if m.fault ≠ 0 then m.fault else if walkE m y ≠ 0 then walkE m y else if truthB m n1 n2 tw tr = true then 0 else 2
def timeV (m : Mp) (y : Wl) (n1 n2 : Nat) (tw tr : Nat → Int) : Int := if timeE m y n1 n2 tw tr = 0 then timeZ m y tw tr else 0
set_option maxRecDepth 100000 in
set_option maxHeartbeats 16000000 in
theorem Time_any (x : MV) (m : Mp) (u : LV) (y : Wl) (t : TV) (n1 n2 : Nat) (tw tr : Nat → Int) (w : World) (h : MpIn w x m) (hu : WlIn w u y) (h1 : IntsIn w (.slice t.wa n1 t.wc) n1 tw) (h2 : IntsIn w (.slice t.ra n2 t.rc) n2 tr) (hnw : m.nw ≤ 100000) (hnr : m.nr ≤ 100000) (hl : y.nl ≤ 100000) (hc : y.nc ≤ 100000) :
    Calls Try.prog 52 #[.agg #[.slice x.wa m.nw x.wc, .slice x.ra m.nr x.rc], .agg #[.slice u.ra y.nl u.rc, .slice u.ca y.nc u.cc], .agg #[.slice t.wa n1 t.wc, .slice t.ra n2 t.rc]] w fun e w' => e = .returned (.tuple #[.int .i64 (timeV m y n1 n2 tw tr), .int .i64 (timeE m y n1 n2 tw tr)]) ∧ Below w.heap.size w w' := by
  have HCK := Lib.hid (fun W (hW : Below w.heap.size w W) => check_any x m W (h.below hW) hnw hnr)
  have HWK := Lib.hid (fun W (hW : Below w.heap.size w W) => walk_any x m u y W (h.below hW) (hu.below hW) hnr hl hc)
  have HTR := Lib.hid (fun W (hW : Below w.heap.size w W) => truth_any x m t n1 n2 tw tr W (h.below hW) (h1.below hW) (h2.below hW) hnw hnr)
  have HTE : Hid (timeE m y n1 n2 tw tr = if m.fault ≠ 0 then m.fault else if walkE m y ≠ 0 then walkE m y else if truthB m n1 n2 tw tr = true then 0 else 2) := rfl
  have HTV : Hid (timeV m y n1 n2 tw tr = if timeE m y n1 n2 tw tr = 0 then timeZ m y tw tr else 0) := rfl
  have HTT : Hid (m.fault = 0 → walkE m y = 0 → truthB m n1 n2 tw tr = true → n1 = m.nw ∧ n2 = m.nr ∧ ∀ W, Below w.heap.size w W → Calls Try.prog 88 #[.agg #[.slice x.wa m.nw x.wc, .slice x.ra m.nr x.rc], .agg #[.slice u.ra y.nl u.rc, .slice u.ca y.nc u.cc], .agg #[.slice t.wa m.nw t.wc, .slice t.ra m.nr t.rc]] W fun e w' => e = .returned (.int .i64 (timeZ m y tw tr)) ∧ Below W.heap.size W w') := fun e1 e2 e3 => by
    unfold truthB at e3
    simp only [Bool.and_eq_true, decide_eq_true_eq] at e3
    obtain ⟨rfl, rfl, a1, a2⟩ := e3
    refine ⟨rfl, rfl, fun W hW => ?_⟩
    have ok := okM_of e1
    have b : TrBd m tw tr := ⟨fun i hi => by have := allB_iff.1 a1 i hi; have := ok.wk i hi; simp only [inB, Bool.and_eq_true, decide_eq_true_eq] at *; omega, fun i hi => by have := allB_iff.1 a2 i hi; have := ok.rt i hi; simp only [inB, Bool.and_eq_true, decide_eq_true_eq] at *; omega⟩
    exact time_any x m u y t tw tr W (h.below hW) (hu.below hW) ⟨h1.below hW, h2.below hW⟩ ok (wlOk_of ok e2) hc b
  clear h hu h1 h2
  generalize timeV m y n1 n2 tw tr = tv at *
  generalize timeE m y n1 n2 tw tr = te at *
  generalize truthB m n1 n2 tw tr = tb at *
  generalize m.fault = ft at *
  generalize walkE m y = we at *
  generalize timeZ m y tw tr = tz at *
  have HA0 : Hid (BF w (((w.alloc (.cells #[.slice x.wa m.nw x.wc, .slice x.ra m.nr x.rc] 37)).alloc (.cells #[.slice u.ra y.nl u.rc, .slice u.ca y.nc u.cc] 30)).alloc (.cells #[.slice t.wa n1 t.wc, .slice t.ra n2 t.rc] 98)) [(w.heap.size, #[.slice x.wa m.nw x.wc, .slice x.ra m.nr x.rc], 37), (w.heap.size + 1, #[.slice u.ra y.nl u.rc, .slice u.ca y.nc u.cc], 30), (w.heap.size + 2, #[.slice t.wa n1 t.wc, .slice t.ra n2 t.rc], 98)]) := BF.made3 _ _ _ _ _ _ _
  have HC6 := Lib.hid (fun X (hX : BF w X [(w.heap.size, #[.slice x.wa m.nw x.wc, .slice x.ra m.nr x.rc], 37), (w.heap.size + 1, #[.slice u.ra y.nl u.rc, .slice u.ca y.nc u.cc], 30), (w.heap.size + 2, #[.slice t.wa n1 t.wc, .slice t.ra n2 t.rc], 98)]) => And.intro (And.intro (hX.cell (.head _) 0) (hX.cell (.head _) 1)) (And.intro (And.intro (hX.cell (.tail _ (.head _)) 0) (hX.cell (.tail _ (.head _)) 1)) (And.intro (hX.cell (.tail _ (.tail _ (.head _))) 0) (hX.cell (.tail _ (.tail _ (.head _))) 1))))
  go_enter Try.func52, Try.ntmps52
  go_upto_region 1 with fail
  generalize (((w.alloc (.cells #[.slice x.wa m.nw x.wc, .slice x.ra m.nr x.rc] 37)).alloc (.cells #[.slice u.ra y.nl u.rc, .slice u.ca y.nc u.cc] 30)).alloc (.cells #[.slice t.wa n1 t.wc, .slice t.ra n2 t.rc] 98)) = w0 at *
  obtain ⟨⟨c0, c1⟩, ⟨c2, c3⟩, c4, c5⟩ := HC6.out _ HA0.out
  by_cases k1 : ft = 0
  case neg =>
    have kb : (ft != 0) = true := by simp [k1]
    have hte := HTE.out
    rw [if_pos k1] at hte
    have htv := HTV.out
    rw [if_neg (by rw [hte]; exact k1)] at htv
    clear HTE HTV HTT HWK HTR
    go_wp2_with (go_at_call 51; refine (HCK.out _ HA0.out.fr).mono ?_; rintro _ w1 ⟨rfl, hb⟩; have HA1 := Lib.hid (HA0.out.below hb); clear hb)
    exact bodyPost_ret (v := .tuple #[.int .i64 0, .int .i64 ft]) (by simp [results, Try.results52, go_sem]) rfl ⟨by rw [hte, htv], HA1.out.fr⟩
  subst k1
  by_cases k2 : we = 0
  case neg =>
    have kb : (we != 0) = true := by simp [k2]
    have hte := HTE.out
    rw [if_neg (by simp), if_pos k2] at hte
    have htv := HTV.out
    rw [if_neg (by rw [hte]; exact k2)] at htv
    clear HTE HTV HTT HTR
    go_wp2_with (first | (go_at_call 51; refine (HCK.out _ HA0.out.fr).mono ?_; rintro _ w1 ⟨rfl, hb⟩; have HA1 := Lib.hid (HA0.out.below hb); obtain ⟨⟨d0, d1⟩, ⟨d2, d3⟩, d4, d5⟩ := HC6.out _ HA1.out; clear hb) | (go_at_call 86; refine (HWK.out _ HA1.out.fr).mono ?_; rintro _ w2 ⟨rfl, hb⟩; have HA2 := Lib.hid (HA1.out.below hb); clear hb))
    exact bodyPost_ret (v := .tuple #[.int .i64 0, .int .i64 we]) (by simp [results, Try.results52, go_sem]) rfl ⟨by rw [hte, htv], HA2.out.fr⟩
  subst k2
  have HTE2 : Hid (te = if tb = true then 0 else 2) := HTE.out
  clear HTE
  cases tb
  · have hte : te = 2 := HTE2.out
    have htv := HTV.out
    rw [if_neg (by rw [hte]; decide)] at htv
    clear HTE2 HTV HTT
    go_wp2_with (first | (go_at_call 51; refine (HCK.out _ HA0.out.fr).mono ?_; rintro _ w1 ⟨rfl, hb⟩; have HA1 := Lib.hid (HA0.out.below hb); obtain ⟨⟨d0, d1⟩, ⟨d2, d3⟩, d4, d5⟩ := HC6.out _ HA1.out; clear hb) | (go_at_call 86; refine (HWK.out _ HA1.out.fr).mono ?_; rintro _ w2 ⟨rfl, hb⟩; have HA2 := Lib.hid (HA1.out.below hb); obtain ⟨⟨e0, e1⟩, ⟨e2, e3⟩, e4, e5⟩ := HC6.out _ HA2.out; clear hb) | (go_at_call 87; refine (HTR.out _ HA2.out.fr).mono ?_; rintro _ w3 ⟨rfl, hb⟩; have HA3 := Lib.hid (HA2.out.below hb); clear hb))
    exact bodyPost_ret (v := .tuple #[.int .i64 0, .int .i64 2]) (by simp [results, Try.results52, go_sem]) rfl ⟨by rw [hte, htv], HA3.out.fr⟩
  · have hte : te = 0 := HTE2.out
    have htv := HTV.out
    rw [if_pos hte] at htv
    obtain ⟨rfl, rfl, htt⟩ := HTT.out rfl rfl rfl
    have HTI := Lib.hid htt
    clear HTE2 HTV HTT htt
    go_wp2_with (first | (go_at_call 51; refine (HCK.out _ HA0.out.fr).mono ?_; rintro _ w1 ⟨rfl, hb⟩; have HA1 := Lib.hid (HA0.out.below hb); obtain ⟨⟨d0, d1⟩, ⟨d2, d3⟩, d4, d5⟩ := HC6.out _ HA1.out; clear hb) | (go_at_call 86; refine (HWK.out _ HA1.out.fr).mono ?_; rintro _ w2 ⟨rfl, hb⟩; have HA2 := Lib.hid (HA1.out.below hb); obtain ⟨⟨e0, e1⟩, ⟨e2, e3⟩, e4, e5⟩ := HC6.out _ HA2.out; clear hb) | (go_at_call 87; refine (HTR.out _ HA2.out.fr).mono ?_; rintro _ w3 ⟨rfl, hb⟩; have HA3 := Lib.hid (HA2.out.below hb); obtain ⟨⟨f0, f1⟩, ⟨f2, f3⟩, f4, f5⟩ := HC6.out _ HA3.out; clear hb) | (go_at_call 88; refine (HTI.out _ HA3.out.fr).mono ?_; rintro _ w4 ⟨rfl, hb⟩; have HA4 := Lib.hid (HA3.out.below hb); clear hb))
    exact bodyPost_ret (v := .tuple #[.int .i64 tz, .int .i64 0]) (by simp [results, Try.results52, go_sem]) rfl ⟨by rw [hte, htv], HA4.out.fr⟩
end Go.Proofs.Ytpnkgjkoophckaa
