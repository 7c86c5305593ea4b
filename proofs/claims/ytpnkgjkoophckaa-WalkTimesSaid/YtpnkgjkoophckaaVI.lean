/- Walk: IsTruth of the reference. -/
import Derived.Test.YtpnkgjkoophckaaVE
namespace Go.Proofs.Ytpnkgjkoophckaa
open Go.RowKit Go.Shelf

set_option maxRecDepth 100000 in
set_option maxHeartbeats 16000000 in
theorem rTruth_any (x : MV) (m : Mp) (t : TV) (n1 n2 : Nat) (tw tr : Nat → Int) (w : World) (h : MpIn w x m) (h1 : IntsIn w (.slice t.wa n1 t.wc) n1 tw) (h2 : IntsIn w (.slice t.ra n2 t.rc) n2 tr) (hnw : m.nw ≤ 100000) (hnr : m.nr ≤ 100000) :
    Calls Try.prog 59 #[.agg #[.slice x.wa m.nw x.wc, .slice x.ra m.nr x.rc], .agg #[.slice t.wa n1 t.wc, .slice t.ra n2 t.rc]] w fun e w' => e = .returned (.bool (truthB m n1 n2 tw tr)) ∧ Below w.heap.size w w' := by
  obtain ⟨qa, qc, rda, rdc⟩ := x
  obtain ⟨ta, tc, sa, sc⟩ := t
  have HWK := Lib.hid h.wk; have HRD := Lib.hid h.rd
  have HTW := Lib.hid h1; have HTR := Lib.hid h2
  simp only at *
  clear h h1 h2
  have HTB : Hid (truthB m n1 n2 tw tr = (decide (n1 = m.nw) && (decide (n2 = m.nr) && (allB (fun i => inB (tw i) (m.wk i).1 (m.wk i).2) m.nw && allB (fun i => inB (tr i) (m.rt i).1 (m.rt i).2) m.nr)))) := rfl
  generalize truthB m n1 n2 tw tr = tb at *
  have HHI : Hid (∀ a b c W, Calls Try.prog 24 #[.int .i64 a, .int .i64 b, .int .i64 c] W fun e w' => e = .returned (.bool (inB a b c)) ∧ w' = W) := fun a b c W => (rIn_any a b c W).mono fun e w' h => ⟨h.1, h.2.symm⟩
  have HA0 : Hid (BF w ((w.alloc (.cells #[.slice qa m.nw qc, .slice rda m.nr rdc] 25)).alloc (.cells #[.slice ta n1 tc, .slice sa n2 sc] 71)) [(w.heap.size, #[.slice qa m.nw qc, .slice rda m.nr rdc], 25), (w.heap.size + 1, #[.slice ta n1 tc, .slice sa n2 sc], 71)]) := BF.made2 _ _ _ _ _
  go_enter Try.func59, Try.ntmps59
  go_upto_region 1 with fail
  generalize ((w.alloc (.cells #[.slice qa m.nw qc, .slice rda m.nr rdc] 25)).alloc (.cells #[.slice ta n1 tc, .slice sa n2 sc] 71)) = w0 at *
  have c0 := HA0.out.cell (.head _) 0
  have c1 := HA0.out.cell (.head _) 1
  have u0 := HA0.out.cell (.tail _ (.head _)) 0
  have u1 := HA0.out.cell (.tail _ (.head _)) 1
  by_cases k1 : n1 = m.nw
  case neg =>
    have kb : ((n1 : Int) != (m.nw : Int)) = true := by simp; omega
    go_wp2_with fail
    go_ret
    exact ⟨ret_bool (by rw [HTB.out, decide_eq_false k1]; rfl), HA0.out.fr⟩
  subst k1
  by_cases k2 : n2 = m.nr
  case neg =>
    have kb : ((n2 : Int) != (m.nr : Int)) = true := by simp; omega
    go_wp2_with fail
    go_ret
    exact ⟨ret_bool (by rw [HTB.out, decide_eq_false k2]; simp), HA0.out.fr⟩
  subst k2
  have HTB2 : Hid (tb = (allB (fun i => inB (tw i) (m.wk i).1 (m.wk i).2) m.nw && allB (fun i => inB (tr i) (m.rt i).1 (m.rt i).2) m.nr)) := by have h := HTB.out; unfold Hid; simpa using h
  clear HTB
  go_wp2_with fail
  go_loopw [5] (fun i wr => ∃ k : Nat, i = .int .i64 k ∧ k ≤ m.nw ∧ (∀ q, q < k → inB (tw q) (m.wk q).1 (m.wk q).2 = true) ∧ BF w wr [(w.heap.size, #[.slice qa m.nw qc, .slice rda m.nr rdc], 25), (w.heap.size + 1, #[.slice ta m.nw tc, .slice sa m.nr sc], 71)]) (fun i _ => m.nw - (intOf i).toNat)
  case atStart => exact ⟨0, rfl, Nat.zero_le _, fun q h => absurd h (Nat.not_lt_zero _), HA0.out⟩
  case round =>
    clear HA0 c0 c1 u0 u1
    obtain ⟨k, rfl, hk, hall, hbf⟩ := hrel
    have HAL := Lib.hid hall; have HA0 := Lib.hid hbf
    clear hall hbf
    have c0 := HA0.out.cell (.head _) 0
    have c1 := HA0.out.cell (.head _) 1
    have u0 := HA0.out.cell (.tail _ (.head _)) 0
    have u1 := HA0.out.cell (.tail _ (.head _)) 1
    by_cases hlt : k < m.nw
    · obtain ⟨b, off, rfl, hb, x0, x1⟩ := HWK.out.at (k := k) hlt
      obtain ⟨b2, off2, rfl, hb2, x2⟩ := HTW.out.at (k := k) hlt
      have y0 := kept HA0.out.fr hb x0
      have y1 := kept HA0.out.fr hb x1
      have y2 := kept HA0.out.fr hb2 x2
      have ki : (0 : Int) ≤ (k : Int) := by omega
      have kj : (k : Int) < (m.nw : Int) := by omega
      have HH := Lib.hid (HHI.out (tw k) (m.wk k).1 (m.wk k).2)
      have HT : Hid (∀ v, inB (tw k) (m.wk k).1 (m.wk k).2 = v → (v = false → tb = false) ∧ (v = true → ∀ q, q < k + 1 → inB (tw q) (m.wk q).1 (m.wk q).2 = true)) := fun v e => ⟨fun h => by rw [HTB2.out, allB_false hlt (e.trans h)]; rfl, fun h q hq => by rcases Nat.lt_succ_iff_lt_or_eq.1 hq with h1 | rfl; exact HAL.out q h1; exact e.trans h⟩
      obtain ⟨v, hv⟩ : ∃ v, inB (tw k) (m.wk k).1 (m.wk k).2 = v := ⟨_, rfl⟩
      have HT2 := Lib.hid (HT.out v hv)
      rw [hv] at HH
      have DR := Lib.hid (fun n0 => HA0.out.below (below_drewN wr n0))
      clear hv HT x0 x1 x2 hb hb2 HAL
      generalize (m.wk k).1 = lo at *
      generalize (m.wk k).2 = hi at *
      generalize tw k = tk at *
      cases v
      · go_upto_region 6 with fail
        go_quiet ((go_at_call 24; exact Calls.quiet_of_same (HH.out _)))
        go_wp2_with fail
        go_ret
        exact ⟨ret_bool (HT2.out.1 trivial).symm, (DR.out _).fr⟩
      · go_upto_region 6 with fail
        go_quiet ((go_at_call 24; exact Calls.quiet_of_same (HH.out _)))
        go_wp2_with fail
        go_roundw
        case rel => exact ⟨k + 1, by go_num, by omega, HT2.out.2 rfl, DR.out _⟩
        case measure => simp [intOf]; omega
    · have hkn : k = m.nw := by omega
      have HTB3 : Hid (tb = allB (fun i => inB (tr i) (m.rt i).1 (m.rt i).2) m.nr) := by have h := HTB2.out; rw [allB_true (fun q hq => HAL.out q (by omega)), Bool.true_and] at h; exact h
      have HKN := Lib.hid hkn
      rw [HKN.out]
      have kq : ¬ ((m.nw : Int) < (m.nw : Int)) := by omega
      clear hkn hlt HTB2 HAL
      go_wp2_with fail
      go_loopw [6] (fun i wr => ∃ k : Nat, i = .int .i64 k ∧ k ≤ m.nr ∧ (∀ q, q < k → inB (tr q) (m.rt q).1 (m.rt q).2 = true) ∧ BF w wr [(w.heap.size, #[.slice qa m.nw qc, .slice rda m.nr rdc], 25), (w.heap.size + 1, #[.slice ta m.nw tc, .slice sa m.nr sc], 71)]) (fun i _ => m.nr - (intOf i).toNat)
      case atStart => exact ⟨0, rfl, Nat.zero_le _, fun q h => absurd h (Nat.not_lt_zero _), HA0.out⟩
      case round =>
        clear HA0 c0 c1 u0 u1
        obtain ⟨j, rfl, hj, hall, hbf⟩ := hrel
        rename World => wy
        have HAL := Lib.hid hall; have HA0 := Lib.hid hbf
        clear hall hbf
        have c0 := HA0.out.cell (.head _) 0
        have c1 := HA0.out.cell (.head _) 1
        have u0 := HA0.out.cell (.tail _ (.head _)) 0
        have u1 := HA0.out.cell (.tail _ (.head _)) 1
        by_cases hlt : j < m.nr
        · obtain ⟨b, off, rfl, hb, x0, x1, x2, x3⟩ := HRD.out.at (k := j) hlt
          obtain ⟨b2, off2, rfl, hb2, x4⟩ := HTR.out.at (k := j) hlt
          have y2 := kept HA0.out.fr hb x2
          have y3 := kept HA0.out.fr hb x3
          have y4 := kept HA0.out.fr hb2 x4
          have ki : (0 : Int) ≤ (j : Int) := by omega
          have kj : (j : Int) < (m.nr : Int) := by omega
          have HH := Lib.hid (HHI.out (tr j) (m.rt j).1 (m.rt j).2)
          have HT : Hid (∀ v, inB (tr j) (m.rt j).1 (m.rt j).2 = v → (v = false → tb = false) ∧ (v = true → ∀ q, q < j + 1 → inB (tr q) (m.rt q).1 (m.rt q).2 = true)) := fun v e => ⟨fun h => by rw [HTB3.out, allB_false hlt (e.trans h)], fun h q hq => by rcases Nat.lt_succ_iff_lt_or_eq.1 hq with h1 | rfl; exact HAL.out q h1; exact e.trans h⟩
          obtain ⟨v, hv⟩ : ∃ v, inB (tr j) (m.rt j).1 (m.rt j).2 = v := ⟨_, rfl⟩
          have HT2 := Lib.hid (HT.out v hv)
          rw [hv] at HH
          have DR := Lib.hid (fun n0 => HA0.out.below (below_drewN wy n0))
          clear hv HT x0 x1 x2 x3 x4 hb hb2 HAL
          generalize (m.rt j).1 = lo at *
          generalize (m.rt j).2 = hi at *
          generalize tr j = tk at *
          cases v
          · go_upto_region 11 with fail
            go_quiet ((go_at_call 24; exact Calls.quiet_of_same (HH.out _)))
            go_wp2_with fail
            go_ret
            exact ⟨ret_bool (HT2.out.1 trivial).symm, (DR.out _).fr⟩
          · go_upto_region 11 with fail
            go_quiet ((go_at_call 24; exact Calls.quiet_of_same (HH.out _)))
            go_wp2_with fail
            go_roundw
            case rel => exact ⟨j + 1, by go_num, by omega, HT2.out.2 rfl, DR.out _⟩
            case measure => simp [intOf]; omega
        · obtain rfl : j = m.nr := by omega
          go_wp2_with fail
          go_ret
          exact ⟨ret_bool (by rw [HTB3.out, allB_true HAL.out]), HA0.out.fr⟩
end Go.Proofs.Ytpnkgjkoophckaa
