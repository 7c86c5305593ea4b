/- Walk: the reference's Tour. By hand. -/
import Derived.Test.YtpnkgjkoophckaaVQ
namespace Go.Proofs.Ytpnkgjkoophckaa
open Go.RowKit Go.Shelf

/-- The longest times of the counted places among the first. -/
def hsN (m : Mp) (s k : Nat) : Int := hiS m (plcN k s)
theorem hsN_zero (m : Mp) (s : Nat) : hsN m s 0 = 0 := rfl
theorem hsN_succ (m : Mp) (s k : Nat) : hsN m s (k + 1) = if s.testBit k = true then hsN m s k + (m.wk k).2 else hsN m s k := by
  unfold hsN
  rw [plcN_succ]
  split
  · exact hiS_snoc m _ k
  · rfl
theorem hsN_bd {m : Mp} (ok : OkM m) {s : Nat} (hs : s < 2 ^ m.nw) (k : Nat) (hk : k ≤ 8) : 0 ≤ hsN m s k ∧ hsN m s k ≤ 400 := by
  have h := hiS_bd ok (plcN k s) (fun p hp => sub_sub hs (plcN_mem.1 hp).2)
  have h2 := plcN_len k s
  unfold hsN
  omega
theorem hsN_end {m : Mp} (ok : OkM m) {s : Nat} (hs : s < 2 ^ m.nw) : rsT m 0 s + hsN m s m.nw = lgM m s := by
  unfold hsN
  rw [plcN_nw ok hs]
  rfl
/-- What the reference's Tour returns. -/
def tuM (m : Mp) (s : Nat) : Int := min (lgM m s) 1048576
set_option maxRecDepth 100000 in
set_option maxHeartbeats 16000000 in
theorem rTour_any {m : Mp} (ok : OkM m) (x : MV) {s : Nat} (hs : s < 2 ^ m.nw) (w : World) (h : MpIn w x m) :
    Calls Try.prog 25 #[.agg #[.slice x.wa m.nw x.wc, .slice x.ra m.nr x.rc], .agg (w64 (allW m)), .int .i64 (s : Int)] w fun e w' => e = .returned (.int .i64 (tuM m s)) ∧ Below w.heap.size w w' := by
  obtain ⟨pa, pc, qa, qc⟩ := x
  simp only at *
  have hn := ok.nw
  have h8 := two8 ok hs
  have HRO := Lib.hid (fun W => rRound_any ok ⟨pa, pc, qa, qc⟩ hs hn.1 W)
  have HWK := Lib.hid (fun W (hW : Below w.heap.size w W) => (h.below hW).wk)
  have HBD := Lib.hid (hsN_bd ok hs)
  have HSU := Lib.hid (hsN_succ m s)
  have hrb := rsT_bd ok hn.1 hs
  have hEN := hsN_end ok hs
  have HWB := Lib.hid (fun n (hn : n < m.nw) => (ok.wk n hn))
  obtain ⟨rv, hrv⟩ : ∃ rv, rsT m 0 s = rv := ⟨_, rfl⟩
  rw [hrv] at hrb hEN HRO
  clear hrv
  have HEN : Hid (tuM m s = min (rv + hsN m s m.nw) 1048576) := by unfold Hid tuM; rw [hEN]
  clear hEN ok h
  have HA0 : Hid (BF w ((w.alloc (.cells #[.slice pa m.nw pc, .slice qa m.nr qc] 25)).alloc (.cells (w64 (allW m)) 46)) [(w.heap.size, #[.slice pa m.nw pc, .slice qa m.nr qc], 25), (w.heap.size + 1, w64 (allW m), 46)]) := BF.made2 _ _ _ _ _
  go_enter Try.func25, Try.ntmps25
  go_upto_region 1 with (refine wpList_box_row (o := ⟨some 4, .box 46 (.tmp 1), _, _, _, _⟩) rfl 46 (.tmp 1) rfl (w64 (allW m)) rfl ?_)
  generalize ((w.alloc (.cells #[.slice pa m.nw pc, .slice qa m.nr qc] 25)).alloc (.cells (w64 (allW m)) 46)) = w0 at *
  have c0 := HA0.out.cell (.head _) 0
  have c1 := HA0.out.cell (.head _) 1
  have HG := Lib.hid (HA0.out.bk _ _ _ (.tail _ (.head _))).2
  have HSZ := Lib.hid (w64_info (allW m))
  go_wp2_with (first | (with_reducible refine wpList_load_row (o := ⟨some 10, .load 46 (.tmp 4), _, _, _, _⟩) rfl 46 (.tmp 4) rfl (w.heap.size + 1) rfl 46 (w64 (allW m)) (0, 0) _ HG.out Try.underlying46 rfl HSZ.out ?_) | (go_at_call 74; refine (HRO.out _).mono ?_; rintro _ w1 ⟨rfl, hb⟩; have HA1 := Lib.hid (HA0.out.below hb); clear hb HG HSZ c0 c1))
  clear HA0 HRO
  go_loopw [7, 8] (fun s7 i wr => ∃ n : Nat, i = .int .i64 n ∧ n ≤ m.nw ∧ s7 = .int .i64 (rv + hsN m s n) ∧ BF w wr [(w.heap.size, #[.slice pa m.nw pc, .slice qa m.nr qc], 25), (w.heap.size + 1, w64 (allW m), 46)]) (fun _ i _ => m.nw - (intOf i).toNat)
  case atStart => exact ⟨0, rfl, Nat.zero_le _, by rw [hsN_zero, Int.add_zero], HA1.out⟩
  case round =>
    clear HA1
    obtain ⟨n, rfl, hnn, rfl, hbf⟩ := hrel
    have HA1 := Lib.hid hbf
    clear hbf
    have c0 := HA1.out.cell (.head _) 0
    by_cases hlt : n < m.nw
    · have hn8 : n < 8 := by omega
      have hb2 : ((((s : Nat) : Int) / 2 ^ n).tmod 2 == 1) = s.testBit n := bit_two ⟨s, h8⟩ ⟨n, hn8⟩
      have hsk := HSU.out n
      have hbd := HBD.out n (by omega)
      have hwb := HWB.out n hlt
      have ki : (0 : Int) ≤ (n : Int) := by omega
      have kj : (n : Int) < (m.nw : Int) := by omega
      have k8 : (n : Int) < 8 := by omega
      obtain ⟨bv, hbv⟩ : ∃ bv, hsN m s n = bv := ⟨_, rfl⟩
      obtain ⟨bn, hbn⟩ : ∃ bn, hsN m s (n + 1) = bn := ⟨_, rfl⟩
      have HBS := Lib.hid hbn
      rw [hbv, hbn] at hsk
      rw [hbv] at hbd ⊢
      clear hbv hbn
      cases hbb : s.testBit n
      · rw [hbb] at hb2 hsk
        have hbe : bn = bv := hsk
        clear hsk hbb
        subst hbe
        go_wp2_with fail
        go_roundw
        case rel => exact ⟨n + 1, by go_num, by omega, by rw [HBS.out], HA1.out⟩
        case measure => simp [intOf]; omega
      · rw [hbb] at hb2 hsk
        rw [if_pos rfl] at hsk
        obtain ⟨b, off, rfl, hb, x0, x1⟩ := (HWK.out _ HA1.out.fr).at (k := n) hlt
        clear hb x0
        obtain ⟨pv, hpv⟩ : ∃ pv, (m.wk n).2 = pv := ⟨_, rfl⟩
        rw [hpv] at hsk hwb x1
        clear hpv
        have kw : IntKind.i64.wrap (rv + bv + pv) = rv + bn := (IntWalk.i64_in _ (by omega)).trans (by omega)
        clear hsk hbb
        go_wp2_with fail
        go_roundw
        case rel => exact ⟨n + 1, by go_num, by omega, by rw [HBS.out], HA1.out⟩
        case measure => simp [intOf]; omega
    · have hnw : n = m.nw := by omega
      have hni : (n : Int) = (m.nw : Int) := by omega
      have hbd := HBD.out m.nw (by omega)
      have he := HEN.out
      rw [hnw]
      clear hnw hlt hnn hni
      obtain ⟨bv, hbv⟩ : ∃ bv, hsN m s m.nw = bv := ⟨_, rfl⟩
      rw [hbv] at hbd he ⊢
      have HRV := Lib.hid he
      clear hbv he HEN
      have kq : ¬ ((m.nw : Int) < (m.nw : Int)) := by omega
      by_cases kmin : (1048576 : Int) < rv + bv
      · go_wp2_with fail
        go_ret
        exact ⟨congrArg (fun z => Ending.returned (.int .i64 z)) (by rw [HRV.out]; omega), HA1.out.fr⟩
      · go_wp2_with fail
        go_ret
        exact ⟨congrArg (fun z => Ending.returned (.int .i64 z)) (by rw [HRV.out]; omega), HA1.out.fr⟩
end Go.Proofs.Ytpnkgjkoophckaa
