/- Walk: Tour. -/
import Derived.Test.YtpnkgjkoophckaaWV
namespace Go.Proofs.Ytpnkgjkoophckaa
open Go.RowKit Go.Shelf Go.Maps

/-- The set of some places. -/
def orL (z : Nat → Int) : Nat → Nat
  | 0 => 0
  | k + 1 => orL z k ||| 2 ^ (z k).toNat
theorem orL_lt {z : Nat → Int} {nw : Nat} : ∀ k, (∀ j, j < k → 0 ≤ z j ∧ z j < nw) → orL z k < 2 ^ nw
  | 0, _ => Nat.two_pow_pos nw
  | k + 1, h => by
    have h1 := orL_lt k (fun j hj => h j (by omega))
    have h2 := h k (by omega)
    exact Nat.or_lt_two_pow h1 (Nat.pow_lt_pow_right (by decide) (by omega))
def placesB (m : Mp) (z : Nat → Int) (n : Nat) : Bool := risesB z n && allB (fun j => inB (z j) 0 ((m.nw : Int) - 1)) n
/-- The error of Tour. -/
def tourE (m : Mp) (z : Nat → Int) (n : Nat) : Int := if m.fault ≠ 0 then m.fault else if placesB m z n = true then (if 1048576 ≤ lgM m (orL z n) then 7 else 0) else 2
theorem BF.frm {w X Y : World} {L : List (Nat × Array Value × TypeId)} {bm : Nat} (h : BF w X L) (hf : Fr (fun q => q = bm) X Y) (hb : w.heap.size ≤ bm) (hx : ∀ p, p ∈ L → p.1 ≠ bm) : BF w Y L :=
  h.fro hf (fun q hq e => by omega) hx
set_option maxRecDepth 100000 in
set_option maxHeartbeats 16000000 in
theorem Tour_any (x : MV) (m : Mp) (a : Option Addr) (n cap : Nat) (z : Nat → Int) (w : World) (h : MpIn w x m) (hz : IntsIn w (.slice a n cap) n z) (hnw : m.nw ≤ 100000) (hnr : m.nr ≤ 100000) (hn : n ≤ 100000) :
    Calls Try.prog 20 #[.agg #[.slice x.wa m.nw x.wc, .slice x.ra m.nr x.rc], .slice a n cap] w fun e w' => Below w.heap.size w w' ∧
      ((tourE m z n ≠ 0 ∧ e = .returned (.tuple #[.agg #[.slice none 0 0, .slice none 0 0], .int .i64 0, .int .i64 (tourE m z n)])) ∨
       (tourE m z n = 0 ∧ ∃ y : LV, e = .returned (.tuple #[.agg #[.slice y.ra (tourL m (orL z n)).length y.rc, .slice y.ca (plc (orL z n)).length y.cc], .int .i64 (lgM m (orL z n)), .int .i64 0]) ∧ WlOwn w.heap.size w' y (tourL m (orL z n)) (plc (orL z n)))) := by
  have HMP := Lib.hid h; have HIZ := Lib.hid hz
  have HCK := Lib.hid (fun W (hW : Below w.heap.size w W) => check_any x m W (h.below hW) hnw hnr)
  have HRI := Lib.hid (fun W (hW : Below w.heap.size w W) => rises_any a n cap z W hn (hz.below hW))
  have HAL := Lib.hid (fun W (hW : Below w.heap.size w W) => all_place n a cap x m.nw m.nr z W hn (by omega) (hz.below hW))
  have HTE : Hid (tourE m z n = if m.fault ≠ 0 then m.fault else if placesB m z n = true then (if 1048576 ≤ lgM m (orL z n) then 7 else 0) else 2) := rfl
  have HPB : Hid (placesB m z n = (risesB z n && allB (fun j => inB (z j) 0 ((m.nw : Int) - 1)) n)) := rfl
  have HOKM := Lib.hid (okM_of (m := m))
  have HZA := Lib.hid (fun (h : allB (fun j => inB (z j) 0 ((m.nw : Int) - 1)) n = true) j (hj : j < n) => show 0 ≤ z j ∧ z j < m.nw by have := allB_iff.1 h j hj; simp only [inB, Bool.and_eq_true, decide_eq_true_eq] at this; omega)
  clear h hz
  generalize tourE m z n = te at *
  generalize placesB m z n = pb at *
  generalize risesB z n = ri at *
  generalize allB (fun j => inB (z j) 0 ((m.nw : Int) - 1)) n = al at *
  generalize m.fault = ft at *
  have HA0 : Hid (BF w ((w.alloc (.cells #[.slice x.wa m.nw x.wc, .slice x.ra m.nr x.rc] 37)).alloc (.cells #[.slice none 0 0, .slice none 0 0] 30)) [(w.heap.size, #[.slice x.wa m.nw x.wc, .slice x.ra m.nr x.rc], 37), (w.heap.size + 1, #[.slice none 0 0, .slice none 0 0], 30)]) := BF.made2 _ _ _ _ _
  go_enter Try.func20, Try.ntmps20
  go_wp2_with fail
  generalize ((w.alloc (.cells #[.slice x.wa m.nw x.wc, .slice x.ra m.nr x.rc] 37)).alloc (.cells #[.slice none 0 0, .slice none 0 0] 30)) = w0 at *
  refine (HCK.out _ HA0.out.fr).mono ?_
  rintro _ w1 ⟨rfl, hb⟩
  have HA1 := Lib.hid (HA0.out.below hb)
  clear hb HA0 HCK
  by_cases k1 : ft = 0
  case neg =>
    have e0 := HA1.out.cell (.tail _ (.head _)) 0
    have e1 := HA1.out.cell (.tail _ (.head _)) 1
    have f0 := HA1.out.thaw (.tail _ (.head _)) 0
    have f1 := HA1.out.thaw (.tail _ (.head _)) 1
    have HA2 := Lib.hid (HA1.out.set2 (.tail _ (.head _)) (.slice none 0 0) (.slice none 0 0) (L' := []) (List.forall_mem_nil _))
    have kb : (ft != 0) = true := by simp [k1]
    go_wp2_with fail
    have g0 := HA2.out.cell (.head _) 0
    have g1 := HA2.out.cell (.head _) 1
    have hte := HTE.out
    rw [if_pos k1] at hte
    exact bodyPost_ret (v := .tuple #[.agg #[.slice none 0 0, .slice none 0 0], .int .i64 0, .int .i64 ft]) (by simp [results, Try.results20, go_sem, g0, g1]) rfl ⟨HA2.out.fr, .inl ⟨by rw [hte]; exact k1, by rw [hte]⟩⟩
  subst k1
  have hok := HOKM.out rfl
  have HTE2 : Hid (te = if pb = true then (if 1048576 ≤ lgM m (orL z n) then 7 else 0) else 2) := HTE.out
  have c0 := HA1.out.cell (.head _) 0; have c1 := HA1.out.cell (.head _) 1
  clear HTE HOKM
  cases hpb : pb
  · have HTE3 : Hid (te = 2) := by rw [hpb] at HTE2; exact HTE2.out
    rw [hpb] at HPB
    clear hpb HTE2
    cases ri
    · go_wp2_with (go_at_call 67; refine (HRI.out _ HA1.out.fr).mono ?_; rintro _ w2 ⟨rfl, hb⟩; have HA2 := Lib.hid (HA1.out.below hb); have e0 := HA2.out.cell (.tail _ (.head _)) 0; have e1 := HA2.out.cell (.tail _ (.head _)) 1; have f0 := HA2.out.thaw (.tail _ (.head _)) 0; have f1 := HA2.out.thaw (.tail _ (.head _)) 1; have HA3 := Lib.hid (HA2.out.set2 (.tail _ (.head _)) (.slice none 0 0) (.slice none 0 0) (L' := []) (List.forall_mem_nil _)); clear hb)
      have g0 := HA3.out.cell (.head _) 0
      have g1 := HA3.out.cell (.head _) 1
      exact bodyPost_ret (v := .tuple #[.agg #[.slice none 0 0, .slice none 0 0], .int .i64 0, .int .i64 2]) (by simp [results, Try.results20, go_sem, g0, g1]) rfl ⟨HA3.out.fr, .inl ⟨by rw [HTE3.out]; decide, by rw [HTE3.out]⟩⟩
    · have hal : al = false := by have := HPB.out; simpa using this.symm
      subst hal
      go_wp2_with (first | (go_at_call 67; refine (HRI.out _ HA1.out.fr).mono ?_; rintro _ w2 ⟨rfl, hb⟩; have HA2 := Lib.hid (HA1.out.below hb); clear hb) | (go_at_call 68; refine (HAL.out _ HA2.out.fr).mono ?_; rintro _ w3 ⟨rfl, hb⟩; have HA3 := Lib.hid (HA2.out.below hb); have e0 := HA3.out.cell (.tail _ (.head _)) 0; have e1 := HA3.out.cell (.tail _ (.head _)) 1; have f0 := HA3.out.thaw (.tail _ (.head _)) 0; have f1 := HA3.out.thaw (.tail _ (.head _)) 1; have HA4 := Lib.hid (HA3.out.set2 (.tail _ (.head _)) (.slice none 0 0) (.slice none 0 0) (L' := []) (List.forall_mem_nil _)); clear hb))
      have g0 := HA4.out.cell (.head _) 0
      have g1 := HA4.out.cell (.head _) 1
      exact bodyPost_ret (v := .tuple #[.agg #[.slice none 0 0, .slice none 0 0], .int .i64 0, .int .i64 2]) (by simp [results, Try.results20, go_sem, g0, g1]) rfl ⟨HA4.out.fr, .inl ⟨by rw [HTE3.out]; decide, by rw [HTE3.out]⟩⟩
  · have HTE3 : Hid (te = if 1048576 ≤ lgM m (orL z n) then 7 else 0) := by rw [hpb] at HTE2; exact HTE2.out
    have hra : ri = true ∧ al = true := by have := HPB.out; rw [hpb] at this; simpa using this.symm
    obtain ⟨hri, hal⟩ := hra
    subst hri hal
    have HZB := Lib.hid (HZA.out rfl)
    have hsl : orL z n < 2 ^ m.nw := orL_lt n HZB.out
    clear hpb HTE2 HZA HPB
    go_wp2_with (first | (go_at_call 67; refine (HRI.out _ HA1.out.fr).mono ?_; rintro _ w2 ⟨rfl, hb⟩; have HA2 := Lib.hid (HA1.out.below hb); clear hb) | (go_at_call 68; refine (HAL.out _ HA2.out.fr).mono ?_; rintro _ w3 ⟨rfl, hb⟩; have HA3 := Lib.hid (HA2.out.below hb); clear hb))
    clear HA1 HA2 HRI HAL c0 c1
    have hs8 : ∀ k, k ≤ n → orL z k < 256 := fun k hk => Nat.lt_of_lt_of_le (orL_lt k (fun j hj => HZB.out j (by omega))) (Nat.pow_le_pow_right (by decide) hok.nw.2)
    have hnw8 := hok.nw
    go_loopw [9, 33] (fun s i wr => ∃ k : Nat, i = .int .i64 k ∧ k ≤ n ∧ s = .int .i64 (orL z k : Nat) ∧ wr = w3) (fun _ i _ => n - (intOf i).toNat)
    case atStart => exact ⟨0, rfl, Nat.zero_le _, rfl, rfl⟩
    case round =>
      obtain ⟨k, rfl, hk, rfl, rfl⟩ := hrel
      by_cases hlt : k < n
      · obtain ⟨b, off, rfl, hb, x0⟩ := HIZ.out.at hlt
        have y0 := kept HA3.out.fr hb x0
        obtain ⟨h1, h2⟩ := HZB.out k hlt
        obtain ⟨q, hq⟩ : ∃ q : Nat, z k = q := ⟨(z k).toNat, by omega⟩
        have hq8 : q < 8 := by omega
        have HOR : Hid (bits BinOp.or IntKind.i64 ((orL z k : Nat) : Int) (wrap64 (2 ^ q)) = ((orL z k ||| 2 ^ q : Nat) : Int)) := bit_or ⟨orL z k, hs8 k hk⟩ ⟨q, hq8⟩
        have HOS : Hid (orL z (k + 1) = orL z k ||| 2 ^ q) := by unfold Hid; simp only [orL]; rw [hq, Int.toNat_natCast]
        rw [hq] at y0
        have qi : (0 : Int) ≤ (q : Int) := by omega
        clear x0 hq h1 h2
        go_wp2_with fail
        go_roundw
        case rel => exact ⟨k + 1, by go_num, by omega, by rw [HOS.out]; first | exact congrArg (Value.int IntKind.i64) HOR.out | exact HOR.out, trivial⟩
        case measure => simp [intOf]; omega
      · obtain rfl : k = n := by omega
        have m0 := HA3.out.cell (.head _) 0; have m1 := HA3.out.cell (.head _) 1
        have HAT := Lib.hid (fun W (hW : Below w.heap.size w W) => atlas_any x m W (HMP.out.below hW) hok)
        have HOK := Lib.hid hok
        have hw1 := HA3.out.fr.size
        have hw2 := (HA3.out.lt (.tail _ (.head _))).2
        unfold GivesA at HAT
        have hlb := lgM_bd hok hsl
        by_cases hfar : 1048576 ≤ lgM m (orL z k)
        · have HTE4 : Hid (te = 7) := by rw [if_pos hfar] at HTE3; exact HTE3.out
          have kb : (lgM m (orL z k) ≥ 1048576) := hfar
          go_wp2_with (first | (go_at_call 69; refine (HAT.out _ HA3.out.fr).mono ?_; rintro _ w4 ⟨rfl, hat, hmp, hb⟩; have HA4 := Lib.hid (HA3.out.below hb); have HS4 := Lib.hid (At.made hat hmp ((HMP.out.below HA3.out.fr).below hb)); have HMB := Lib.hid (show wr.heap.size + 1 < w4.heap.size from (Array.getElem?_eq_some_iff.1 hmp).1); clear hat hmp hb) | (go_at_call 70; refine (longest_any HOK.out x _ _ _ 0 hsl (by omega) _ HS4.out).mono ?_; rintro _ w5 ⟨rfl, hs5, hf5⟩; have HA5 := Lib.hid (HA4.out.frm hf5 (by omega) (List.forall_mem_cons.2 ⟨(by show w.heap.size ≠ wr.heap.size + 1; omega), List.forall_mem_cons.2 ⟨(by show w.heap.size + 1 ≠ wr.heap.size + 1; omega), List.forall_mem_nil _⟩⟩)); have e0 := HA5.out.cell (.tail _ (.head _)) 0; have e1 := HA5.out.cell (.tail _ (.head _)) 1; have f0 := HA5.out.thaw (.tail _ (.head _)) 0; have f1 := HA5.out.thaw (.tail _ (.head _)) 1; have HA6 := Lib.hid (HA5.out.set2 (.tail _ (.head _)) (.slice none 0 0) (.slice none 0 0) (L' := []) (List.forall_mem_nil _)); clear hs5 hf5))
          have g0 := HA6.out.cell (.head _) 0
          have g1 := HA6.out.cell (.head _) 1
          exact bodyPost_ret (v := .tuple #[.agg #[.slice none 0 0, .slice none 0 0], .int .i64 0, .int .i64 7]) (by simp [results, Try.results20, go_sem, g0, g1]) rfl ⟨HA6.out.fr, .inl ⟨by rw [HTE4.out]; decide, by rw [HTE4.out]⟩⟩
        · have HTE4 : Hid (te = 0) := by rw [if_neg hfar] at HTE3; exact HTE3.out
          have hrf : (rest (tmA m) 0 (orL z k)).1 < 1048576 := by
            have h1 := (hiS_bd hok (plc (orL z k)) (fun p hp => sub_sub hsl (plc_mem.1 hp).2)).1
            unfold lgM at hfar
            omega
          have kb : ¬ (1048576 ≤ lgM m (orL z k)) := hfar
          go_wp2_with (first | (go_at_call 69; refine (HAT.out _ HA3.out.fr).mono ?_; rintro _ w4 ⟨rfl, hat, hmp, hb⟩; have HA4 := Lib.hid (HA3.out.below hb); have HS4 := Lib.hid (At.made hat hmp ((HMP.out.below HA3.out.fr).below hb)); have HMB := Lib.hid (show wr.heap.size + 1 < w4.heap.size from (Array.getElem?_eq_some_iff.1 hmp).1); clear hat hmp hb) | (go_at_call 70; refine (longest_any HOK.out x _ _ _ 0 hsl (by omega) _ HS4.out).mono ?_; rintro _ w5 ⟨rfl, hs5, hf5⟩; have HS5 := Lib.hid hs5; have HA5 := Lib.hid (HA4.out.frm hf5 (by omega) (List.forall_mem_cons.2 ⟨(by show w.heap.size ≠ wr.heap.size + 1; omega), List.forall_mem_cons.2 ⟨(by show w.heap.size + 1 ≠ wr.heap.size + 1; omega), List.forall_mem_nil _⟩⟩)); clear hs5 hf5) | (go_at_call 71; refine (tour_any HOK.out x _ _ _ _ hsl hrf (by omega) _ HS5.out).mono ?_; rintro _ w6 ⟨y, rfl, hwo, hs6, hf6⟩; have HA6 := Lib.hid (HA5.out.frm hf6 (by omega) (List.forall_mem_cons.2 ⟨(by show w.heap.size ≠ wr.heap.size + 1; omega), List.forall_mem_cons.2 ⟨(by show w.heap.size + 1 ≠ wr.heap.size + 1; omega), List.forall_mem_nil _⟩⟩)); have HWO := Lib.hid hwo; have e0 := HA6.out.cell (.tail _ (.head _)) 0; have e1 := HA6.out.cell (.tail _ (.head _)) 1; have f0 := HA6.out.thaw (.tail _ (.head _)) 0; have f1 := HA6.out.thaw (.tail _ (.head _)) 1; have HA7 := Lib.hid (HA6.out.set2 (.tail _ (.head _)) (.slice y.ra (tourL m (orL z k)).length y.rc) (.slice y.ca (plc (orL z k)).length y.cc) (L' := []) (List.forall_mem_nil _)); clear hwo hs6 hf6))
          have g0 := HA7.out.cell (.head _) 0
          have g1 := HA7.out.cell (.head _) 1
          have HWN : Hid (WlOwn w.heap.size w6 y (tourL m (orL z k)) (plc (orL z k))) := ⟨fun i p hp => own_mono (Rws.own HWO.out i p hp) HA5.out.fr.size, Rws.dis HWO.out⟩
          have HWX := Lib.hid (Rws.tab HWN.out (HA6.out.bk _ _ _ (.tail _ (.head _))).2 (List.forall_mem_cons.2 ⟨(show 30 ≠ 3 by decide), List.forall_mem_cons.2 ⟨(show 30 ≠ 3 by decide), List.forall_mem_nil _⟩⟩) ((Fr.set w6 (w.heap.size + 1) 0 (.slice y.ra (tourL m (orL z k)).length y.rc)).trans (Fr.set _ (w.heap.size + 1) 1 (.slice y.ca (plc (orL z k)).length y.cc))))
          exact bodyPost_ret (v := .tuple #[.agg #[.slice y.ra (tourL m (orL z k)).length y.rc, .slice y.ca (plc (orL z k)).length y.cc], .int .i64 (lgM m (orL z k)), .int .i64 0]) (by simp [results, Try.results20, go_sem, g0, g1]) rfl ⟨HA7.out.fr, .inr ⟨HTE4.out, y, rfl, HWX.out⟩⟩
end Go.Proofs.Ytpnkgjkoophckaa
