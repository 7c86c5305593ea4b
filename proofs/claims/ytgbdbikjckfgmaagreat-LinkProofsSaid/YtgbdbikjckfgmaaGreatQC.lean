/- Link: ProveCover. -/
import Derived.Test.YtgbdbikjckfgmaaGreatQB
namespace Go.Proofs.YtgbdbikjckfgmaaGreat
open Go.RowKit Go.Shelf

/-- What the closure of ProveCover has captured. -/
structure CvAt (w : World) (b1 b2 b3 : Nat) (oa pa : Option Addr) (na nb oc pc i : Nat) (za zb : Nat → Int) : Prop where
  l1 : b1 < w.heap.size
  l2 : b2 < w.heap.size
  l3 : b3 < w.heap.size
  c1 : w.cell? ⟨b1, 0, none⟩ = some (.slice oa na oc)
  c2 : w.cell? ⟨b2, 0, none⟩ = some (.int .i64 (i : Int))
  c3 : w.cell? ⟨b3, 0, none⟩ = some (.slice pa nb pc)
  i1 : IntsIn w (.slice oa na oc) na za
  i3 : IntsIn w (.slice pa nb pc) nb zb
theorem CvAt.below {w w' : World} {b1 b2 b3 : Nat} {oa pa : Option Addr} {na nb oc pc i : Nat} {za zb : Nat → Int} (h : CvAt w b1 b2 b3 oa pa na nb oc pc i za zb) (hB : Below w.heap.size w w') : CvAt w' b1 b2 b3 oa pa na nb oc pc i za zb :=
  ⟨Nat.lt_of_lt_of_le h.l1 hB.size, Nat.lt_of_lt_of_le h.l2 hB.size, Nat.lt_of_lt_of_le h.l3 hB.size, kept hB h.l1 h.c1, kept hB h.l2 h.c2, kept hB h.l3 h.c3, h.i1.below hB, h.i3.below hB⟩
set_option maxHeartbeats 2000000 in
theorem closure_cov (b1 b2 b3 : Nat) (oa pa : Option Addr) (na nb oc pc i : Nat) (za zb : Nat → Int) (k : Int) (w : World) (h : CvAt w b1 b2 b3 oa pa na nb oc pc i za zb) (h1 : na ≤ 100000) (h2 : nb ≤ 100000) :
    Calls Tryz.prog 86 #[.int .i64 k, .pointer (some ⟨b1, 0, none⟩), .pointer (some ⟨b2, 0, none⟩), .pointer (some ⟨b3, 0, none⟩)] w fun e w' => e = .returned (.bool (hasN za na (i : Int) || hasN zb nb k)) ∧ Below w.heap.size w w' := by
  have HC1 := Lib.hid (containsI_any oa na oc za (i : Int) w h1 h.i1)
  have HC2 := Lib.hid (containsI_any pa nb pc zb k w h2 h.i3)
  have c1 := h.c1
  have c2 := h.c2
  have c3 := h.c3
  clear h
  generalize hasN za na (i : Int) = r1 at *
  generalize hasN zb nb k = r2 at *
  go_enter Tryz.func86, Tryz.ntmps86
  go_wp2_with fail
  refine HC1.out.mono ?_
  rintro _ w1 ⟨rfl, rfl⟩
  cases r1
  · go_wp2_with fail
    refine HC2.out.mono ?_
    rintro _ w2 ⟨rfl, rfl⟩
    go_wp2_with fail
    go_ret
    exact ⟨by simp, Below.refl _ _⟩
  · go_wp2_with fail
    go_ret
    exact ⟨by simp, Below.refl _ _⟩
set_option maxHeartbeats 2000000 in
theorem allc_cov (c b1 b2 b3 : Nat) (oa pa : Option Addr) (na nb oc pc i : Nat) (za zb : Nat → Int) (k : Int) (w : World) (h : CvAt w b1 b2 b3 oa pa na nb oc pc i za zb) (h1 : na ≤ 100000) (h2 : nb ≤ 100000)
    (hc : w.cell? ⟨c, 0, none⟩ = some (.func (.func 86) #[] #[.pointer (some ⟨b1, 0, none⟩), .pointer (some ⟨b2, 0, none⟩), .pointer (some ⟨b3, 0, none⟩)])) :
    Calls Tryz.prog 117 #[.int .i64 k, .pointer (some ⟨c, 0, none⟩)] w fun e w' => e = .returned (.bool (!(hasN za na (i : Int) || hasN zb nb k))) ∧ Below w.heap.size w w' := by
  have HC := Lib.hid (closure_cov b1 b2 b3 oa pa na nb oc pc i za zb k w h h1 h2)
  clear h
  generalize (hasN za na (i : Int) || hasN zb nb k) = r at *
  go_enter Tryz.func117, Tryz.ntmps117
  go_wp2_with fail
  refine HC.out.mono ?_
  rintro _ w1 ⟨rfl, hb⟩
  have HB := Lib.hid hb
  clear hb
  go_wp2_with fail
  go_ret
  exact ⟨rfl, HB.out⟩
set_option maxHeartbeats 4000000 in
theorem indexFunc_cov (c b1 b2 b3 : Nat) (oa pa : Option Addr) (na nb oc pc i : Nat) (za zb : Nat → Int) (w : World) (h : CvAt w b1 b2 b3 oa pa na nb oc pc i za zb) (h1 : na ≤ 100000) (h2 : nb ≤ 100000) (hl : c < w.heap.size)
    (hc : w.cell? ⟨c, 0, none⟩ = some (.func (.func 86) #[] #[.pointer (some ⟨b1, 0, none⟩), .pointer (some ⟨b2, 0, none⟩), .pointer (some ⟨b3, 0, none⟩)])) (a : Option Addr) (n cap : Nat) (z : Nat → Int) (hn : n ≤ 100000) (hz : IntsIn w (.slice a n cap) n z) :
    Calls Tryz.prog 139 #[.slice a n cap, .func (.func 117) #[] #[.pointer (some ⟨c, 0, none⟩)]] w (IdxP (fun j => hasN za na (i : Int) || hasN zb nb (z j)) n w) := by
  have HZ := Lib.hid hz; clear hz
  have HV := Lib.hid (fun W (hW : Below w.heap.size w W) k => allc_cov c b1 b2 b3 oa pa na nb oc pc i za zb k W (h.below hW) h1 h2 (kept hW hl hc)); clear h hc
  generalize hasN za na (i : Int) = r1 at *
  generalize hasN zb nb = r2 at *
  go_enter Tryz.func139, Tryz.ntmps139
  go_wp2_with fail
  go_loopw [8] (fun v wr => ∃ k : Nat, k ≤ n ∧ v = .int .i64 (k : Int) ∧ (∀ j, j < k → (r1 || r2 (z j)) = true) ∧ Below w.heap.size w wr) (fun v _ => n - (intOf v).toNat)
  case atStart => exact ⟨0, Nat.zero_le _, rfl, fun q h => absurd h (Nat.not_lt_zero _), Below.refl _ _⟩
  case round =>
    obtain ⟨k, hk, rfl, hall, hbl⟩ := hrel
    have HA := Lib.hid hall; clear hall
    have HB := Lib.hid hbl; clear hbl
    by_cases hlt : k < n
    · obtain ⟨b, off, rfl, hb, x0⟩ := (HZ.out.below HB.out).at hlt
      have HVK := Lib.hid (HV.out wr HB.out (z k))
      have ki : (0 : Int) ≤ (k : Int) := by omega
      have kj : (k : Int) < (n : Int) := by omega
      cases hin : (r1 || r2 (z k))
      · have HF := Lib.hid (allB_false (p := fun j => r1 || r2 (z j)) hlt hin)
        rw [hin] at HVK
        clear hin
        generalize z k = zk at *
        go_wp2_with fail
        refine HVK.out.mono ?_
        rintro r w2 ⟨rfl, hb2⟩
        have HB2 := Lib.hid (HB.out.trans (hb2.mono HB.out.size))
        clear hb2
        go_wp2_with fail
        go_ret
        exact ⟨_, rfl, by rw [HF.out]; simp, HB2.out⟩
      · have HI := Lib.hid hin
        rw [hin] at HVK
        clear hin
        have HN : Hid (∀ j, j < k + 1 → (r1 || r2 (z j)) = true) := fun q hq => by rcases Nat.lt_succ_iff_lt_or_eq.1 hq with h | rfl; exact HA.out q h; exact HI.out
        generalize z k = zk at *
        go_wp2_with fail
        refine HVK.out.mono ?_
        rintro r w2 ⟨rfl, hb2⟩
        have HB2 := Lib.hid (HB.out.trans (hb2.mono HB.out.size))
        clear hb2
        go_wp2_with fail
        go_roundw
        case rel => exact ⟨k + 1, by omega, by go_num, HN.out, HB2.out⟩
        case measure => simp [intOf]; omega
    · obtain rfl : k = n := by omega
      go_wp2_with fail
      go_ret
      exact ⟨_, rfl, by rw [allB_true HA.out]; rfl, HB.out⟩
set_option maxHeartbeats 2000000 in
theorem all_cov (b1 b2 b3 : Nat) (oa pa : Option Addr) (na nb oc pc i : Nat) (za zb : Nat → Int) (w : World) (h : CvAt w b1 b2 b3 oa pa na nb oc pc i za zb) (h1 : na ≤ 100000) (h2 : nb ≤ 100000) (a : Option Addr) (n cap : Nat) (z : Nat → Int) (hn : n ≤ 100000) (hz : IntsIn w (.slice a n cap) n z) :
    Calls Tryz.prog 87 #[.slice a n cap, .func (.func 86) #[] #[.pointer (some ⟨b1, 0, none⟩), .pointer (some ⟨b2, 0, none⟩), .pointer (some ⟨b3, 0, none⟩)]] w fun e w' => e = .returned (.bool (allB (fun j => hasN za na (i : Int) || hasN zb nb (z j)) n)) ∧ Below w.heap.size w w' := by
  have HI : Hid (∀ c W, Below w.heap.size w W → c < W.heap.size → W.cell? ⟨c, 0, none⟩ = some (.func (.func 86) #[] #[.pointer (some ⟨b1, 0, none⟩), .pointer (some ⟨b2, 0, none⟩), .pointer (some ⟨b3, 0, none⟩)]) → Calls Tryz.prog 116 #[.slice a n cap, .func (.func 117) #[] #[.pointer (some ⟨c, 0, none⟩)]] W fun e w' => e = .returned (.bool (!allB (fun j => hasN za na (i : Int) || hasN zb nb (z j)) n)) ∧ Below W.heap.size W w') := fun c W hW hl hc => by
    have HJ := Lib.hid (indexFunc_cov c b1 b2 b3 oa pa na nb oc pc i za zb W (h.below hW) h1 h2 hl hc a n cap z hn (hz.below hW))
    generalize (fun j => hasN za na (i : Int) || hasN zb nb (z j)) = q at *
    go_enter Tryz.func116, Tryz.ntmps116
    go_wp2_with (go_at_call 139; refine HJ.out.mono ?_; rintro e w' ⟨r, rfl, hr, hb⟩; have HR := Lib.hid hr; clear hr)
    go_ret
    exact ⟨ret_bool HR.out, hb⟩
  clear h hz
  generalize allB (fun j => hasN za na (i : Int) || hasN zb nb (z j)) n = q at *
  go_enter Tryz.func87, Tryz.ntmps87
  go_wp2_with (go_at_call 116; refine (HI.out _ _ (below_alloc _ _) (by simp) (box_cell _ _ _)).mono ?_; rintro e w' ⟨rfl, hb⟩)
  go_ret
  exact ⟨ret_bool (by simp), (below_alloc _ _).trans (hb.mono (by simp))⟩
end Go.Proofs.YtgbdbikjckfgmaaGreat
