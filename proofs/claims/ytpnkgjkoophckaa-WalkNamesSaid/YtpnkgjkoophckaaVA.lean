/- Walk: the reference's Has, RoadOf, IsPath, IsWalk; the law's small, list. -/
import Derived.Test.YtpnkgjkoophckaaPC
namespace Go.Proofs.Ytpnkgjkoophckaa
open Go.RowKit Go.Shelf

theorem IntsIn.src {W : World} {a : Option Addr} {cap n : Nat} {z : Nat → Int} (h : IntsIn W (.slice a n cap) n z) : Src W a 1 n (iL z n) := by
  refine ⟨by rw [iL_length]; omega, fun j v hv => ?_⟩
  have hj : j < n := by have := (List.getElem?_eq_some_iff.1 hv).1; rw [iL_length] at this; exact this
  rw [iL_get z hj] at hv
  cases hv
  rcases h with ⟨_, _, _, h⟩ | ⟨b, off, cap, h, hb, hz⟩
  · omega
  · cases h
    exact ⟨_, rfl, by rw [addr_add]; exact hz j hj⟩
set_option maxHeartbeats 4000000 in
theorem listC_any (a : Option Addr) (n cap : Nat) (z : Nat → Int) (w : World) (hn : n ≤ 100000) (hz : IntsIn w (.slice a n cap) n z) :
    Calls Try.prog 22 #[.slice a n cap] w fun e w' => ∃ b c, e = .returned (.slice b n c) ∧ w'.ownsRow w.heap.size 3 1 (.slice b n c) n (iL z n) ∧ Below w.heap.size w w' := by
  obtain ⟨i0, hi0, hz0, hz1, hz2⟩ := info_parts Try.infoInt
  have HS := Lib.hid hz.src
  clear hz
  go_enter Try.func22, Try.ntmps22
  go_wp2_with (at_builtin; refine wpList_append_src _ rfl (.const (.slice none 0 0)) (.tmp 3) 26 rfl w.heap.size 3 i0 (.int .i64 0) 1 8 Try.underlying26 hi0 hz0 hz1 hz2 rfl (by decide) (.slice none 0 0) 0 [] rfl (World.ownsRow_nil _ _ _ _) a n cap (iL z n) rfl HS.out (iL_one z n) ?a1 ?a2 (Nat.le_refl _) ?_)
  case a1 => unfold maxLen; omega
  case a2 => omega
  intro v w1 hown hgr _
  have hown : w1.ownsRow w.heap.size 3 1 v n (iL z n) := by have h := hown; simpa using h
  obtain ⟨b, c, rfl⟩ := own_slice' hown
  have hb : Below w.heap.size w w1 := grown_below (Below.refl _ _) (World.ownsRow_nil w w.heap.size 3 1) hgr
  go_wp2_with fail
  go_ret
  exact ⟨b, c, rfl, hown, hb⟩
theorem hasB_at {z : Nat → Int} {n k : Nat} {x : Int} (hk : k < n) (h : z k = x) : hasB z n x = true := hasB_iff.2 ⟨k, hk, h⟩
theorem hasB_no {z : Nat → Int} {n : Nat} {x : Int} (h : ∀ q, q < n → z q ≠ x) : hasB z n x = false := by
  cases hb : hasB z n x
  · rfl
  · obtain ⟨j, h1, h2⟩ := hasB_iff.1 hb; exact absurd h2 (h j h1)
set_option maxHeartbeats 4000000 in
theorem rHas_any (a : Option Addr) (n cap : Nat) (z : Nat → Int) (x : Int) (w : World) (hn : n ≤ 100000) (hz : IntsIn w (.slice a n cap) n z) :
    Calls Try.prog 44 #[.slice a n cap, .int .i64 x] w fun e w' => e = .returned (.bool (hasB z n x)) ∧ w = w' := by
  have HZ := Lib.hid hz
  clear hz
  go_enter Try.func44, Try.ntmps44
  go_wp2
  go_loopw [5] (fun i wr => ∃ k : Nat, i = .int .i64 k ∧ k ≤ n ∧ (∀ q, q < k → z q ≠ x) ∧ w = wr) (fun i _ => n - (intOf i).toNat)
  case atStart => exact ⟨0, rfl, Nat.zero_le _, fun q h => absurd h (Nat.not_lt_zero _), rfl⟩
  case round =>
    obtain ⟨k, rfl, hk, hall, rfl⟩ := hrel
    have HAL := Lib.hid hall
    clear hall
    by_cases hlt : k < n
    · obtain ⟨b, off, rfl, hb, x0⟩ := HZ.out.at hlt
      have ki : (0 : Int) ≤ (k : Int) := by omega
      have kn : (k : Int) < (n : Int) := by omega
      have HHX : Hid (∀ p, p = k → ∀ y, z k = y → z p = y) := fun p e y h => by rw [e]; exact h
      obtain ⟨zk, hzk⟩ : ∃ zk, z k = zk := ⟨_, rfl⟩
      have HZK := Lib.hid hzk
      rw [hzk] at x0
      clear hzk
      by_cases hx : zk = x
      · subst hx
        go_wp2
        go_ret
        exact ⟨ret_bool (hasB_at hlt HZK.out).symm, rfl⟩
      · have kx : (zk == x) = false := by simp [hx]
        go_wp2
        go_roundw
        case rel => exact ⟨k + 1, by go_num, by omega, (fun q hq => by rcases Nat.lt_succ_iff_lt_or_eq.1 hq with h | rfl; exact HAL.out q h; rw [HZK.out]; exact hx), trivial⟩
        case measure => simp [intOf]; omega
    · obtain rfl : k = n := by omega
      go_wp2
      go_ret
      exact ⟨ret_bool (hasB_no HAL.out).symm, rfl⟩
set_option maxRecDepth 100000 in
set_option maxHeartbeats 8000000 in
theorem rRoad_any (x : MV) (m : Mp) (y z : Int) (w : World) (h : MpIn w x m) (hnr : m.nr ≤ 100000) :
    Calls Try.prog 80 #[.agg #[.slice x.wa m.nw x.wc, .slice x.ra m.nr x.rc], .int .i64 y, .int .i64 z] w fun e w' => e = .returned (.int .i64 (m.road y z)) ∧ Below w.heap.size w w' := by
  obtain ⟨qa, qc, rda, rdc⟩ := x
  have HRD := Lib.hid h.rd
  clear h
  simp only at *
  have HRA := Lib.hid (fun k (hk : k < m.nr) h1 h2 => road_at (m := m) (a := y) (b := z) (k := k) hk h1 h2)
  have HRN := Lib.hid (fun h1 => road_no (m := m) (a := y) (b := z) h1)
  have HA0 : Hid (BF w (w.alloc (.cells #[.slice qa m.nw qc, .slice rda m.nr rdc] 25)) [(w.heap.size, #[.slice qa m.nw qc, .slice rda m.nr rdc], 25)]) := (BF.base w).alloc _ _
  have HJN := Lib.hid (fun q W => rJoins_any (m.ra q) (m.rb q) (m.rt q).1 (m.rt q).2 y z W)
  go_enter Try.func80, Try.ntmps80
  go_wp2_with fail
  generalize w.alloc (.cells #[.slice qa m.nw qc, .slice rda m.nr rdc] 25) = w0 at *
  go_loopw [7] (fun i wr => ∃ k : Nat, i = .int .i64 k ∧ k ≤ m.nr ∧ (∀ q, q < k → joinsB (m.ra q) (m.rb q) y z = false) ∧ BF w wr [(w.heap.size, #[.slice qa m.nw qc, .slice rda m.nr rdc], 25)]) (fun i _ => m.nr - (intOf i).toNat)
  case atStart => exact ⟨0, rfl, Nat.zero_le _, fun q h => absurd h (Nat.not_lt_zero _), HA0.out⟩
  case round =>
    clear HA0
    obtain ⟨k, rfl, hk, hall, hbf⟩ := hrel
    have HAL := Lib.hid hall; have HA1 := Lib.hid hbf
    clear hall hbf
    have c0 := HA1.out.cell (.head _) 0
    have c1 := HA1.out.cell (.head _) 1
    by_cases hlt : k < m.nr
    · obtain ⟨b, off, rfl, hb, x0, x1, x2, x3⟩ := HRD.out.at (k := k) hlt
      have y0 := kept HA1.out.fr hb x0
      have y1 := kept HA1.out.fr hb x1
      have y2 := kept HA1.out.fr hb x2
      have y3 := kept HA1.out.fr hb x3
      have ki : (0 : Int) ≤ (k : Int) := by omega
      have kn : (k : Int) < (m.nr : Int) := by omega
      have HJK := Lib.hid (HJN.out k)
      obtain ⟨jb, HJB⟩ : ∃ jb, Hid (joinsB (m.ra k) (m.rb k) y z = jb) := ⟨_, rfl⟩
      rw [HJB.out] at HJK
      have HJB2 : Hid (∀ p, p = k → joinsB (m.ra p) (m.rb p) y z = jb) := fun p e => by rw [e]; exact HJB.out
      clear HJB HJN x0 x1 x2 x3 hb
      generalize m.ra k = ya at *
      generalize m.rb k = yb at *
      generalize (m.rt k).1 = l2 at *
      generalize (m.rt k).2 = h2 at *
      cases jb
      · go_wp2_with (go_at_call 100; refine (HJK.out _).mono ?_; rintro _ w6 ⟨rfl, hb⟩; have HA3 := Lib.hid (HA1.out.below hb); clear hb)
        go_roundw
        case rel => exact ⟨k + 1, by go_num, by omega, (fun p hp => by rcases Nat.lt_succ_iff_lt_or_eq.1 hp with h | rfl; exact HAL.out p h; exact HJB2.out _ rfl), HA3.out⟩
        case measure => simp [intOf]; omega
      · go_wp2_with (go_at_call 100; refine (HJK.out _).mono ?_; rintro _ w6 ⟨rfl, hb⟩; have HA3 := Lib.hid (HA1.out.below hb); clear hb)
        go_ret
        exact ⟨ret_int (HRA.out k hlt HAL.out (HJB2.out k rfl)).symm, HA3.out.fr⟩
    · obtain rfl : k = m.nr := by omega
      go_wp2_with fail
      go_ret
      exact ⟨ret_int (HRN.out HAL.out).symm, HA1.out.fr⟩
def isPathB (m : Mp) (z : Nat → Int) (n : Nat) (a b : Int) : Bool := decide (1 ≤ n) && (decide (z 0 = a) && (decide (z (n - 1) = b) && (inB a 0 ((m.nw : Int) - 1) && pathB m z (n - 1))))
set_option maxRecDepth 100000 in
set_option maxHeartbeats 16000000 in
theorem rPath_any (x : MV) (m : Mp) (la : Option Addr) (n lc : Nat) (z : Nat → Int) (a b : Int) (w : World) (h : MpIn w x m) (hz : IntsIn w (.slice la n lc) n z) (hn : n ≤ 100000) (hnw : m.nw ≤ 100000) (hnr : m.nr ≤ 100000) :
    Calls Try.prog 39 #[.agg #[.slice x.wa m.nw x.wc, .slice x.ra m.nr x.rc], .slice la n lc, .int .i64 a, .int .i64 b] w fun e w' => e = .returned (.bool (isPathB m z n a b)) ∧ Below w.heap.size w w' := by
  have HZ := Lib.hid hz
  have HRO := Lib.hid (fun p q W (hW : Below w.heap.size w W) => rRoad_any x m p q W (h.below hW) hnr)
  have HIN := Lib.hid (fun W => rIn_any a 0 ((m.nw : Int) - 1) W)
  have HPB : Hid (isPathB m z n a b = (decide (1 ≤ n) && (decide (z 0 = a) && (decide (z (n - 1) = b) && (inB a 0 ((m.nw : Int) - 1) && pathB m z (n - 1)))))) := rfl
  have HPP : Hid (pathB m z (n - 1) = allB (fun i => decide (0 ≤ m.road (z i) (z (i + 1)))) (n - 1)) := rfl
  clear h hz
  obtain ⟨pb, hpb⟩ : ∃ pb, pb = isPathB m z n a b := ⟨_, rfl⟩
  rw [← hpb] at HPB ⊢
  clear hpb
  have HA0 : Hid (BF w (w.alloc (.cells #[.slice x.wa m.nw x.wc, .slice x.ra m.nr x.rc] 25)) [(w.heap.size, #[.slice x.wa m.nw x.wc, .slice x.ra m.nr x.rc], 25)]) := (BF.base w).alloc _ _
  go_enter Try.func39, Try.ntmps39
  go_upto_region 1 with fail
  generalize w.alloc (.cells #[.slice x.wa m.nw x.wc, .slice x.ra m.nr x.rc] 25) = w0 at *
  have c0 := HA0.out.cell (.head _) 0
  have c1 := HA0.out.cell (.head _) 1
  by_cases h0 : n = 0
  · subst h0
    go_wp2_with fail
    go_ret
    exact ⟨ret_bool (by rw [HPB.out]; rfl), HA0.out.fr⟩
  have k0 : ((n : Int) == 0) = false := by simp; omega
  have HPB1 : Hid (pb = (decide (z 0 = a) && (decide (z (n - 1) = b) && (inB a 0 ((m.nw : Int) - 1) && pathB m z (n - 1))))) := by have h := HPB.out; rw [decide_eq_true (show 1 ≤ n by omega), Bool.true_and] at h; exact h
  clear HPB
  obtain ⟨lb, lo, rfl, hlb, x0⟩ := HZ.out.at (k := 0) (by omega)
  obtain ⟨lb', lo', e', _, x1⟩ := HZ.out.at (k := n - 1) (by omega)
  cases e'
  have y0 := kept HA0.out.fr hlb x0
  have y1 := kept HA0.out.fr hlb x1
  rw [Nat.add_zero] at y0
  have kl : (((n - 1 : Nat) : Int)) = (n : Int) - 1 := by omega
  have kw : IntKind.i64.wrap ((n : Int) - 1) = ((n - 1 : Nat) : Int) := (IntWalk.i64_in _ (by omega)).trans kl.symm
  have kz : (0 : Int) < (n : Int) := by omega
  have ki1 : (((n - 1 : Nat) : Int)) < (n : Int) := by omega
  have kw2 : IntKind.i64.wrap ((m.nw : Int) - 1) = (m.nw : Int) - 1 := IntWalk.i64_in _ (by omega)
  obtain ⟨zf, hzf⟩ : ∃ zf, z 0 = zf := ⟨_, rfl⟩
  obtain ⟨zl, hzl⟩ : ∃ zl, z (n - 1) = zl := ⟨_, rfl⟩
  rw [hzf] at HPB1 y0; rw [hzl] at HPB1 y1
  clear hzf hzl x0 x1 kl
  obtain ⟨n1, hn1⟩ : ∃ n1, n1 = n - 1 := ⟨_, rfl⟩
  rw [← hn1] at HPB1 y1 kw ki1 HPP
  have HN1 := Lib.hid hn1
  clear hn1
  by_cases k1 : zf = a
  case neg =>
    have k1b : (zf != a) = true := by simp [k1]
    go_wp2_with fail
    go_ret
    exact ⟨ret_bool (by rw [HPB1.out, decide_eq_false k1]; rfl), HA0.out.fr⟩
  subst k1
  by_cases k2 : zl = b
  case neg =>
    have k2b : (zl != b) = true := by simp [k2]
    go_wp2_with fail
    go_ret
    exact ⟨ret_bool (by rw [HPB1.out, decide_eq_false k2]; simp), HA0.out.fr⟩
  subst k2
  have HPB2 : Hid (pb = (inB zf 0 ((m.nw : Int) - 1) && pathB m z n1)) := by have h := HPB1.out; unfold Hid; simpa using h
  clear HPB1
  generalize inB zf 0 ((m.nw : Int) - 1) = ib at *
  cases ib
  · go_wp2_with (go_at_call 24; refine (HIN.out _).mono ?_; rintro _ _ ⟨rfl, rfl⟩)
    go_ret
    exact ⟨ret_bool (by rw [HPB2.out]; rfl), HA0.out.fr⟩
  have HPB3 : Hid (pb = pathB m z n1) := HPB2.out
  clear HPB2
  go_wp2_with (go_at_call 24; refine (HIN.out _).mono ?_; rintro _ _ ⟨rfl, rfl⟩)
  clear y0 y1 kw ki1 k0
  go_loopw [9] (fun i wr => ∃ k : Nat, i = .int .i64 ((k + 1 : Nat) : Int) ∧ k ≤ n1 ∧ (∀ q, q < k → decide (0 ≤ m.road (z q) (z (q + 1))) = true) ∧ BF w wr [(w.heap.size, #[.slice x.wa m.nw x.wc, .slice x.ra m.nr x.rc], 25)]) (fun i _ => n - (intOf i).toNat)
  case atStart => exact ⟨0, rfl, Nat.zero_le _, fun q h => absurd h (Nat.not_lt_zero _), HA0.out⟩
  case round =>
    clear HA0 c0 c1
    obtain ⟨k, rfl, hk, hall, hbf⟩ := hrel
    have HAL := Lib.hid hall; have HA1 := Lib.hid hbf
    clear hall hbf
    have c0 := HA1.out.cell (.head _) 0
    have c1 := HA1.out.cell (.head _) 1
    have hn1 := HN1.out
    by_cases hlt : k < n1
    · have hkn : k + 1 < n := by omega
      obtain ⟨b1, o1, e1, _, x0⟩ := HZ.out.at (k := k) (by omega)
      cases e1
      obtain ⟨b1, o1, e1, _, x1⟩ := HZ.out.at (k := k + 1) (by omega)
      cases e1
      have HC2 := Lib.hid (fun W (hW : Below w.heap.size w W) => And.intro (kept hW hlb x0) (kept hW hlb x1))
      obtain ⟨y0, y1⟩ := HC2.out _ HA1.out.fr
      have HRK := Lib.hid (HRO.out (z k) (z (k + 1)))
      have HFA : Hid (∀ v : Int, m.road (z k) (z (k + 1)) = v → ¬ 0 ≤ v → pb = false) := fun v e hv => by rw [HPB3.out, HPP.out]; exact allB_false hlt (by rw [e]; exact decide_eq_false hv)
      have HTA : Hid (∀ v : Int, m.road (z k) (z (k + 1)) = v → 0 ≤ v → ∀ p, p = k → decide (0 ≤ m.road (z p) (z (p + 1))) = true) := fun v e hv p hp => by rw [hp, e]; exact decide_eq_true hv
      obtain ⟨rv, hrv⟩ : ∃ rv, m.road (z k) (z (k + 1)) = rv := ⟨_, rfl⟩
      have HRV := Lib.hid hrv
      have HRV2 : Hid (m.road (z k) (z (k + 1)) = rv) := hrv
      rw [hrv] at HRK
      clear hrv x0 x1
      generalize z k = zk at *
      generalize z (k + 1) = zk1 at *
      have kk1 : IntKind.i64.wrap (((k + 1 : Nat) : Int) - 1) = (k : Int) := (IntWalk.i64_in _ (by omega)).trans (by omega)
      have ki : (0 : Int) ≤ (k : Int) := by omega
      have kj : (k : Int) < (n : Int) := by omega
      have ki1 : (0 : Int) ≤ ((k + 1 : Nat) : Int) := by omega
      have kj1 : ((k + 1 : Nat) : Int) < (n : Int) := by omega
      have kc1 : (0 : Int) ≤ (k : Int) + 1 := by omega
      have kc2 : (k : Int) + 1 < (n : Int) := by omega
      have kk2 : IntKind.i64.wrap ((k : Int) + 1 - 1) = (k : Int) := (IntWalk.i64_in _ (by omega)).trans (by omega)
      have kt : ((k : Int) + 1).toNat = k + 1 := by omega
      have hw1 : IntKind.i64.wrap (k : Int) = k := IntWalk.i64_in _ (by omega)
      have kn9 : ¬ (k : Int) + 1 < 0 := by omega
      have kt0 : (k : Int).toNat = k := by omega
      have HFM := Lib.hid HA1.out.fr
      go_upto_region 6 with fail
      go_region_held3 (fun X => X.cell? ⟨w.heap.size, 0, none⟩ = some (.slice x.wa m.nw x.wc) ∧ X.cell? ⟨w.heap.size, 1, none⟩ = some (.slice x.ra m.nr x.rc) ∧ X.cell? ⟨lb, lo + k, none⟩ = some (.int .i64 zk) ∧ X.cell? ⟨lb, lo + (k + 1), none⟩ = some (.int .i64 zk1)) (first | (refine ⟨?_, ?_, ?_, ?_⟩ <;> assumption) | go_keep) (first | (go_at_call 80; refine (HRK.out _ HFM.out.drew).mono ?_; rintro _ w6 ⟨rfl, hb⟩; have HA3 := Lib.hid (HA1.out.below ((Below.refl _ _).drew.trans hb)); have d0 := HA3.out.cell (.head _) 0; have d1 := HA3.out.cell (.head _) 1; obtain ⟨d2, d3⟩ := HC2.out _ HA3.out.fr; clear hb))
      clear y0 y1 c0 c1 d0 d1 d2 d3 kk1 kk2 kt hw1 kn9 kt0 ki1 kj1 kc1 kc2
      by_cases hrv : 0 ≤ rv
      · have krv : ¬ (rv < 0) := by omega
        go_wp2_with fail
        go_roundw
        case rel => exact ⟨k + 1, by go_num, by omega, (fun p hp => by rcases Nat.lt_succ_iff_lt_or_eq.1 hp with h | rfl; exact of_decide_eq_true (HAL.out p h); exact of_decide_eq_true (HTA.out rv HRV2.out hrv _ rfl)), HA3.out⟩
        case measure => simp [intOf]; omega
      · have krv : (rv < 0) := by omega
        go_wp2_with fail
        go_ret
        exact ⟨ret_bool (HFA.out rv HRV2.out hrv).symm, HA3.out.fr⟩
    · have hkn : ((k + 1 : Nat) : Int) = (n : Int) := by omega
      have HKN := Lib.hid hkn
      rw [HKN.out]
      clear hkn hn1
      have HKK : Hid (n1 = k) := Lib.hid (by omega)
      clear hlt
      have kq : ¬ ((n : Int) < (n : Int)) := by omega
      go_wp2_with fail
      go_ret
      exact ⟨ret_bool (by rw [HPB3.out, HPP.out, HKK.out, allB_true HAL.out]), HA1.out.fr⟩
/-- What the reference calls a walk. -/
def isWalkB (m : Mp) (y : Wl) : Bool := decide (y.nl ≤ 64) && (isPathB m y.rt y.nl 0 0 && allB (fun j => hasB y.rt y.nl (y.ct j) && (decide (j = 0) || decide (y.ct (j - 1) < y.ct j))) y.nc)
set_option maxRecDepth 100000 in
set_option maxHeartbeats 16000000 in
theorem rWalk_any (x : MV) (m : Mp) (u : LV) (y : Wl) (w : World) (h : MpIn w x m) (hu : WlIn w u y) (h1 : y.nl ≤ 100000) (h2 : y.nc ≤ 100000) (hnw : m.nw ≤ 100000) (hnr : m.nr ≤ 100000) :
    Calls Try.prog 27 #[.agg #[.slice x.wa m.nw x.wc, .slice x.ra m.nr x.rc], .agg #[.slice u.ra y.nl u.rc, .slice u.ca y.nc u.cc]] w fun e w' => e = .returned (.bool (isWalkB m y)) ∧ Below w.heap.size w w' := by
  obtain ⟨ua, uc, va, vc⟩ := u
  obtain ⟨nl, rt, nc, ct⟩ := y
  obtain ⟨hrt, hct⟩ := hu
  simp only at *
  have HRT := Lib.hid hrt; have HCT := Lib.hid hct
  have HPT := Lib.hid (fun W (hW : Below w.heap.size w W) => rPath_any x m ua nl uc rt 0 0 W (h.below hW) (hrt.below hW) h1 hnw hnr)
  have HHS : Hid (∀ q W, Below w.heap.size w W → Calls Try.prog 44 #[.slice ua nl uc, .int .i64 q] W fun e w' => e = .returned (.bool (hasB rt nl q)) ∧ w' = W) := fun q W hW => (rHas_any ua nl uc rt q W h1 (hrt.below hW)).mono fun e w' h => ⟨h.1, h.2.symm⟩
  have HWB : Hid (isWalkB m ⟨nl, rt, nc, ct⟩ = (decide (nl ≤ 64) && (isPathB m rt nl 0 0 && allB (fun j => hasB rt nl (ct j) && (decide (j = 0) || decide (ct (j - 1) < ct j))) nc))) := rfl
  clear h hrt hct
  generalize isWalkB m ⟨nl, rt, nc, ct⟩ = wb at *
  generalize isPathB m rt nl 0 0 = pb at *
  have HA0 : Hid (BF w ((w.alloc (.cells #[.slice x.wa m.nw x.wc, .slice x.ra m.nr x.rc] 25)).alloc (.cells #[.slice ua nl uc, .slice va nc vc] 49)) [(w.heap.size, #[.slice x.wa m.nw x.wc, .slice x.ra m.nr x.rc], 25), (w.heap.size + 1, #[.slice ua nl uc, .slice va nc vc], 49)]) := BF.made2 _ _ _ _ _
  go_enter Try.func27, Try.ntmps27
  go_upto_region 1 with fail
  generalize ((w.alloc (.cells #[.slice x.wa m.nw x.wc, .slice x.ra m.nr x.rc] 25)).alloc (.cells #[.slice ua nl uc, .slice va nc vc] 49)) = w0 at *
  have c0 := HA0.out.cell (.head _) 0
  have c1 := HA0.out.cell (.head _) 1
  have u0 := HA0.out.cell (.tail _ (.head _)) 0
  have u1 := HA0.out.cell (.tail _ (.head _)) 1
  by_cases k64 : nl ≤ 64
  case neg =>
    have kb : ((nl : Int) > 64) := by omega
    go_wp2_with fail
    go_ret
    exact ⟨ret_bool (by rw [HWB.out, decide_eq_false k64]; rfl), HA0.out.fr⟩
  have kb : ¬ ((nl : Int) > 64) := by omega
  cases pb
  · go_wp2_with (go_at_call 39; refine (HPT.out _ HA0.out.fr).mono ?_; rintro _ w1 ⟨rfl, hb⟩; have HA1 := Lib.hid (HA0.out.below hb); clear hb)
    go_ret
    exact ⟨ret_bool (by rw [HWB.out]; simp), HA1.out.fr⟩
  have HWB2 : Hid (wb = allB (fun j => hasB rt nl (ct j) && (decide (j = 0) || decide (ct (j - 1) < ct j))) nc) := by have h := HWB.out; unfold Hid; rw [decide_eq_true k64] at h; simpa using h
  clear HWB
  go_wp2_with (go_at_call 39; refine (HPT.out _ HA0.out.fr).mono ?_; rintro _ w1 ⟨rfl, hb⟩; have HA1 := Lib.hid (HA0.out.below hb); clear hb)
  clear c0 c1 u0 u1 HA0 HPT
  go_loopw [5] (fun i wr => ∃ k : Nat, i = .int .i64 k ∧ k ≤ nc ∧ (∀ q, q < k → (hasB rt nl (ct q) && (decide (q = 0) || decide (ct (q - 1) < ct q))) = true) ∧ BF w wr [(w.heap.size, #[.slice x.wa m.nw x.wc, .slice x.ra m.nr x.rc], 25), (w.heap.size + 1, #[.slice ua nl uc, .slice va nc vc], 49)]) (fun i _ => nc - (intOf i).toNat)
  case atStart => exact ⟨0, rfl, Nat.zero_le _, fun q h => absurd h (Nat.not_lt_zero _), HA1.out⟩
  case round =>
    clear HA1
    obtain ⟨k, rfl, hk, hall, hbf⟩ := hrel
    rename World => wx
    have HAL := Lib.hid hall; have HA1 := Lib.hid hbf
    clear hall hbf
    have c0 := HA1.out.cell (.head _) 0
    have c1 := HA1.out.cell (.head _) 1
    have u0 := HA1.out.cell (.tail _ (.head _)) 0
    have u1 := HA1.out.cell (.tail _ (.head _)) 1
    by_cases hlt : k < nc
    · obtain ⟨b, off, rfl, hb, x0⟩ := HCT.out.at (k := k) hlt
      have y0 := kept HA1.out.fr hb x0
      have ki : (0 : Int) ≤ (k : Int) := by omega
      have kj : (k : Int) < (nc : Int) := by omega
      have HHK := Lib.hid (HHS.out (ct k))
      have HBQ := Lib.hid HA1.out.fr
      have HTK : Hid (∀ h2 : (hasB rt nl (ct k) && (decide (k = 0) || decide (ct (k - 1) < ct k))) = true, ∀ p, p < k + 1 → (hasB rt nl (ct p) && (decide (p = 0) || decide (ct (p - 1) < ct p))) = true) := fun h2 p hp => by rcases Nat.lt_succ_iff_lt_or_eq.1 hp with h | rfl; exact HAL.out p h; exact h2
      have HFK : Hid ((hasB rt nl (ct k) && (decide (k = 0) || decide (ct (k - 1) < ct k))) = false → wb = false) := fun h2 => by rw [HWB2.out]; exact allB_false hlt h2
      obtain ⟨hb1, hhb⟩ : ∃ hb1, hasB rt nl (ct k) = hb1 := ⟨_, rfl⟩
      have HHE := Lib.hid hhb
      rw [hhb] at HHK
      clear hhb
      obtain ⟨ck, hck⟩ : ∃ ck, ct k = ck := ⟨_, rfl⟩
      have HCK := Lib.hid hck
      rw [hck] at HHK y0
      clear hck x0 HAL HHS
      have DR : Hid (∀ n0, BF w (wx.drewN n0) [(w.heap.size, #[.slice x.wa m.nw x.wc, .slice x.ra m.nr x.rc], 25), (w.heap.size + 1, #[.slice ua nl uc, .slice (some ⟨b, off, none⟩) nc vc], 49)]) := fun n0 => HA1.out.below (below_drewN wx n0)
      cases hb1
      · go_upto_region 6 with fail
        go_quiet ((go_at_call 44; exact Calls.quiet_of_same (HHK.out _ (HBQ.out.trans (below_drewS _ _ _)))))
        go_wp2_with fail
        go_ret
        exact ⟨ret_bool (HFK.out (by rw [HHE.out]; rfl)).symm, (DR.out _).fr⟩
      · by_cases k0 : k = 0
        · subst k0
          rw [Nat.add_zero] at y0
          go_upto_region 6 with fail
          go_quiet ((go_at_call 44; exact Calls.quiet_of_same (HHK.out _ (HBQ.out.trans (below_drewS _ _ _)))))
          go_wp2_with fail
          go_roundw
          case rel => exact ⟨1, rfl, by omega, HTK.out (by rw [HHE.out]; rfl), DR.out _⟩
          case measure => simp [intOf]; omega
        · have kp : ((k : Int) > 0) := by omega
          have kp2 : 0 < k := by omega
          obtain ⟨b', off', e', hb', x1⟩ := HCT.out.at (k := k - 1) (by omega)
          cases e'
          have y1 := kept HA1.out.fr hb' x1
          obtain ⟨cp, hcp⟩ : ∃ cp, ct (k - 1) = cp := ⟨_, rfl⟩
          have HCP := Lib.hid hcp
          rw [hcp] at y1
          clear hcp x1
          have kl : ((k - 1 : Nat) : Int) = (k : Int) - 1 := by omega
          have kw : IntKind.i64.wrap ((k : Int) - 1) = ((k - 1 : Nat) : Int) := (IntWalk.i64_in _ (by omega)).trans kl.symm
          have kj1 : ((k - 1 : Nat) : Int) < (nc : Int) := by omega
          clear kl
          obtain ⟨k1, hk1⟩ : ∃ k1, k1 = k - 1 := ⟨_, rfl⟩
          rw [← hk1] at kw kj1 y1
          clear hk1
          by_cases hlc : cp < ck
          · have kle : ¬ (ck ≤ cp) := by omega
            go_upto_region 6 with fail
            go_quiet ((go_at_call 44; exact Calls.quiet_of_same (HHK.out _ (HBQ.out.trans (below_drewS _ _ _)))))
            go_wp2_with fail
            go_roundw
            case rel => exact ⟨k + 1, by go_num, by omega, HTK.out (by rw [HHE.out, HCK.out, HCP.out, decide_eq_true hlc]; simp), DR.out _⟩
            case measure => simp [intOf]; omega
          · have kle : ck ≤ cp := by omega
            go_upto_region 6 with fail
            go_quiet ((go_at_call 44; exact Calls.quiet_of_same (HHK.out _ (HBQ.out.trans (below_drewS _ _ _)))))
            go_wp2_with fail
            go_ret
            exact ⟨ret_bool (HFK.out (by rw [HHE.out, HCK.out, HCP.out, decide_eq_false (show ¬ cp < ck by omega), decide_eq_false k0]; rfl)).symm, (DR.out _).fr⟩
    · obtain rfl : k = nc := by omega
      go_wp2_with fail
      go_ret
      exact ⟨ret_bool (by rw [HWB2.out, allB_true HAL.out]), HA1.out.fr⟩
end Go.Proofs.Ytpnkgjkoophckaa
