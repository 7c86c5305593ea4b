/- Walk: Along, Time, IsTruth of the reference. -/
import Derived.Test.YtpnkgjkoophckaaVE
namespace Go.Proofs.Ytpnkgjkoophckaa
open Go.RowKit Go.Shelf

theorem along_bd {m : Mp} {rt tr : Nat → Int} : ∀ n, (∀ k, k < n → ∃ r : Nat, m.road (rt k) (rt (k + 1)) = r ∧ 0 ≤ tr r ∧ tr r ≤ 50) → 0 ≤ alongZ m rt tr n ∧ alongZ m rt tr n ≤ 50 * (n : Int)
  | 0, _ => by simp [alongZ]
  | n + 1, h => by
    have h1 := along_bd n (fun k hk => h k (by omega))
    obtain ⟨r, h2, h3⟩ := h n (by omega)
    simp only [alongZ]
    rw [h2, Int.toNat_natCast]
    omega
theorem work_bd {ct tw : Nat → Int} : ∀ n, (∀ k, k < n → ∃ p : Nat, ct k = p ∧ 0 ≤ tw p ∧ tw p ≤ 50) → 0 ≤ workZ ct tw n ∧ workZ ct tw n ≤ 50 * (n : Int)
  | 0, _ => by simp [workZ]
  | n + 1, h => by
    have h1 := work_bd n (fun k hk => h k (by omega))
    obtain ⟨r, h2, h3⟩ := h n (by omega)
    simp only [workZ]
    rw [h2, Int.toNat_natCast]
    omega
set_option maxRecDepth 100000 in
set_option maxHeartbeats 16000000 in
theorem rAlong_any (x : MV) (m : Mp) (la : Option Addr) (n lc : Nat) (z : Nat → Int) (t : TV) (n1 : Nat) (tr : Nat → Int) (w : World) (h : MpIn w x m) (hz : IntsIn w (.slice la n lc) n z) (ht : IntsIn w (.slice t.ra m.nr t.rc) m.nr tr) (hn : 1 ≤ n ∧ n ≤ 100000) (hnr : m.nr ≤ 100000) (hrd : ∀ k, k + 1 < n → ∃ r : Nat, m.road (z k) (z (k + 1)) = r ∧ r < m.nr) (hbd : ∀ i, i < m.nr → 0 ≤ tr i ∧ tr i ≤ 50) :
    Calls Try.prog 40 #[.agg #[.slice x.wa m.nw x.wc, .slice x.ra m.nr x.rc], .slice la n lc, .agg #[.slice t.wa n1 t.wc, .slice t.ra m.nr t.rc]] w fun e w' => e = .returned (.int .i64 (alongZ m z tr (n - 1))) ∧ Below w.heap.size w w' := by
  have HZ := Lib.hid hz; have HT := Lib.hid ht
  have HRO := Lib.hid (fun p q W (hW : Below w.heap.size w W) => rRoad_any x m p q W (h.below hW) hnr)
  have HRD := Lib.hid hrd
  have HBD := Lib.hid hbd
  have HAB := Lib.hid (fun k (hk : k ≤ n - 1) => along_bd (m := m) (rt := z) (tr := tr) k (fun j hj => by obtain ⟨r, e, hr⟩ := hrd j (by omega); exact ⟨r, e, hbd r hr⟩))
  have HST : Hid (∀ k, alongZ m z tr (k + 1) = alongZ m z tr k + tr (m.road (z k) (z (k + 1))).toNat) := fun k => rfl
  clear h hz ht hrd hbd
  have HA0 : Hid (BF w ((w.alloc (.cells #[.slice x.wa m.nw x.wc, .slice x.ra m.nr x.rc] 25)).alloc (.cells #[.slice t.wa n1 t.wc, .slice t.ra m.nr t.rc] 71)) [(w.heap.size, #[.slice x.wa m.nw x.wc, .slice x.ra m.nr x.rc], 25), (w.heap.size + 1, #[.slice t.wa n1 t.wc, .slice t.ra m.nr t.rc], 71)]) := BF.made2 _ _ _ _ _
  go_enter Try.func40, Try.ntmps40
  go_wp2_with fail
  generalize ((w.alloc (.cells #[.slice x.wa m.nw x.wc, .slice x.ra m.nr x.rc] 25)).alloc (.cells #[.slice t.wa n1 t.wc, .slice t.ra m.nr t.rc] 71)) = w0 at *
  obtain ⟨ta, tc, sa, sc⟩ := t
  simp only at *
  go_loopw [7, 8] (fun s i wr => ∃ k : Nat, i = .int .i64 ((k + 1 : Nat) : Int) ∧ k ≤ n - 1 ∧ s = .int .i64 (alongZ m z tr k) ∧ BF w wr [(w.heap.size, #[.slice x.wa m.nw x.wc, .slice x.ra m.nr x.rc], 25), (w.heap.size + 1, #[.slice ta n1 tc, .slice sa m.nr sc], 71)]) (fun _ i _ => n - (intOf i).toNat)
  case atStart => exact ⟨0, rfl, Nat.zero_le _, rfl, HA0.out⟩
  case round =>
    clear HA0
    obtain ⟨k, rfl, hk, rfl, hbf⟩ := hrel
    have HA1 := Lib.hid hbf
    clear hbf
    have c0 := HA1.out.cell (.head _) 0
    have c1 := HA1.out.cell (.head _) 1
    have u0 := HA1.out.cell (.tail _ (.head _)) 0
    have u1 := HA1.out.cell (.tail _ (.head _)) 1
    by_cases hlt : k + 1 < n
    · obtain ⟨r, hr, hrn⟩ := HRD.out k hlt
      obtain ⟨lb, lo, rfl, hlb, x0⟩ := HZ.out.at (k := k) (by omega)
      obtain ⟨b1, o1, e1, _, x1⟩ := HZ.out.at (k := k + 1) (by omega)
      cases e1
      obtain ⟨sb, so, rfl, hsb, x2⟩ := HT.out.at (k := r) hrn
      have HC3 := Lib.hid (fun W (hW : Below w.heap.size w W) => And.intro (kept hW hlb x0) (And.intro (kept hW hlb x1) (kept hW hsb x2)))
      obtain ⟨y0, y1, y2⟩ := HC3.out _ HA1.out.fr
      have HRK := Lib.hid (HRO.out (z k) (z (k + 1)))
      rw [hr] at HRK
      have HSK : Hid (alongZ m z tr (k + 1) = alongZ m z tr k + tr r) := by have h := HST.out k; rw [hr, Int.toNat_natCast] at h; exact h
      have hb0 := HAB.out k (by omega)
      have hb1 := HBD.out r hrn
      clear hr x0 x1 x2
      generalize z k = zk at *
      generalize z (k + 1) = zk1 at *
      obtain ⟨ac, hac⟩ : ∃ ac, alongZ m z tr k = ac := ⟨_, rfl⟩
      obtain ⟨ac2, hac2⟩ : ∃ ac2, alongZ m z tr (k + 1) = ac2 := ⟨_, rfl⟩
      have HAC2 := Lib.hid hac2
      rw [hac] at HSK hb0 ⊢
      rw [hac2] at HSK
      clear hac hac2
      generalize tr r = tv at *
      have kad : IntKind.i64.wrap (ac + tv) = ac2 := by rw [HSK.out]; exact IntWalk.i64_in _ (by omega)
      have kk2 : IntKind.i64.wrap ((k : Int) + 1 - 1) = (k : Int) := (IntWalk.i64_in _ (by omega)).trans (by omega)
      have kt : ((k : Int) + 1).toNat = k + 1 := by omega
      have hw1 : IntKind.i64.wrap (k : Int) = k := IntWalk.i64_in _ (by omega)
      have kn9 : ¬ (k : Int) + 1 < 0 := by omega
      have kt0 : (k : Int).toNat = k := by omega
      have ki : (0 : Int) ≤ (k : Int) := by omega
      have kj : (k : Int) < (n : Int) := by omega
      have kc1 : (0 : Int) ≤ (k : Int) + 1 := by omega
      have kc2 : (k : Int) + 1 < (n : Int) := by omega
      have ri : (0 : Int) ≤ (r : Int) := by omega
      have rj : (r : Int) < (m.nr : Int) := by omega
      have HFM := Lib.hid HA1.out.fr
      go_upto_region 5 with fail
      go_region_held3 (fun X => X.cell? ⟨w.heap.size, 0, none⟩ = some (.slice x.wa m.nw x.wc) ∧ X.cell? ⟨w.heap.size, 1, none⟩ = some (.slice x.ra m.nr x.rc) ∧ X.cell? ⟨w.heap.size + 1, 1, none⟩ = some (.slice (some ⟨sb, so, none⟩) m.nr sc) ∧ X.cell? ⟨lb, lo + k, none⟩ = some (.int .i64 zk) ∧ X.cell? ⟨lb, lo + (k + 1), none⟩ = some (.int .i64 zk1) ∧ X.cell? ⟨sb, so + r, none⟩ = some (.int .i64 tv)) (first | (refine ⟨?_, ?_, ?_, ?_, ?_, ?_⟩ <;> assumption) | go_keep) (first | (go_at_call 80; refine (HRK.out _ HFM.out.drew).mono ?_; rintro _ w6 ⟨rfl, hb⟩; have HA3 := Lib.hid (HA1.out.below ((Below.refl _ _).drew.trans hb)); have d0 := HA3.out.cell (.head _) 0; have d1 := HA3.out.cell (.head _) 1; have d4 := HA3.out.cell (.tail _ (.head _)) 1; obtain ⟨d2, d3, d5⟩ := HC3.out _ HA3.out.fr; clear hb))
      clear y0 y1 y2 c0 c1 u0 u1 d0 d1 d2 d3 d4 d5 kk2 kt hw1 kn9 kt0 kc1 kc2
      go_wp2_with fail
      go_roundw
      case rel => exact ⟨k + 1, by go_num, by omega, by rw [HAC2.out], HA3.out⟩
      case measure => simp [intOf]; omega
    · have hkn : ((k + 1 : Nat) : Int) = (n : Int) := by omega
      have HKN := Lib.hid hkn
      rw [HKN.out]
      have HKK : Hid (n - 1 = k) := Lib.hid (by omega)
      clear hkn hlt hk
      have kq : ¬ ((n : Int) < (n : Int)) := by omega
      go_wp2_with fail
      go_ret
      exact ⟨ret_int (by rw [HKK.out]), HA1.out.fr⟩
set_option maxRecDepth 100000 in
set_option maxHeartbeats 16000000 in
theorem rTime_any (x : MV) (m : Mp) (u : LV) (y : Wl) (t : TV) (tw tr : Nat → Int) (w : World) (h : MpIn w x m) (hu : WlIn w u y) (ht : TrIn w t m tw tr) (hy : WlOk m y) (hnr : m.nr ≤ 100000) (hc : y.nc ≤ 100000) (hb : TrBd m tw tr) :
    Calls Try.prog 57 #[.agg #[.slice x.wa m.nw x.wc, .slice x.ra m.nr x.rc], .agg #[.slice u.ra y.nl u.rc, .slice u.ca y.nc u.cc], .agg #[.slice t.wa m.nw t.wc, .slice t.ra m.nr t.rc]] w fun e w' => e = .returned (.int .i64 (timeZ m y tw tr)) ∧ Below w.heap.size w w' := by
  obtain ⟨ua, uc, va, vc⟩ := u
  obtain ⟨nl, rt, nc, ct⟩ := y
  obtain ⟨ta, tc, sa, sc⟩ := t
  have HAL := Lib.hid (fun W (hW : Below w.heap.size w W) => rAlong_any x m ua nl uc rt ⟨ta, tc, sa, sc⟩ m.nw tr W (h.below hW) (hu.below hW).rt (ht.below hW).rd (by have := hy.nl; simp only at this; omega) hnr (fun k hk => hy.rd k hk) hb.rd)
  have HCT := Lib.hid hu.ct
  have HTW := Lib.hid ht.wk
  have HCX := Lib.hid hy.ct
  have HBX := Lib.hid hb.wk
  have HWB := Lib.hid (fun k (hk : k ≤ nc) => work_bd (ct := ct) (tw := tw) k (fun j hj => by obtain ⟨p, e, hp⟩ := hy.ct j (by show j < nc; omega); exact ⟨p, e, hb.wk p hp⟩))
  have hAB := along_bd (m := m) (rt := rt) (tr := tr) (nl - 1) (fun j hj => by obtain ⟨r, e, hr⟩ := hy.rd j (by show j + 1 < nl; omega); exact ⟨r, e, hb.rd r hr⟩)
  have hnl : nl ≤ 64 := hy.nl.2
  have HTZ : Hid (timeZ m ⟨nl, rt, nc, ct⟩ tw tr = alongZ m rt tr (nl - 1) + workZ ct tw nc) := rfl
  have HWS : Hid (∀ k, workZ ct tw (k + 1) = workZ ct tw k + tw (ct k).toNat) := fun k => rfl
  simp only at *
  clear h hu ht hy hb
  generalize timeZ m ⟨nl, rt, nc, ct⟩ tw tr = tz at *
  generalize alongZ m rt tr (nl - 1) = az at *
  have HA0 : Hid (BF w (((w.alloc (.cells #[.slice x.wa m.nw x.wc, .slice x.ra m.nr x.rc] 25)).alloc (.cells #[.slice ua nl uc, .slice va nc vc] 49)).alloc (.cells #[.slice ta m.nw tc, .slice sa m.nr sc] 71)) [(w.heap.size, #[.slice x.wa m.nw x.wc, .slice x.ra m.nr x.rc], 25), (w.heap.size + 1, #[.slice ua nl uc, .slice va nc vc], 49), (w.heap.size + 2, #[.slice ta m.nw tc, .slice sa m.nr sc], 71)]) := BF.made3 _ _ _ _ _ _ _
  go_enter Try.func57, Try.ntmps57
  go_upto_region 1 with fail
  generalize (((w.alloc (.cells #[.slice x.wa m.nw x.wc, .slice x.ra m.nr x.rc] 25)).alloc (.cells #[.slice ua nl uc, .slice va nc vc] 49)).alloc (.cells #[.slice ta m.nw tc, .slice sa m.nr sc] 71)) = w0 at *
  have c0 := HA0.out.cell (.head _) 0
  have c1 := HA0.out.cell (.head _) 1
  have c2 := HA0.out.cell (.tail _ (.head _)) 0
  have c4 := HA0.out.cell (.tail _ (.tail _ (.head _))) 0
  have c5 := HA0.out.cell (.tail _ (.tail _ (.head _))) 1
  go_wp2_with (go_at_call 40; refine (HAL.out _ HA0.out.fr).mono ?_; rintro _ w1 ⟨rfl, hb⟩; have HA1 := Lib.hid (HA0.out.below hb); clear hb)
  clear HA0 c0 c1 c2 c4 c5
  go_loopw [7, 8] (fun s i wr => ∃ k : Nat, i = .int .i64 k ∧ k ≤ nc ∧ s = .int .i64 (az + workZ ct tw k) ∧ BF w wr [(w.heap.size, #[.slice x.wa m.nw x.wc, .slice x.ra m.nr x.rc], 25), (w.heap.size + 1, #[.slice ua nl uc, .slice va nc vc], 49), (w.heap.size + 2, #[.slice ta m.nw tc, .slice sa m.nr sc], 71)]) (fun _ i _ => nc - (intOf i).toNat)
  case atStart => exact ⟨0, rfl, Nat.zero_le _, by simp [workZ], HA1.out⟩
  case round =>
    clear HA1
    obtain ⟨k, rfl, hk, rfl, hbf⟩ := hrel
    have HA1 := Lib.hid hbf
    clear hbf
    have u1 := HA1.out.cell (.tail _ (.head _)) 1
    have t0 := HA1.out.cell (.tail _ (.tail _ (.head _))) 0
    by_cases hlt : k < nc
    · obtain ⟨p, hp, hpn⟩ := HCX.out k hlt
      obtain ⟨lb, lo, rfl, hlb, x0⟩ := HCT.out.at (k := k) hlt
      obtain ⟨sb, so, rfl, hsb, x2⟩ := HTW.out.at (k := p) hpn
      rw [hp] at x0
      have y0 := kept HA1.out.fr hlb x0
      have y2 := kept HA1.out.fr hsb x2
      have hb0 := HWB.out k (by omega)
      have hb1 := HBX.out p hpn
      have HSK : Hid (workZ ct tw (k + 1) = workZ ct tw k + tw p) := by have h := HWS.out k; rw [hp, Int.toNat_natCast] at h; exact h
      clear hp x0 x2
      generalize tw p = tv at *
      obtain ⟨ac2, hac2⟩ : ∃ ac2, workZ ct tw (k + 1) = ac2 := ⟨_, rfl⟩
      have HAC2 := Lib.hid hac2
      rw [hac2] at HSK
      clear hac2
      generalize workZ ct tw k = ac at *
      have kad : IntKind.i64.wrap (az + ac + tv) = az + ac2 := by rw [HSK.out]; exact (IntWalk.i64_in _ (by omega)).trans (by omega)
      have ki : (0 : Int) ≤ (k : Int) := by omega
      have kj : (k : Int) < (nc : Int) := by omega
      have ri : (0 : Int) ≤ (p : Int) := by omega
      have rj : (p : Int) < (m.nw : Int) := by omega
      have DR := Lib.hid (fun n0 => HA1.out.below (below_drewN wr n0))
      go_upto_region 5 with fail
      go_quiet (fail)
      go_wp2_with fail
      go_roundw
      case rel => exact ⟨k + 1, by go_num, by omega, by rw [HAC2.out], DR.out _⟩
      case measure => simp [intOf]; omega
    · obtain rfl : k = nc := by omega
      go_wp2_with fail
      go_ret
      exact ⟨ret_int HTZ.out.symm, HA1.out.fr⟩
end Go.Proofs.Ytpnkgjkoophckaa
