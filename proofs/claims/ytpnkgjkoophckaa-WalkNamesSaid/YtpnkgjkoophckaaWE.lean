/- Walk: the error of a walk. Printed by gen_we.py. -/
import Derived.Test.YtpnkgjkoophckaaWD
import Derived.Test.YtpnkgjkoophckaaWG
namespace Go.Proofs.Ytpnkgjkoophckaa
open Go.RowKit Go.Shelf

/-- A walk: its route, and what is counted. -/
structure Wl where
  nl : Nat
  rt : Nat → Int
  nc : Nat
  ct : Nat → Int
structure LV where
  ra : Option Addr
  rc : Nat
  ca : Option Addr
  cc : Nat
structure WlIn (w : World) (x : LV) (y : Wl) : Prop where
  rt : IntsIn w (.slice x.ra y.nl x.rc) y.nl y.rt
  ct : IntsIn w (.slice x.ca y.nc x.cc) y.nc y.ct
theorem WlIn.below {w w' : World} {x : LV} {y : Wl} (h : WlIn w x y) (hB : Below w.heap.size w w') : WlIn w' x y := ⟨h.rt.below hB, h.ct.below hB⟩
/-- Each place of a list is joined with the one after it. -/
def pathB (m : Mp) (rt : Nat → Int) (n : Nat) : Bool := allB (fun i => decide (0 ≤ m.road (rt i) (rt (i + 1)))) n
def walkOk (m : Mp) (y : Wl) : Bool := decide (1 ≤ y.nl) && (decide (y.rt 0 = 0) && (decide (y.rt (y.nl - 1) = 0) && (pathB m y.rt (y.nl - 1) && (risesB y.ct y.nc && allB (fun j => hasB y.rt y.nl (y.ct j)) y.nc))))
def walkE (m : Mp) (y : Wl) : Int := if 64 < y.nl then 3 else if walkOk m y = true then 0 else 2
theorem walkE_3 {m : Mp} {y : Wl} (h : 64 < y.nl) : walkE m y = 3 := if_pos h
theorem walkE_2 {m : Mp} {y : Wl} (h : ¬ 64 < y.nl) (h2 : walkOk m y = false) : walkE m y = 2 := by unfold walkE; rw [if_neg h, h2]; rfl
theorem walkE_0 {m : Mp} {y : Wl} (h : ¬ 64 < y.nl) (h2 : walkOk m y = true) : walkE m y = 0 := by unfold walkE; rw [if_neg h, h2]; rfl
set_option maxRecDepth 100000 in
set_option maxHeartbeats 8000000 in
theorem walk_any (x : MV) (m : Mp) (u : LV) (y : Wl) (w : World) (h : MpIn w x m) (hu : WlIn w u y) (hnr : m.nr ≤ 100000) (h1 : y.nl ≤ 100000) (h2 : y.nc ≤ 100000) :
    Calls Try.prog 86 #[.agg #[.slice x.wa m.nw x.wc, .slice x.ra m.nr x.rc], .agg #[.slice u.ra y.nl u.rc, .slice u.ca y.nc u.cc]] w fun e w' => e = .returned (.int .i64 (walkE m y)) ∧ Below w.heap.size w w' := by
  obtain ⟨pa, pc, qa, qc⟩ := x
  obtain ⟨ua, uc, va, vc⟩ := u
  obtain ⟨hr, hc⟩ := hu
  have HRD := Lib.hid (fun a b W (hW : Below w.heap.size w W) => road_any ⟨pa, pc, qa, qc⟩ m a b W (h.below hW) hnr)
  have HRI := Lib.hid (fun W (hW : Below w.heap.size w W) => rises_any va y.nc vc y.ct W h2 (hc.below hW))
  have HAV := Lib.hid (fun c W (hW : Below w.heap.size w W) hl hcell => all_visited y.nc va vc c ua y.nl uc y.rt y.ct W h2 h1 hl (hr.below hW) hcell (hc.below hW))
  have HRT := Lib.hid hr
  have H3 := Lib.hid (walkE_3 (m := m) (y := y))
  have H2 := Lib.hid (walkE_2 (m := m) (y := y))
  have H0 := Lib.hid (walkE_0 (m := m) (y := y))
  have HOK : Hid (walkOk m y = (decide (1 ≤ y.nl) && (decide (y.rt 0 = 0) && (decide (y.rt (y.nl - 1) = 0) && (pathB m y.rt (y.nl - 1) && (risesB y.ct y.nc && allB (fun j => hasB y.rt y.nl (y.ct j)) y.nc)))))) := rfl
  clear h hr hc
  simp only at *
  generalize walkE m y = we at *
  generalize walkOk m y = ok at *
  generalize allB (fun j => hasB y.rt y.nl (y.ct j)) y.nc = av at *
  generalize risesB y.ct y.nc = ri at *
  generalize y.nc = nc at *
  generalize y.nl = nl at *
  generalize hrt : y.rt = rt at *
  clear hrt
  have HA0 : Hid (BF w ((w.alloc (.cells #[.slice pa m.nw pc, .slice qa m.nr qc] 37)).alloc (.cells #[.slice ua nl uc, .slice va nc vc] 30)) [(w.heap.size, #[.slice pa m.nw pc, .slice qa m.nr qc], 37), (w.heap.size + 1, #[.slice ua nl uc, .slice va nc vc], 30)]) := BF.made2 _ _ _ _ _
  go_enter Try.func86, Try.ntmps86
  by_cases k1 : 64 < nl
  · go_wp2_with fail
    go_ret
    exact ⟨ret_int (H3.out k1).symm, HA0.out.fr⟩
  by_cases k2 : nl = 0
  · subst k2
    go_wp2_with fail
    go_ret
    exact ⟨ret_int (H2.out k1 (HOK.out.trans (by simp))).symm, HA0.out.fr⟩
  obtain ⟨n, rfl⟩ : ∃ n, nl = n + 1 := ⟨nl - 1, by omega⟩
  clear k2
  obtain ⟨b, off, rfl, hb, x0, x1⟩ := HRT.out.at2 (k := 0) (l := n) (by omega) (by omega)
  have hn1 : n + 1 - 1 = n := by omega
  have hs : IntKind.i64.wrap (((n + 1 : Nat) : Int) - 1) = n := by rw [IntWalk.i64_in _ (by omega)]; omega
  rw [hn1] at HOK
  clear hn1
  obtain ⟨r0, hr0⟩ : ∃ r, rt 0 = r := ⟨_, rfl⟩
  obtain ⟨rl, hrl⟩ : ∃ r, rt n = r := ⟨_, rfl⟩
  rw [hr0] at x0 HOK
  rw [hrl] at x1 HOK
  rw [Nat.add_zero] at x0
  clear hr0 hrl
  by_cases k3 : r0 = 0
  case neg =>
    have kb : (r0 != 0) = true := by simp [k3]
    go_wp2_with fail
    go_ret
    exact ⟨ret_int (H2.out k1 (HOK.out.trans (by simp [k3]))).symm, HA0.out.fr⟩
  subst k3
  by_cases k4 : rl = 0
  case neg =>
    have kb : (rl != 0) = true := by simp [k4]
    go_wp2_with fail
    go_ret
    exact ⟨ret_int (H2.out k1 (HOK.out.trans (by simp [k4]))).symm, HA0.out.fr⟩
  subst k4
  go_wp2_with fail
  generalize ((w.alloc (.cells #[.slice pa m.nw pc, .slice qa m.nr qc] 37)).alloc (.cells #[.slice (some ⟨b, off, none⟩) (n + 1) uc, .slice va nc vc] 30)) = w0 at *
  clear x0 x1
  go_loopw [5] (fun i wr => ∃ k : Nat, i = .int .i64 (k + 1 : Nat) ∧ k ≤ n ∧ (∀ q, q < k → decide (0 ≤ m.road (rt q) (rt (q + 1))) = true) ∧ BF w wr [(w.heap.size, #[.slice pa m.nw pc, .slice qa m.nr qc], 37), (w.heap.size + 1, #[.slice (some ⟨b, off, none⟩) (n + 1) uc, .slice va nc vc], 30)]) (fun i _ => n + 1 - (intOf i).toNat)
  case atStart => exact ⟨0, rfl, Nat.zero_le _, fun q h => absurd h (Nat.not_lt_zero _), HA0.out⟩
  case round =>
    clear HA0
    obtain ⟨k, rfl, hk, hall, hbf⟩ := hrel
    have HA := Lib.hid hall; clear hall
    have HA0 := Lib.hid hbf; clear hbf
    have m0 := HA0.out.cell (.head _) 0
    have m1 := HA0.out.cell (.head _) 1
    have u0 := HA0.out.cell (.tail _ (.head _)) 0
    have u1 := HA0.out.cell (.tail _ (.head _)) 1
    by_cases hlt : k < n
    · have hkk : k + 1 < n + 1 := by omega
      obtain ⟨b', off', hbe, hb', x0, x1⟩ := HRT.out.at2 (k := k) (l := k + 1) (by omega) (by omega)
      cases hbe
      have hw1 : IntKind.i64.wrap (k : Int) = k := IntWalk.i64_in _ (by omega)
      have ki : (0 : Int) ≤ (k : Int) := by omega
      have kj : (k : Int) < (n : Int) + 1 := by omega
      have kj1 : (k : Int) + 1 < (n : Int) + 1 := by omega
      have kj2 : (k : Int) < (n : Int) := by omega
      have kt : (k : Int).toNat = k := by omega
      have kn : ¬ (k : Int) + 1 < 0 := by omega
      have HRK := Lib.hid (HRD.out (rt k) (rt (k + 1)))
      have HPK : Hid (∀ q, q < k + 1 → 0 ≤ m.road (rt k) (rt (k + 1)) → decide (0 ≤ m.road (rt q) (rt (q + 1))) = true) := fun q hq h => by rcases Nat.lt_succ_iff_lt_or_eq.1 hq with h1 | rfl; exact HA.out q h1; exact decide_eq_true h
      have HNK : Hid (m.road (rt k) (rt (k + 1)) < 0 → pathB m rt n = false) := fun h => allB_false hlt (decide_eq_false (by omega))
      generalize m.road (rt k) (rt (k + 1)) = rr at HRK HPK HNK x0 x1
      generalize rt k = a1 at *
      generalize rt (k + 1) = a2 at *
      have HC8 : Hid (∀ X, BF w X [(w.heap.size, #[.slice pa m.nw pc, .slice qa m.nr qc], 37), (w.heap.size + 1, #[.slice (some ⟨b, off, none⟩) (n + 1) uc, .slice va nc vc], 30)] → X.cell? ⟨w.heap.size, 0, none⟩ = some (.slice pa m.nw pc) ∧ X.cell? ⟨w.heap.size, 1, none⟩ = some (.slice qa m.nr qc) ∧ X.cell? ⟨w.heap.size + 1, 0, none⟩ = some (.slice (some ⟨b, off, none⟩) (n + 1) uc) ∧ X.cell? ⟨w.heap.size + 1, 1, none⟩ = some (.slice va nc vc) ∧ X.cell? ⟨b, off + k, none⟩ = some (.int .i64 a1) ∧ X.cell? ⟨b, off + (k + 1), none⟩ = some (.int .i64 a2)) := fun X hX => ⟨hX.cell (.head _) 0, hX.cell (.head _) 1, hX.cell (.tail _ (.head _)) 0, hX.cell (.tail _ (.head _)) 1, kept hX.fr hb x0, kept hX.fr hb x1⟩
      clear x0 x1 HRD HA HRI HAV
      go_upto_region 8 with fail
      have HAX : Hid (BF w wr.drew [(w.heap.size, #[.slice pa m.nw pc, .slice qa m.nr qc], 37), (w.heap.size + 1, #[.slice (some ⟨b, off, none⟩) (n + 1) uc, .slice va nc vc], 30)]) := HA0.out.below (Below.refl _ _).drew
      refine wp_region_held_drew (S := fun X => X.cell? ⟨w.heap.size, 0, none⟩ = some (.slice pa m.nw pc) ∧ X.cell? ⟨w.heap.size, 1, none⟩ = some (.slice qa m.nr qc) ∧ X.cell? ⟨w.heap.size + 1, 0, none⟩ = some (.slice (some ⟨b, off, none⟩) (n + 1) uc) ∧ X.cell? ⟨w.heap.size + 1, 1, none⟩ = some (.slice va nc vc) ∧ X.cell? ⟨b, off + k, none⟩ = some (.int .i64 a1) ∧ X.cell? ⟨b, off + (k + 1), none⟩ = some (.int .i64 a2)) (by kernel_rfl) (HC8.out _ HAX.out) (fun hS => ?_)
      generalize wr.drew = X at *
      clear m0 m1 u0 u1 HA0
      refine tk [0, 1, 2, 3] ?_
      repeat (refine tkH (oi := ⟨_, _, _, _, _, _⟩) (v := ?_) rfl (by kernel_rfl) (by rfl) (fun _ _ _ h => h) hS ?_ ?_; rotate_left; (· rintro W' ⟨z0, z1, z2, z3, z4, z5⟩; go_simp; try with_reducible rfl); try simp only [Act.put, putA, putZ, putS])
      refine tk0 ?_
      refine tH 4 (oi := ⟨_, _, _, _, _, _⟩) (v := .int .i64 (k : Int)) rfl (by kernel_rfl) (by rfl) (fun _ _ _ h => h) hS ?_ ?_
      · rintro W' ⟨z0, z1, z2, z3, z4, z5⟩; go_simp; (try omega)
      try simp only [Act.put, putA, putZ, putS]
      refine tk [5, 6, 7, 8, 9] ?_
      repeat (refine tkH (oi := ⟨_, _, _, _, _, _⟩) (v := ?_) rfl (by kernel_rfl) (by rfl) (fun _ _ _ h => h) hS ?_ ?_; rotate_left; (· rintro W' ⟨z0, z1, z2, z3, z4, z5⟩; go_simp; try with_reducible rfl); try simp only [Act.put, putA, putZ, putS])
      refine tk0 ?_
      refine tH 10 (oi := ⟨_, _, _, _, _, _⟩) (v := .pointer (some ⟨b, off + (k + 1), none⟩)) rfl (by kernel_rfl) (by rfl) (fun _ _ _ h => h) hS ?_ ?_
      · rintro W' ⟨z0, z1, z2, z3, z4, z5⟩; go_simp; (try (intro h; exfalso; omega))
      try simp only [Act.put, putA, putZ, putS]
      refine tH 11 (oi := ⟨_, _, _, _, _, _⟩) (v := ?_) rfl (by kernel_rfl) (by rfl) (fun _ _ _ h => h) hS ?_ ?_
      rotate_left
      · rintro W' ⟨z0, z1, z2, z3, z4, z5⟩; go_simp; try with_reducible rfl
      try simp only [Act.put, putA, putZ, putS]
      refine wpAnyH_ready (rs := [12]) (by kernel_rfl) (by simp) ?_
      refine AllReadyH.cons (o := ⟨some 52, _, _, _, _, _⟩) rfl (fun K hK => ?_) AllReadyH.nil
      go_simp
      refine (HRK.out _ HAX.out.fr).mono ?_
      rintro _ X0 ⟨rfl, hb0⟩
      (try go_wp2_with fail)
      have HA0 := Lib.hid (HAX.out.below hb0)
      refine hK.out _ _ (HC8.out X0 HA0.out) (fun hS => ?_)
      clear hK K
      try simp only [Act.put, putA, putZ, putS]
      clear hb0
      refine tH 13 (oi := ⟨_, _, _, _, _, _⟩) (v := ?_) rfl (by kernel_rfl) (by rfl) (fun _ _ _ h => h) hS ?_ ?_
      rotate_left
      · rintro W' ⟨z0, z1, z2, z3, z4, z5⟩; go_simp; try with_reducible rfl
      try simp only [Act.put, putA, putZ, putS]
      refine wpAnyH_done (by kernel_rfl) ?_ _
      by_cases hrr : rr < 0
      · go_wp2_with fail
        go_ret
        exact ⟨ret_int (H2.out k1 (HOK.out.trans (by rw [HNK.out hrr]; simp))).symm, HA0.out.fr⟩
      · go_wp2_with fail
        go_roundw
        case rel => exact ⟨k + 1, by go_num, by omega, fun q hq => HPK.out q hq (by omega), HA0.out⟩
        case measure => simp [intOf]; omega
    · have hkn : n = k := by omega
      subst hkn
      have HPA : Hid (pathB m rt n = true) := allB_true HA.out
      have hl3 := (HA0.out.lt (.tail _ (.head _))).2
      have HCE : Hid (∀ X, BF w X [(w.heap.size, #[.slice pa m.nw pc, .slice qa m.nr qc], 37), (w.heap.size + 1, #[.slice (some ⟨b, off, none⟩) (n + 1) uc, .slice va nc vc], 30)] → X.cell? ⟨w.heap.size + 1, 1, none⟩ = some (.slice va nc vc)) := fun X hX => hX.cell (.tail _ (.head _)) 1
      cases ri
      · go_wp2_with (go_at_call 67; refine (HRI.out _ HA0.out.fr).mono ?_; rintro _ x1 ⟨rfl, hb1⟩; have HA1 := Lib.hid (HA0.out.below hb1); have u1 := HCE.out _ HA1.out; clear hb1)
        go_ret
        exact ⟨ret_int (H2.out k1 (HOK.out.trans (by rw [HPA.out]; simp))).symm, HA1.out.fr⟩
      · cases av
        · go_wp2_with (first | (go_at_call 67; refine (HRI.out _ HA0.out.fr).mono ?_; rintro _ x1 ⟨rfl, hb1⟩; have HA1 := Lib.hid (HA0.out.below hb1); have u1 := HCE.out _ HA1.out; clear hb1) | (go_at_call 68; refine (HAV.out _ _ HA1.out.fr (HA1.out.lt (.tail _ (.head _))).2 (HA1.out.cell (.tail _ (.head _)) 0)).mono ?_; rintro _ x2 ⟨rfl, hb1⟩; have HA2 := Lib.hid (HA1.out.below hb1); clear hb1))
          go_ret
          exact ⟨ret_int (H2.out k1 (HOK.out.trans (by rw [HPA.out]; simp))).symm, HA2.out.fr⟩
        · go_wp2_with (first | (go_at_call 67; refine (HRI.out _ HA0.out.fr).mono ?_; rintro _ x1 ⟨rfl, hb1⟩; have HA1 := Lib.hid (HA0.out.below hb1); have u1 := HCE.out _ HA1.out; clear hb1) | (go_at_call 68; refine (HAV.out _ _ HA1.out.fr (HA1.out.lt (.tail _ (.head _))).2 (HA1.out.cell (.tail _ (.head _)) 0)).mono ?_; rintro _ x2 ⟨rfl, hb1⟩; have HA2 := Lib.hid (HA1.out.below hb1); clear hb1))
          go_ret
          exact ⟨ret_int (H0.out k1 (HOK.out.trans (by rw [HPA.out]; simp))).symm, HA2.out.fr⟩
end Go.Proofs.Ytpnkgjkoophckaa
