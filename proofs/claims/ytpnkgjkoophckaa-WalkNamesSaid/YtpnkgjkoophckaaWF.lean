/- Walk: the time of a walk in a truth. Printed by gen_wf.py. -/
import Derived.Test.YtpnkgjkoophckaaWE
namespace Go.Proofs.Ytpnkgjkoophckaa
open Go.RowKit Go.Shelf

def alongZ (m : Mp) (rt tr : Nat → Int) : Nat → Int
  | 0 => 0
  | k + 1 => alongZ m rt tr k + tr (m.road (rt k) (rt (k + 1))).toNat
def workZ (ct tw : Nat → Int) : Nat → Int
  | 0 => 0
  | k + 1 => workZ ct tw k + tw (ct k).toNat
def timeZ (m : Mp) (y : Wl) (tw tr : Nat → Int) : Int := alongZ m y.rt tr (y.nl - 1) + workZ y.ct tw y.nc
/-- What a walk of a valid map has. -/
structure WlOk (m : Mp) (y : Wl) : Prop where
  nl : 1 ≤ y.nl ∧ y.nl ≤ 64
  fst : y.rt 0 = 0
  lst : y.rt (y.nl - 1) = 0
  rd : ∀ k, k + 1 < y.nl → ∃ r : Nat, m.road (y.rt k) (y.rt (k + 1)) = r ∧ r < m.nr
  pl : ∀ k, k < y.nl → ∃ p : Nat, y.rt k = p ∧ p < m.nw
  ct : ∀ j, j < y.nc → ∃ p : Nat, y.ct j = p ∧ p < m.nw
  ris : risesB y.ct y.nc = true
  has : ∀ j, j < y.nc → hasB y.rt y.nl (y.ct j) = true
theorem hasB_iff {z : Nat → Int} {n : Nat} {x : Int} : hasB z n x = true ↔ ∃ j, j < n ∧ z j = x := by
  unfold hasB
  constructor
  · intro h
    rcases Classical.em (∃ j, j < n ∧ z j = x) with h1 | h1
    · exact h1
    · rw [allB_true (fun q hq => by simp only [neB]; exact decide_eq_true (fun e => h1 ⟨q, hq, e⟩))] at h; cases h
  · rintro ⟨j, hj, e⟩
    rw [allB_false hj (neB_no e.symm)]; rfl
theorem wlOk_of {m : Mp} (ok : OkM m) {y : Wl} (h : walkE m y = 0) : WlOk m y := by
  unfold walkE at h
  split at h
  · omega
  rename_i hn
  split at h
  · rename_i h2
    simp only [walkOk, Bool.and_eq_true, decide_eq_true_eq, pathB, allB_iff] at h2
    obtain ⟨h3, h4, h5, h6, h7, h8⟩ := h2
    have hrd : ∀ k, k + 1 < y.nl → ∃ r : Nat, m.road (y.rt k) (y.rt (k + 1)) = r ∧ r < m.nr := fun k hk => by
      have := h6 k (by omega)
      have := road_bd m (y.rt k) (y.rt (k + 1))
      exact ⟨(m.road (y.rt k) (y.rt (k + 1))).toNat, by omega, by omega⟩
    have hpl : ∀ k, k < y.nl → ∃ p : Nat, y.rt k = p ∧ p < m.nw := fun k hk => by
      cases k with
      | zero => exact ⟨0, h4, ok.nw.1⟩
      | succ k =>
        obtain ⟨r, hr, hr2⟩ := hrd k hk
        have hj := (road_join hr).2
        have a := ok.ra r hr2
        have b := ok.rb r hr2
        simp only [joinsB, Bool.or_eq_true, Bool.and_eq_true, decide_eq_true_eq] at hj
        exact ⟨(y.rt (k + 1)).toNat, by omega, by omega⟩
    refine ⟨by omega, h4, h5, hrd, hpl, fun j hj => ?_, h7, h8⟩
    obtain ⟨i, hi, e⟩ := hasB_iff.1 (h8 j hj)
    rw [← e]; exact hpl i hi
  · omega
structure TV where
  wa : Option Addr
  wc : Nat
  ra : Option Addr
  rc : Nat
structure TrIn (w : World) (x : TV) (m : Mp) (tw tr : Nat → Int) : Prop where
  wk : IntsIn w (.slice x.wa m.nw x.wc) m.nw tw
  rd : IntsIn w (.slice x.ra m.nr x.rc) m.nr tr
theorem TrIn.below {w w' : World} {x : TV} {m : Mp} {tw tr : Nat → Int} (h : TrIn w x m tw tr) (hB : Below w.heap.size w w') : TrIn w' x m tw tr := ⟨h.wk.below hB, h.rd.below hB⟩
/-- Times of a truth. -/
structure TrBd (m : Mp) (tw tr : Nat → Int) : Prop where
  wk : ∀ i, i < m.nw → 0 ≤ tw i ∧ tw i ≤ 50
  rd : ∀ i, i < m.nr → 0 ≤ tr i ∧ tr i ≤ 50
set_option maxRecDepth 100000 in
set_option maxHeartbeats 8000000 in
theorem time_any (x : MV) (m : Mp) (u : LV) (y : Wl) (z : TV) (tw tr : Nat → Int) (w : World) (h : MpIn w x m) (hu : WlIn w u y) (hz : TrIn w z m tw tr) (ok : OkM m) (hy : WlOk m y) (h2 : y.nc ≤ 100000) (hbd : TrBd m tw tr) :
    Calls Try.prog 88 #[.agg #[.slice x.wa m.nw x.wc, .slice x.ra m.nr x.rc], .agg #[.slice u.ra y.nl u.rc, .slice u.ca y.nc u.cc], .agg #[.slice z.wa m.nw z.wc, .slice z.ra m.nr z.rc]] w fun e w' => e = .returned (.int .i64 (timeZ m y tw tr)) ∧ Below w.heap.size w w' := by
  obtain ⟨pa, pc, qa, qc⟩ := x
  obtain ⟨ua, uc, va, vc⟩ := u
  obtain ⟨fa, fc, ga, gc⟩ := z
  obtain ⟨hr, hc⟩ := hu
  obtain ⟨hfw, hgr⟩ := hz
  have hnr := ok.nr
  have hnw := ok.nw
  have HRD := Lib.hid (fun a b W (hW : Below w.heap.size w W) => road_any ⟨pa, pc, qa, qc⟩ m a b W (h.below hW) (by omega))
  have HRT := Lib.hid hr; have HCT := Lib.hid hc; have HFW := Lib.hid hfw; have HGR := Lib.hid hgr
  have HTZ : Hid (timeZ m y tw tr = alongZ m y.rt tr (y.nl - 1) + workZ y.ct tw y.nc) := rfl
  have HYR := Lib.hid hy.rd; have HYC := Lib.hid hy.ct
  have HBW := Lib.hid hbd.wk; have HBR := Lib.hid hbd.rd
  have hnl := hy.nl
  clear h hr hc hfw hgr ok hy hbd
  simp only at *
  generalize timeZ m y tw tr = tz at *
  generalize y.nc = nc at *
  obtain ⟨n, hn⟩ : ∃ n, y.nl = n + 1 := ⟨y.nl - 1, by omega⟩
  rw [hn] at HRT HTZ HYR hnl ⊢
  clear hn
  have hnp : n + 1 - 1 = n := by omega
  rw [hnp] at HTZ
  clear hnp
  generalize y.rt = rt at *
  generalize y.ct = ct at *
  generalize m.nw = nw at *
  generalize hm : m.nr = nr at *
  clear hm
  have HA0 : Hid (BF w (((w.alloc (.cells #[.slice pa nw pc, .slice qa nr qc] 37)).alloc (.cells #[.slice ua (n + 1) uc, .slice va nc vc] 30)).alloc (.cells #[.slice fa nw fc, .slice ga nr gc] 98)) [(w.heap.size, #[.slice pa nw pc, .slice qa nr qc], 37), (w.heap.size + 1, #[.slice ua (n + 1) uc, .slice va nc vc], 30), (w.heap.size + 2, #[.slice fa nw fc, .slice ga nr gc], 98)]) := BF.made3 _ _ _ _ _ _ _
  go_enter Try.func88, Try.ntmps88
  go_wp2_with fail
  generalize (((w.alloc (.cells #[.slice pa nw pc, .slice qa nr qc] 37)).alloc (.cells #[.slice ua (n + 1) uc, .slice va nc vc] 30)).alloc (.cells #[.slice fa nw fc, .slice ga nr gc] 98)) = w0 at *
  go_loopw [6, 7] (fun s i wr => ∃ k : Nat, i = .int .i64 (k + 1 : Nat) ∧ k ≤ n ∧ s = .int .i64 (alongZ m rt tr k) ∧ 0 ≤ alongZ m rt tr k ∧ alongZ m rt tr k ≤ 50 * (k : Int) ∧ BF w wr [(w.heap.size, #[.slice pa nw pc, .slice qa nr qc], 37), (w.heap.size + 1, #[.slice ua (n + 1) uc, .slice va nc vc], 30), (w.heap.size + 2, #[.slice fa nw fc, .slice ga nr gc], 98)]) (fun _ i _ => n + 1 - (intOf i).toNat)
  case atStart => exact ⟨0, rfl, Nat.zero_le _, rfl, Int.le_refl _, Int.le_refl _, HA0.out⟩
  case round =>
    clear HA0
    obtain ⟨k, rfl, hk, rfl, hs0, hs1, hbf⟩ := hrel
    have HA0 := Lib.hid hbf; clear hbf
    have c0 := HA0.out.cell (.head _) 0; have c1 := HA0.out.cell (.head _) 1
    have c2 := HA0.out.cell (.tail _ (.head _)) 0; have c3 := HA0.out.cell (.tail _ (.head _)) 1
    have c4 := HA0.out.cell (.tail _ (.tail _ (.head _))) 0; have c5 := HA0.out.cell (.tail _ (.tail _ (.head _))) 1
    by_cases hlt : k < n
    · have hkk : k + 1 < n + 1 := by omega
      obtain ⟨b, off, rfl, hb, x0, x1⟩ := HRT.out.at2 (k := k) (l := k + 1) (by omega) (by omega)
      obtain ⟨r, hr, hr2⟩ := HYR.out k (by omega)
      obtain ⟨b2, o2, rfl, hb2, x2⟩ := HGR.out.at (k := r) hr2
      have HAL : Hid (alongZ m rt tr (k + 1) = alongZ m rt tr k + tr r) := by unfold Hid; simp only [alongZ, hr, Int.toNat_natCast]
      have hbr := HBR.out r hr2
      have HRK := Lib.hid (HRD.out (rt k) (rt (k + 1)))
      rw [hr] at HRK
      have hw1 : IntKind.i64.wrap (k : Int) = k := IntWalk.i64_in _ (by omega)
      have hw2 : IntKind.i64.wrap (alongZ m rt tr k + tr r) = alongZ m rt tr k + tr r := IntWalk.i64_in _ (by omega)
      have ki : (0 : Int) ≤ (k : Int) := by omega
      have kj : (k : Int) < (n : Int) + 1 := by omega
      have kj1 : (k : Int) + 1 < (n : Int) + 1 := by omega
      have kj2 : (k : Int) < (n : Int) := by omega
      have ri : (0 : Int) ≤ (r : Int) := by omega
      have rj : (r : Int) < (nr : Int) := by omega
      have HFI : Hid (0 ≤ alongZ m rt tr k + tr r ∧ alongZ m rt tr k + tr r ≤ 50 * ((k + 1 : Nat) : Int)) := Lib.hid (by omega)
      generalize alongZ m rt tr k = al at *
      generalize rt k = a1 at *
      generalize rt (k + 1) = a2 at *
      generalize tr r = tq at *
      have HC4 : Hid (∀ X, BF w X [(w.heap.size, #[.slice pa nw pc, .slice qa nr qc], 37), (w.heap.size + 1, #[.slice (some ⟨b, off, none⟩) (n + 1) uc, .slice va nc vc], 30), (w.heap.size + 2, #[.slice fa nw fc, .slice (some ⟨b2, o2, none⟩) nr gc], 98)] → X.cell? ⟨w.heap.size, 0, none⟩ = some (.slice pa nw pc) ∧ X.cell? ⟨w.heap.size, 1, none⟩ = some (.slice qa nr qc) ∧ X.cell? ⟨w.heap.size + 1, 0, none⟩ = some (.slice (some ⟨b, off, none⟩) (n + 1) uc) ∧ X.cell? ⟨w.heap.size + 1, 1, none⟩ = some (.slice va nc vc) ∧ X.cell? ⟨w.heap.size + 2, 0, none⟩ = some (.slice fa nw fc) ∧ X.cell? ⟨w.heap.size + 2, 1, none⟩ = some (.slice (some ⟨b2, o2, none⟩) nr gc) ∧ X.cell? ⟨b, off + k, none⟩ = some (.int .i64 a1) ∧ X.cell? ⟨b, off + (k + 1), none⟩ = some (.int .i64 a2) ∧ X.cell? ⟨b2, o2 + r, none⟩ = some (.int .i64 tq)) := fun X hX => ⟨hX.cell (.head _) 0, hX.cell (.head _) 1, hX.cell (.tail _ (.head _)) 0, hX.cell (.tail _ (.head _)) 1, hX.cell (.tail _ (.tail _ (.head _))) 0, hX.cell (.tail _ (.tail _ (.head _))) 1, kept hX.fr hb x0, kept hX.fr hb x1, kept hX.fr hb2 x2⟩
      clear x0 x1 x2 HRD HYR HYC HBW HBR hr
      go_upto_region 4 with fail
      have HAX : Hid (BF w wr.drew [(w.heap.size, #[.slice pa nw pc, .slice qa nr qc], 37), (w.heap.size + 1, #[.slice (some ⟨b, off, none⟩) (n + 1) uc, .slice va nc vc], 30), (w.heap.size + 2, #[.slice fa nw fc, .slice (some ⟨b2, o2, none⟩) nr gc], 98)]) := HA0.out.below (Below.refl _ _).drew
      refine wp_region_held_drew (S := fun X => X.cell? ⟨w.heap.size, 0, none⟩ = some (.slice pa nw pc) ∧ X.cell? ⟨w.heap.size, 1, none⟩ = some (.slice qa nr qc) ∧ X.cell? ⟨w.heap.size + 1, 0, none⟩ = some (.slice (some ⟨b, off, none⟩) (n + 1) uc) ∧ X.cell? ⟨w.heap.size + 1, 1, none⟩ = some (.slice va nc vc) ∧ X.cell? ⟨w.heap.size + 2, 0, none⟩ = some (.slice fa nw fc) ∧ X.cell? ⟨w.heap.size + 2, 1, none⟩ = some (.slice (some ⟨b2, o2, none⟩) nr gc) ∧ X.cell? ⟨b, off + k, none⟩ = some (.int .i64 a1) ∧ X.cell? ⟨b, off + (k + 1), none⟩ = some (.int .i64 a2) ∧ X.cell? ⟨b2, o2 + r, none⟩ = some (.int .i64 tq)) (by kernel_rfl) (HC4.out _ HAX.out) (fun hS => ?_)
      generalize wr.drew = X at *
      clear c0 c1 c2 c3 c4 c5 HA0
      refine tk [0, 1, 2, 3, 4, 5, 6] ?_
      repeat (refine tkH (oi := ⟨_, _, _, _, _, _⟩) (v := ?_) rfl (by kernel_rfl) (by rfl) (fun _ _ _ h => h) hS ?_ ?_; rotate_left; (· rintro W' ⟨z0, z1, z2, z3, z4, z5, z6, z7, z8⟩; go_simp; try with_reducible rfl); try simp only [Act.put, putA, putZ, putS])
      refine tk0 ?_
      refine tH 7 (oi := ⟨_, _, _, _, _, _⟩) (v := .int .i64 (k : Int)) rfl (by kernel_rfl) (by rfl) (fun _ _ _ h => h) hS ?_ ?_
      · rintro W' ⟨z0, z1, z2, z3, z4, z5, z6, z7, z8⟩; go_simp; (try omega)
      try simp only [Act.put, putA, putZ, putS]
      refine tk [8, 9, 10, 11, 12] ?_
      repeat (refine tkH (oi := ⟨_, _, _, _, _, _⟩) (v := ?_) rfl (by kernel_rfl) (by rfl) (fun _ _ _ h => h) hS ?_ ?_; rotate_left; (· rintro W' ⟨z0, z1, z2, z3, z4, z5, z6, z7, z8⟩; go_simp; try with_reducible rfl); try simp only [Act.put, putA, putZ, putS])
      refine tk0 ?_
      refine tH 13 (oi := ⟨_, _, _, _, _, _⟩) (v := .pointer (some ⟨b, off + (k + 1), none⟩)) rfl (by kernel_rfl) (by rfl) (fun _ _ _ h => h) hS ?_ ?_
      · rintro W' ⟨z0, z1, z2, z3, z4, z5, z6, z7, z8⟩; go_simp; (try (intro h; exfalso; omega))
      try simp only [Act.put, putA, putZ, putS]
      refine tH 14 (oi := ⟨_, _, _, _, _, _⟩) (v := ?_) rfl (by kernel_rfl) (by rfl) (fun _ _ _ h => h) hS ?_ ?_
      rotate_left
      · rintro W' ⟨z0, z1, z2, z3, z4, z5, z6, z7, z8⟩; go_simp; try with_reducible rfl
      try simp only [Act.put, putA, putZ, putS]
      refine wpAnyH_ready (rs := [15]) (by kernel_rfl) (by simp) ?_
      refine AllReadyH.cons (o := ⟨some 32, _, _, _, _, _⟩) rfl (fun K hK => ?_) AllReadyH.nil
      go_simp
      refine (HRK.out _ HAX.out.fr).mono ?_
      rintro _ X0 ⟨rfl, hb0⟩
      (try go_wp2_with fail)
      have HA0 := Lib.hid (HAX.out.below hb0)
      refine hK.out _ _ (HC4.out X0 HA0.out) (fun hS => ?_)
      clear hK K
      try simp only [Act.put, putA, putZ, putS]
      clear hb0
      refine tk [16, 17, 18, 19] ?_
      repeat (refine tkH (oi := ⟨_, _, _, _, _, _⟩) (v := ?_) rfl (by kernel_rfl) (by rfl) (fun _ _ _ h => h) hS ?_ ?_; rotate_left; (· rintro W' ⟨z0, z1, z2, z3, z4, z5, z6, z7, z8⟩; go_simp; try with_reducible rfl); try simp only [Act.put, putA, putZ, putS])
      refine tk0 ?_
      refine wpAnyH_done (by kernel_rfl) ?_ _
      go_wp2_with fail
      go_roundw
      case rel => exact ⟨k + 1, by go_num, by omega, by rw [HAL.out], by rw [HAL.out]; exact HFI.out.1, by rw [HAL.out]; exact HFI.out.2, HA0.out⟩
      case measure => simp [intOf]; omega
    · have hkn : n = k := by omega
      subst hkn
      go_wp2_with fail
      go_loopw [6, 39] (fun s i wr' => ∃ k : Nat, i = .int .i64 k ∧ k ≤ nc ∧ s = .int .i64 (alongZ m rt tr n + workZ ct tw k) ∧ 0 ≤ workZ ct tw k ∧ workZ ct tw k ≤ 50 * (k : Int) ∧ wr' = wr) (fun _ i _ => nc - (intOf i).toNat)
      case atStart => exact ⟨0, rfl, Nat.zero_le _, by simp [workZ], Int.le_refl _, Int.le_refl _, rfl⟩
      case round =>
        obtain ⟨k, rfl, hk2, rfl, hs2, hs3, rfl⟩ := hrel
        by_cases hlt2 : k < nc
        · obtain ⟨b, off, rfl, hb, x0⟩ := HCT.out.at (k := k) hlt2
          obtain ⟨p, hp, hp2⟩ := HYC.out k hlt2
          obtain ⟨b2, o2, rfl, hb2, x1⟩ := HFW.out.at (k := p) hp2
          rw [hp] at x0
          have HWL : Hid (workZ ct tw (k + 1) = workZ ct tw k + tw p) := by unfold Hid; simp only [workZ, hp, Int.toNat_natCast]
          have hbr := HBW.out p hp2
          have y0 := kept HA0.out.fr hb x0
          have y1 := kept HA0.out.fr hb2 x1
          have pi : (0 : Int) ≤ (p : Int) := by omega
          have pj : (p : Int) < (nw : Int) := by omega
          have hw2 : IntKind.i64.wrap (alongZ m rt tr n + workZ ct tw k + tw p) = alongZ m rt tr n + workZ ct tw k + tw p := IntWalk.i64_in _ (by omega)
          clear x0 x1 hp HYC HBW
          go_wp2_with fail
          go_roundw
          case rel => exact ⟨k + 1, by go_num, by omega, by rw [HWL.out]; congr 1; omega, by rw [HWL.out]; omega, by rw [HWL.out]; omega, trivial⟩
          case measure => simp [intOf]; omega
        · obtain rfl : k = nc := by omega
          go_wp2_with fail
          go_ret
          exact ⟨ret_int HTZ.out.symm, HA0.out.fr⟩
end Go.Proofs.Ytpnkgjkoophckaa
