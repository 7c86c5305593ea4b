/- Walk: the reference's Way. -/
import Derived.Test.YtpnkgjkoophckaaVE
namespace Go.Proofs.Ytpnkgjkoophckaa
open Go.RowKit Go.Shelf

/-- Eight times in memory. -/
def a8 (t : Nat → Int) : Array Value := eA (fun j => .int .i64 (t j)) 8
theorem a8_set (t : Nat → Int) {k : Nat} (v : Int) (h : k < 8) : (a8 t).setIfInBounds k (.int .i64 v) = a8 (upd t k v) := by
  unfold a8
  rw [eA_set _ _ h]
  congr 1
  funext j
  unfold upd
  split <;> rfl
theorem a8_get (t : Nat → Int) {k : Nat} (h : k < 8) : (a8 t)[k]? = some (.int .i64 (t k)) := eA_get _ h
theorem a8_size (t : Nat → Int) : (a8 t).size = 8 := by simp [a8, eA]
theorem bf1_rng {m : Mp} (ok : OkM m) {k : Nat} (hk : k < m.nr) {t : Nat → Int} (h : ∀ n, 0 ≤ t n ∧ t n ≤ 1048576) (n : Nat) : 0 ≤ bf1 m k t n ∧ bf1 m k t n ≤ 1048576 := by
  have hr := ok.rt k hk
  have ha := h (m.ra k).toNat
  have hb := h (m.rb k).toNat
  have hn := h n
  unfold bf1 upd
  split
  · split <;> split <;> omega
  · split <;> omega
theorem bfN_rng {m : Mp} (ok : OkM m) {t : Nat → Int} (h : ∀ n, 0 ≤ t n ∧ t n ≤ 1048576) : ∀ k, k ≤ m.nr → ∀ n, 0 ≤ bfN m k t n ∧ bfN m k t n ≤ 1048576
  | 0, _ => h
  | k + 1, hk => bf1_rng ok (by omega) (bfN_rng ok h k (by omega))
theorem bfR_rng {m : Mp} (ok : OkM m) (a : Nat) : ∀ r n, 0 ≤ bfR m a r n ∧ bfR m a r n ≤ 1048576
  | 0, n => by simp only [bfR]; split <;> decide
  | r + 1, n => bfN_rng ok (bfR_rng ok a r) m.nr (Nat.le_refl _) n
def fillT (k : Nat) (j : Nat) : Int := if j < k then 1048576 else 0
theorem fillT_succ (k : Nat) : upd (fillT k) k 1048576 = fillT (k + 1) := by
  funext j
  unfold upd fillT
  by_cases h : j = k
  · rw [if_pos h, if_pos (by omega)]
  · rw [if_neg h]
    by_cases h2 : j < k
    · rw [if_pos h2, if_pos (by omega)]
    · rw [if_neg h2, if_neg (by omega)]
theorem a8_congr {t t' : Nat → Int} (h : ∀ n, n < 8 → t n = t' n) : a8 t = a8 t' := by
  unfold a8 eA
  congr 1
  exact List.map_congr_left (fun j hj => by rw [h j (List.mem_range.1 hj)])
set_option maxRecDepth 100000 in
set_option maxHeartbeats 16000000 in
theorem rWay_any {m : Mp} (ok : OkM m) (x : MV) {a b : Nat} (ha : a < m.nw) (hb : b < m.nw) (w : World) (h : MpIn w x m) :
    Calls Try.prog 38 #[.agg #[.slice x.wa m.nw x.wc, .slice x.ra m.nr x.rc], .int .i64 (a : Int), .int .i64 (b : Int)] w fun e w' => e = .returned (.int .i64 (tmA m a b)) ∧ Below w.heap.size w w' := by
  have hn := ok.nw
  have hnr := ok.nr
  have HRD := Lib.hid h.rd
  have HE : Hid (min (bfR m a m.nw b) 1048576 = tmA m a b) := (bfW_eq ok ha hb).trans (tmA_symm ok hb ha)
  have HRG := Lib.hid (bfR_rng ok a)
  have HOK := Lib.hid ok
  clear h
  have HA0 : Hid (BF w ((w.alloc (.cells #[.slice x.wa m.nw x.wc, .slice x.ra m.nr x.rc] 25)).alloc (.cells (a8 (fillT 0)) 44)) [(w.heap.size, #[.slice x.wa m.nw x.wc, .slice x.ra m.nr x.rc], 25), (w.heap.size + 1, a8 (fillT 0), 44)]) := BF.made2 _ _ _ _ _
  have HZ8 : Hid (a8 (fillT 0) = #[.int .i64 0, .int .i64 0, .int .i64 0, .int .i64 0, .int .i64 0, .int .i64 0, .int .i64 0, .int .i64 0]) := by rfl
  go_enter Try.func38, Try.ntmps38
  rw [HZ8.out] at HA0
  go_wp2_with fail
  generalize ((w.alloc (.cells #[.slice x.wa m.nw x.wc, .slice x.ra m.nr x.rc] 25)).alloc (.cells #[.int .i64 0, .int .i64 0, .int .i64 0, .int .i64 0, .int .i64 0, .int .i64 0, .int .i64 0, .int .i64 0] 44)) = w0 at *
  rw [← HZ8.out] at HA0
  clear HZ8
  have HMA : Hid (w.heap.size ≠ w.heap.size + 1) := Lib.hid (by omega)
  obtain ⟨AB, hAB⟩ : ∃ AB, w.heap.size + 1 = AB := ⟨_, rfl⟩
  rw [hAB] at HA0 HMA ⊢
  clear hAB
  go_loopw [8] (fun i wr => ∃ k : Nat, i = .int .i64 k ∧ k ≤ 8 ∧ BF w wr [(AB, a8 (fillT k), 44), (w.heap.size, #[.slice x.wa m.nw x.wc, .slice x.ra m.nr x.rc], 25)]) (fun i _ => 8 - (intOf i).toNat)
  case atStart => exact ⟨0, rfl, Nat.zero_le _, HA0.out.sub (List.forall_mem_cons.2 ⟨.tail _ (.head _), List.forall_mem_cons.2 ⟨.head _, List.forall_mem_nil _⟩⟩)⟩
  case round =>
    clear HA0
    obtain ⟨k, rfl, hk, hbf⟩ := hrel
    have HA1 := Lib.hid hbf
    clear hbf
    by_cases hlt : k < 8
    · have e0 := (HA1.out.cell (.head _) k).trans (a8_get _ hlt)
      have f0 := HA1.out.thaw (.head _) k
      have ki : (0 : Int) ≤ (k : Int) := by omega
      have kj : (k : Int) < 8 := by omega
      have hma := HMA.out
      have HA2 := Lib.hid (BF.set1 (i := k) (cs' := a8 (fillT (k + 1))) HA1.out (.head _) (.int .i64 1048576) (by rw [a8_size]; exact hlt) (by rw [a8_set _ _ hlt, fillT_succ]) (L' := [(w.heap.size, #[.slice x.wa m.nw x.wc, .slice x.ra m.nr x.rc], 25)]) (List.forall_mem_cons.2 ⟨⟨hma, .tail _ (.head _)⟩, List.forall_mem_nil _⟩))
      go_wp2_with fail
      go_roundw
      case rel => exact ⟨k + 1, by go_num, by omega, HA2.out⟩
      case measure => simp [intOf]; omega
    · have hk8 : k = 8 := by omega
      have hk9 : (k : Int) = 8 := by omega
      rw [hk8] at HA1
      rw [hk9]
      clear hk8 hk9 hlt hk
      have e0 := (HA1.out.cell (.head _) a).trans (a8_get _ (show a < 8 by omega))
      have f0 := HA1.out.thaw (.head _) a
      have qi : (0 : Int) ≤ (a : Int) := by omega
      have qj : (a : Int) < 8 := by omega
      have hma := HMA.out
      have HA2 := Lib.hid (BF.set1 (i := a) (cs' := a8 (bfR m a 0)) HA1.out (.head _) (.int .i64 0) (by rw [a8_size]; omega) (by rw [a8_set _ _ (show a < 8 by omega)]; exact a8_congr (fun n hn => by simp only [upd, fillT, bfR, if_pos hn])) (L' := [(w.heap.size, #[.slice x.wa m.nw x.wc, .slice x.ra m.nr x.rc], 25)]) (List.forall_mem_cons.2 ⟨⟨hma, .tail _ (.head _)⟩, List.forall_mem_nil _⟩))
      go_wp2_with fail
      clear e0 f0 HA1
      go_loopw [9] (fun i wr => ∃ r : Nat, i = .int .i64 r ∧ r ≤ m.nw ∧ BF w wr [(AB, a8 (bfR m a r), 44), (w.heap.size, #[.slice x.wa m.nw x.wc, .slice x.ra m.nr x.rc], 25)]) (fun i _ => m.nw - (intOf i).toNat)
      case atStart => exact ⟨0, rfl, Nat.zero_le _, HA2.out⟩
      case round =>
       clear HA2
       obtain ⟨r, rfl, hr, hbf⟩ := hrel
       rename World => wy
       have HA3 := Lib.hid hbf
       clear hbf
       have c0 := HA3.out.cell (.tail _ (.head _)) 0
       have c1 := HA3.out.cell (.tail _ (.head _)) 1
       by_cases hlr : r < m.nw
       · have HTR := Lib.hid (bfR_rng ok a r)
         obtain ⟨t0, ht0⟩ : ∃ t0, t0 = bfR m a r := ⟨_, rfl⟩
         have HNX : Hid (bfR m a (r + 1) = bfN m m.nr t0) := by rw [ht0]; rfl
         rw [← ht0] at HTR HA3
         clear ht0
         go_wp2_with fail
         go_loopw [10] (fun i wr => ∃ k : Nat, i = .int .i64 k ∧ k ≤ m.nr ∧ BF w wr [(AB, a8 (bfN m k t0), 44), (w.heap.size, #[.slice x.wa m.nw x.wc, .slice x.ra m.nr x.rc], 25)]) (fun i _ => m.nr - (intOf i).toNat)
         case atStart => exact ⟨0, rfl, Nat.zero_le _, HA3.out⟩
         case round =>
          clear HA3 c0 c1
          obtain ⟨k, rfl, hk, hbf⟩ := hrel
          rename World => wz
          have HA4 := Lib.hid hbf
          clear hbf
          have c0 := HA4.out.cell (.tail _ (.head _)) 0
          have c1 := HA4.out.cell (.tail _ (.head _)) 1
          by_cases hlk : k < m.nr
          · obtain ⟨bo, off, hro, hbo, x0, x1, x2, x3⟩ := HRD.out.at (k := k) hlk
            have y0 := kept HA4.out.fr hbo x0
            have y1 := kept HA4.out.fr hbo x1
            have y2 := kept HA4.out.fr hbo x2
            have y3 := kept HA4.out.fr hbo x3
            have hra := HOK.out.ra k hlk
            have hrb := HOK.out.rb k hlk
            have hab := HOK.out.ab k hlk
            have hrt := HOK.out.rt k hlk
            have HBN := Lib.hid (bfN_rng HOK.out HTR.out k hk)
            have HB1 : Hid (bfN m (k + 1) t0 = bf1 m k (bfN m k t0)) := rfl
            obtain ⟨t, ht⟩ : ∃ t, t = bfN m k t0 := ⟨_, rfl⟩
            rw [← ht] at HBN HB1 HA4
            clear ht
            obtain ⟨ka, hka⟩ : ∃ ka : Nat, m.ra k = ka := ⟨(m.ra k).toNat, by omega⟩
            obtain ⟨kb, hkb⟩ : ∃ kb : Nat, m.rb k = kb := ⟨(m.rb k).toNat, by omega⟩
            have HB2 : Hid (bfN m (k + 1) t0 = upd (upd t ka (min (t ka) (t kb + (m.rt k).2))) kb (min (upd t ka (min (t ka) (t kb + (m.rt k).2)) kb) (upd t ka (min (t ka) (t kb + (m.rt k).2)) ka + (m.rt k).2))) := by
              have h := HB1.out
              unfold bf1 at h
              rw [hka, hkb, Int.toNat_natCast, Int.toNat_natCast] at h
              exact h
            rw [hka] at x0 y0 hra hab
            rw [hkb] at x1 y1 hrb hab
            have hka8 : ka < 8 := by omega
            have hkb8 : kb < 8 := by omega
            have hne : kb ≠ ka := by omega
            rw [upd_same, upd_ne hne] at HB2
            clear HB1 hka hkb
            generalize (m.rt k).1 = lo at *
            generalize (m.rt k).2 = hi at *
            have hta := HBN.out ka
            have htb := HBN.out kb
            obtain ⟨ta, HTA⟩ : ∃ ta, Hid (t ka = ta) := ⟨_, rfl⟩
            obtain ⟨tb, HTBB⟩ : ∃ tb, Hid (t kb = tb) := ⟨_, rfl⟩
            rw [HTA.out, HTBB.out] at HB2
            rw [HTA.out] at hta
            rw [HTBB.out] at htb
            obtain ⟨mn1, HM1⟩ : ∃ v, Hid (min ta (tb + hi) = v) := ⟨_, rfl⟩
            rw [HM1.out] at HB2
            obtain ⟨mn2, HM2⟩ : ∃ v, Hid (min tb (mn1 + hi) = v) := ⟨_, rfl⟩
            rw [HM2.out] at HB2
            have HTU : Hid (upd (upd t ka mn1) kb mn2 = bfN m (k + 1) t0) := HB2.out.symm
            have hm1 : mn1 ≤ ta ∧ mn1 ≤ tb + hi ∧ (mn1 = ta ∨ mn1 = tb + hi) := by rw [← HM1.out]; omega
            have hm2 : mn2 ≤ tb ∧ mn2 ≤ mn1 + hi ∧ (mn2 = tb ∨ mn2 = mn1 + hi) := by rw [← HM2.out]; omega
            have HV14 : Hid (t ka = ta ∧ t kb = tb) := ⟨HTA.out, HTBB.out⟩
            have HV15 : Hid (upd t ka mn1 ka = mn1 ∧ upd t ka mn1 kb = tb) := ⟨upd_same, by rw [upd_ne hne]; exact HTBB.out⟩
            clear HB2 HM1 HM2 HTA HTBB HBN
            have kw1 : IntKind.i64.wrap (tb + hi) = tb + hi := IntWalk.i64_in _ (by omega)
            have kw2 : IntKind.i64.wrap (mn1 + hi) = mn1 + hi := IntWalk.i64_in _ (by omega)
            have ki : (0 : Int) ≤ (k : Int) := by omega
            have kj : (k : Int) < (m.nr : Int) := by omega
            have kai : (0 : Int) ≤ (ka : Int) := by omega
            have kaj : (ka : Int) < 8 := by omega
            have kbi : (0 : Int) ≤ (kb : Int) := by omega
            have kbj : (kb : Int) < 8 := by omega
            have hAl := (HA4.out.lt (.head _)).2
            have hMl := (HA4.out.lt (.tail _ (.head _))).2
            have hma := HMA.out
            rw [hro] at c1
            clear hro
            go_upto_region 14 with fail
            have HA5 := Lib.hid (HA4.out.alloc #[.int .i64 (ka : Int), .int .i64 (kb : Int), .int .i64 lo, .int .i64 hi] 79)
            obtain ⟨RB, hRB⟩ : ∃ RB, wz.heap.size = RB := ⟨_, rfl⟩
            rw [hRB] at HA5 hAl hMl ⊢
            clear hRB
            have HAX := Lib.hid (HA5.out.below (Below.refl (wz.alloc (.cells #[.int .i64 (ka : Int), .int .i64 (kb : Int), .int .i64 lo, .int .i64 hi] 79)).heap.size _).drew)
            clear HA5 HA4 c0 c1 y0 y1 y2 y3 x0 x1 x2 x3
            refine wp_region_Z (S := fun X => X.cell? ⟨RB, 0, none⟩ = some (.int .i64 (ka : Int)) ∧ X.cell? ⟨RB, 1, none⟩ = some (.int .i64 (kb : Int)) ∧ X.cell? ⟨RB, 3, none⟩ = some (.int .i64 hi) ∧ X.cell? ⟨AB, ka, none⟩ = some (.int .i64 ta) ∧ X.cell? ⟨AB, kb, none⟩ = some (.int .i64 tb)) (by kernel_rfl) (⟨HAX.out.cell (.head _) 0, HAX.out.cell (.head _) 1, HAX.out.cell (.head _) 3, (HAX.out.cell (.tail _ (.head _)) ka).trans ((a8_get _ hka8).trans (by rw [HV14.out.1])), (HAX.out.cell (.tail _ (.head _)) kb).trans ((a8_get _ hkb8).trans (by rw [HV14.out.2]))⟩) (fun hS => ?_)
            generalize (wz.alloc (.cells #[.int .i64 (ka : Int), .int .i64 (kb : Int), .int .i64 lo, .int .i64 hi] 79)).drew = X at *
            refine tk [0, 1, 2, 3, 4, 5, 6, 7, 8, 9, 10, 11, 12, 13] ?_
            repeat (refine tkZ (oi := ⟨_, _, _, _, _, _⟩) (v := ?_) rfl (by kernel_rfl) (by rfl) (fun _ _ _ h => h) hS ?_ ?_; rotate_left; (· rintro W' ⟨z0, z1, z2, z3, z4⟩; go_simp; try with_reducible rfl); try simp only [Act.put, putA, putZ, putS])
            refine tk0 ?_
            refine tZ 14 (oi := ⟨_, _, _, _, _, _⟩) (v := .int .i64 mn1) rfl (by kernel_rfl) (by rfl) (fun _ _ _ h => h) hS ?_ ?_
            · rintro W' ⟨z0, z1, z2, z3, z4⟩; go_simp; (first | (with_reducible rfl) | (split <;> (first | rfl | (congr 2; omega))) | (congr 2; omega))
            try simp only [Act.put, putA, putZ, putS]
            refine tZ 15 (oi := ⟨_, _, _, _, _, _⟩) (v := ?_) rfl (by kernel_rfl) (by rfl) (fun _ _ _ h => h) hS ?_ ?_
            rotate_left
            · rintro W' ⟨z0, z1, z2, z3, z4⟩; go_simp; try with_reducible rfl
            try simp only [Act.put, putA, putZ, putS]
            refine wpAnyZ_next (rs := [16]) (by kernel_rfl) (by simp) ?_
            refine NextZ.last (o := ⟨none, _, _, _, _, _⟩) rfl (by kernel_rfl) (fun K hK => ?_)
            have e0 : X.cell? ⟨AB, ka, none⟩ = some (.int .i64 ta) := (HAX.out.cell (.tail _ (.head _)) ka).trans ((a8_get _ hka8).trans (by rw [HV14.out.1]))
            have f0 := HAX.out.thaw (.tail _ (.head _)) ka
            have HA14 := Lib.hid (BF.set1 (i := ka) (cs' := a8 (upd (t) ka mn1)) HAX.out (.tail _ (.head _)) (.int .i64 mn1) (by rw [a8_size]; exact hka8) (a8_set _ mn1 hka8) (L' := [(RB, #[.int .i64 (ka : Int), .int .i64 (kb : Int), .int .i64 lo, .int .i64 hi], 79), (w.heap.size, #[.slice x.wa m.nw x.wc, .slice x.ra m.nr x.rc], 25)]) (List.forall_mem_cons.2 ⟨⟨show RB ≠ AB by omega, .head _⟩, List.forall_mem_cons.2 ⟨⟨show w.heap.size ≠ AB by omega, .tail _ (.tail _ (.head _))⟩, List.forall_mem_nil _⟩⟩))
            go_simp
            refine hK.out _ _ ?_
            clear hK K
            (try simp only [Act.put])
            clear e0 f0
            refine wpAnyZ_done (by kernel_rfl) ?_ _
            have HX1 := Lib.hid (HA14.out)
            generalize (X.setCell ⟨AB, ka, none⟩ (.int .i64 mn1)) = w14 at *
            go_upto_region 15 with fail
            have HAY : Hid (BF w w14.drew _) := ((HX1.out.below (Below.refl _ _).drew).sub (L' := [(RB, #[.int .i64 (ka : Int), .int .i64 (kb : Int), .int .i64 lo, .int .i64 hi], 79), (AB, a8 (upd t ka mn1), 44), (w.heap.size, #[.slice x.wa m.nw x.wc, .slice x.ra m.nr x.rc], 25)]) (List.forall_mem_cons.2 ⟨.tail _ (.head _), List.forall_mem_cons.2 ⟨.head _, List.forall_mem_cons.2 ⟨.tail _ (.tail _ (.head _)), List.forall_mem_nil _⟩⟩⟩))
            clear HX1
            refine wp_region_Z (S := fun X => X.cell? ⟨RB, 0, none⟩ = some (.int .i64 (ka : Int)) ∧ X.cell? ⟨RB, 1, none⟩ = some (.int .i64 (kb : Int)) ∧ X.cell? ⟨RB, 3, none⟩ = some (.int .i64 hi) ∧ X.cell? ⟨AB, ka, none⟩ = some (.int .i64 mn1) ∧ X.cell? ⟨AB, kb, none⟩ = some (.int .i64 tb)) (by kernel_rfl) (⟨HAY.out.cell (.head _) 0, HAY.out.cell (.head _) 1, HAY.out.cell (.head _) 3, (HAY.out.cell (.tail _ (.head _)) ka).trans ((a8_get _ hka8).trans (by rw [HV15.out.1])), (HAY.out.cell (.tail _ (.head _)) kb).trans ((a8_get _ hkb8).trans (by rw [HV15.out.2]))⟩) (fun hS => ?_)
            generalize w14.drew = X at *
            refine tk [0, 1, 2, 3, 4, 5, 6, 7, 8, 9, 10, 11, 12, 13] ?_
            repeat (refine tkZ (oi := ⟨_, _, _, _, _, _⟩) (v := ?_) rfl (by kernel_rfl) (by rfl) (fun _ _ _ h => h) hS ?_ ?_; rotate_left; (· rintro W' ⟨z0, z1, z2, z3, z4⟩; go_simp; try with_reducible rfl); try simp only [Act.put, putA, putZ, putS])
            refine tk0 ?_
            refine tZ 14 (oi := ⟨_, _, _, _, _, _⟩) (v := .int .i64 mn2) rfl (by kernel_rfl) (by rfl) (fun _ _ _ h => h) hS ?_ ?_
            · rintro W' ⟨z0, z1, z2, z3, z4⟩; go_simp; (first | (with_reducible rfl) | (split <;> (first | rfl | (congr 2; omega))) | (congr 2; omega))
            try simp only [Act.put, putA, putZ, putS]
            refine tZ 15 (oi := ⟨_, _, _, _, _, _⟩) (v := ?_) rfl (by kernel_rfl) (by rfl) (fun _ _ _ h => h) hS ?_ ?_
            rotate_left
            · rintro W' ⟨z0, z1, z2, z3, z4⟩; go_simp; try with_reducible rfl
            try simp only [Act.put, putA, putZ, putS]
            refine wpAnyZ_next (rs := [16]) (by kernel_rfl) (by simp) ?_
            refine NextZ.last (o := ⟨none, _, _, _, _, _⟩) rfl (by kernel_rfl) (fun K hK => ?_)
            have e0 : X.cell? ⟨AB, kb, none⟩ = some (.int .i64 tb) := (HAY.out.cell (.tail _ (.head _)) kb).trans ((a8_get _ hkb8).trans (by rw [HV15.out.2]))
            have f0 := HAY.out.thaw (.tail _ (.head _)) kb
            have HA15 := Lib.hid (BF.set1 (i := kb) (cs' := a8 (upd (upd t ka mn1) kb mn2)) HAY.out (.tail _ (.head _)) (.int .i64 mn2) (by rw [a8_size]; exact hkb8) (a8_set _ mn2 hkb8) (L' := [(RB, #[.int .i64 (ka : Int), .int .i64 (kb : Int), .int .i64 lo, .int .i64 hi], 79), (w.heap.size, #[.slice x.wa m.nw x.wc, .slice x.ra m.nr x.rc], 25)]) (List.forall_mem_cons.2 ⟨⟨show RB ≠ AB by omega, .head _⟩, List.forall_mem_cons.2 ⟨⟨show w.heap.size ≠ AB by omega, .tail _ (.tail _ (.head _))⟩, List.forall_mem_nil _⟩⟩))
            go_simp
            refine hK.out _ _ ?_
            clear hK K
            (try simp only [Act.put])
            clear e0 f0
            refine wpAnyZ_done (by kernel_rfl) ?_ _
            have HX2 := Lib.hid (HA15.out)
            go_wp2_with fail
            go_roundw
            case rel => exact ⟨k + 1, by go_num, by omega, by have h := HX2.out.sub (L' := [(AB, a8 (upd (upd t ka mn1) kb mn2), 44), (w.heap.size, #[.slice x.wa m.nw x.wc, .slice x.ra m.nr x.rc], 25)]) (List.forall_mem_cons.2 ⟨.head _, List.forall_mem_cons.2 ⟨.tail _ (.tail _ (.head _)), List.forall_mem_nil _⟩⟩); rw [HTU.out] at h; exact h⟩
            case measure => simp [intOf]; omega
          · obtain rfl : k = m.nr := by omega
            have HA5 : Hid (BF w wz [(AB, a8 (bfR m a (r + 1)), 44), (w.heap.size, #[.slice x.wa m.nw x.wc, .slice x.ra m.nr x.rc], 25)]) := by rw [HNX.out]; exact HA4.out
            go_wp2_with fail
            go_roundw
            case rel => exact ⟨r + 1, by go_num, by omega, HA5.out⟩
            case measure => simp [intOf]; omega
       · have hrn : r = m.nw := by omega
         have HRN := Lib.hid hrn
         rw [HRN.out] at HA3 ⊢
         clear hrn hlr hr
         have kq : ¬ ((m.nw : Int) < (m.nw : Int)) := by omega
         have e0 := (HA3.out.cell (.head _) b).trans (a8_get _ (show b < 8 by omega))
         have hbd := HRG.out m.nw b
         have pi : (0 : Int) ≤ (b : Int) := by omega
         have pj : (b : Int) < 8 := by omega
         have hmin : min (bfR m a m.nw b) 1048576 = bfR m a m.nw b := Int.min_eq_left hbd.2
         have HEE : Hid (bfR m a m.nw b = tmA m a b) := by have h := HE.out; rw [hmin] at h; exact h
         clear hmin
         generalize bfR m a m.nw b = v at *
         have kmin : ¬ ((1048576 : Int) < v) := by omega
         go_wp2_with fail
         go_ret
         exact ⟨ret_int HEE.out, HA3.out.fr⟩
end Go.Proofs.Ytpnkgjkoophckaa
