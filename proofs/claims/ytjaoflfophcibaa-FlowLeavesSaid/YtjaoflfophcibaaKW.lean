/- The reference's Without. Printed by gen_kw.py. -/
import Derived.Test.YtjaoflfophcibaaKN
namespace Go.Proofs.Ytjaoflfophcibaa
open Go.RowKit Go.Shelf

def wOff (a b : Nat → Nat) : Nat → Nat → Nat → Bool
  | 0 => off0
  | k + 1 => fun c g => wOff a b k c g || (decide (c = a k) && decide (g = b k))
theorem outL_one (o : Nat → Nat → Bool) : (outL o).toArray.all (·.oneCell') = true := by
  rw [Array.all_eq_true]; intro i h; simp [outL, Value.oneCell']
set_option maxRecDepth 100000 in
set_option maxHeartbeats 8000000 in
theorem without_any (la : Option Addr) (n cap : Nat) (a b : Nat → Nat) (w : World) (hl : RsIn w (.slice la n cap) n (fun j => ((a j : Int), (b j : Int)))) (hab : ∀ j, j < n → a j < 4 ∧ b j < 4) (hn : n ≤ 1000000) :
    Calls Try.prog 24 #[.slice la n cap] w fun e w' => e = .returned (.agg (outL (wOff a b n)).toArray) ∧ Below w.heap.size w w' := by
  have HL := Lib.hid hl; have HAB := Lib.hid hab
  clear hl hab
  have HA0 : Hid (BF w ((w.alloc (.cells #[.bool false, .bool false, .bool false, .bool false, .bool false, .bool false, .bool false, .bool false, .bool false, .bool false, .bool false, .bool false, .bool false, .bool false, .bool false, .bool false] 46)).alloc (.cells #[.bool false, .bool false, .bool false, .bool false, .bool false, .bool false, .bool false, .bool false, .bool false, .bool false, .bool false, .bool false, .bool false, .bool false, .bool false, .bool false] 46)) [(w.heap.size + 1, (outL off0).toArray, 46), (w.heap.size, (outL off0).toArray, 46)]) := by
    have h := (BF.base w).alloc (outL off0).toArray 46 |>.alloc (outL off0).toArray 46
    rw [World.size_alloc] at h
    exact h
  go_enter Try.func24, Try.ntmps24
  go_wp2_with fail
  generalize ((w.alloc (.cells #[.bool false, .bool false, .bool false, .bool false, .bool false, .bool false, .bool false, .bool false, .bool false, .bool false, .bool false, .bool false, .bool false, .bool false, .bool false, .bool false] 46)).alloc (.cells #[.bool false, .bool false, .bool false, .bool false, .bool false, .bool false, .bool false, .bool false, .bool false, .bool false, .bool false, .bool false, .bool false, .bool false, .bool false, .bool false] 46)) = w1 at *
  go_loopw [4] (fun i wr => ∃ k : Nat, k ≤ n ∧ i = .int .i64 k ∧ BF w wr [(w.heap.size + 1, (outL (wOff a b k)).toArray, 46), (w.heap.size, (outL off0).toArray, 46)]) (fun i _ => n - (intOf i).toNat)
  case atStart => exact ⟨0, Nat.zero_le _, rfl, HA0.out⟩
  case round =>
    obtain ⟨k, hk, rfl, hbf⟩ := hrel
    rename World => wx
    have HA := Lib.hid hbf
    clear hbf HA0
    have ki : (0 : Int) ≤ (k : Int) := by omega
    by_cases hlt : k < n
    · as_aux_lemma =>
      have kj : (k : Int) < (n : Int) := by omega
      obtain ⟨lb, lo, rfl, hlb, x0, x1⟩ := HL.out.at (k := k) hlt
      obtain ⟨ha, hb⟩ := HAB.out k hlt
      simp only at x0 x1
      have HWS : Hid ((outL (wOff a b k)).toArray.setIfInBounds (a k * 4 + b k) (.bool true) = (outL (wOff a b (k + 1))).toArray) := outL_put ha hb
      obtain ⟨P, HP⟩ : ∃ P, Hid (wOff a b k = P) := ⟨_, rfl⟩
      obtain ⟨P', HP'⟩ : ∃ P, Hid (wOff a b (k + 1) = P) := ⟨_, rfl⟩
      rw [HP.out] at HA HWS
      rw [HP'.out] at HWS
      generalize a k = c at *
      generalize b k = g at *
      have ci : (0 : Int) ≤ (c : Int) := by omega
      have cj : (c : Int) < 4 := by omega
      have gi : (0 : Int) ≤ (g : Int) := by omega
      have gj : (g : Int) < 4 := by omega
      have HC5 : Hid (∀ X, Below w.heap.size w X → (X.cell? ⟨lb, lo + k * 2, none⟩ = some (.int .i64 (c : Int)) ∧ X.cell? ⟨lb, lo + k * 2 + 1, none⟩ = some (.int .i64 (g : Int)))) := fun X hX => ⟨kept hX hlb x0, kept hX hlb x1⟩
      clear x0 x1 hlb
      go_wp2_with fail
      have HAX := Lib.hid (HA.out.below (Below.refl _ wx).drew)
      refine wp_region_Z (S := fun X => X.cell? ⟨lb, lo + k * 2, none⟩ = some (.int .i64 (c : Int)) ∧ X.cell? ⟨lb, lo + k * 2 + 1, none⟩ = some (.int .i64 (g : Int))) (by kernel_rfl) (HC5.out _ HAX.out.fr) (fun hS => ?_)
      generalize wx.drew = X at *
      have hc4 : c < 4 := by omega
      have hg4 : g < 4 := by omega
      refine tk [0, 1, 2, 3, 4, 5, 6, 7, 8, 9, 10, 11] ?_
      repeat (refine tkZ (oi := ⟨_, _, _, _, _, _⟩) (v := ?_) rfl (by kernel_rfl) (by rfl) (fun _ _ _ h => h) hS ?_ ?_; rotate_left; (· rintro W' ⟨z0, z1⟩; go_simp; try with_reducible rfl); try simp only [Act.put, putA, putZ, putS])
      refine tk0 ?_
      refine wpAnyZ_next (rs := [12]) (by kernel_rfl) (by simp) ?_
      refine NextZ.cons (o := ⟨none, _, _, _, _, _⟩) rfl (fun K hK => ?_) NextZ.nil
      have e0 := HAX.out.cell (.head _) (c * 4 + g)
      rw [outL_get hc4 hg4] at e0
      have f0 := HAX.out.thaw (.head _) (c * 4 + g)
      have HA0 : Hid (BF w (X.setCell ⟨w.heap.size + 1, c * 4 + g, none⟩ (.bool true)) [(w.heap.size + 1, (outL P').toArray, 46), (w.heap.size, (outL off0).toArray, 46)]) := BF.set1 HAX.out (.head _) (.bool true) (by rw [List.size_toArray, outL_length]; omega) HWS.out (List.forall_mem_cons.2 ⟨⟨show w.heap.size ≠ w.heap.size + 1 by omega, .tail _ (.head _)⟩, List.forall_mem_nil _⟩)
      go_simp
      refine hK.out _ _ (HC5.out (X.setCell ⟨w.heap.size + 1, c * 4 + g, none⟩ (.bool true)) HA0.out.fr) (fun hS => ?_)
      clear hK K
      (try simp only [Act.put])
      clear e0 f0
      refine wpAnyZ_done (by kernel_rfl) ?_ _
      go_wp2_with fail
      go_roundw
      case rel => exact ⟨k + 1, by omega, by go_num, by rw [HP'.out]; exact HA0.out⟩
      case measure => simp [intOf]; omega
    · obtain rfl : k = n := by omega
      have HG : Hid (wx.heap[w.heap.size + 1]? = some (.cells (outL (wOff a b k)).toArray 46 (0, 0))) := (HA.out.bk _ _ _ (.head _)).2
      have HR : Hid (wx.heap[w.heap.size]? = some (.cells (outL off0).toArray 46 (0, 0))) := (HA.out.bk _ _ _ (.tail _ (.head _))).2
      have HSZ := Lib.hid (Try.sizeOffA (wOff a b k))
      go_upto_region 6 with (fail)
      refine wp_region_lit ?_
      refine wpList_load_row (o := ⟨some 23, _, _, _, _, _⟩) rfl 46 (.tmp 3) rfl (w.heap.size + 1) rfl 46 (outL (wOff a b k)).toArray (0, 0) _ HG.out Try.underlying46 rfl HSZ.out ?_
      refine wpList_store_row (o := ⟨none, .store 46 (.tmp 2) (.tmp 23), _, _, _, _⟩) rfl 46 (.tmp 2) (.tmp 23) rfl (w.heap.size) (outL (wOff a b k)).toArray rfl rfl 46 (outL off0).toArray HR.out HSZ.out rfl (outL_one _) ?_
      go_wp2_with fail
      refine bodyPost_ret (v := .agg (outL (wOff a b k)).toArray) (results_cell_row rfl _ _ (w.heap.size) 46 _ (0, 0) _ rfl (setRow_heap _ _ _ _ _ _ HR.out) Try.underlying46 rfl HSZ.out) rfl ⟨rfl, ?_⟩
      exact HA.out.fr.trans ⟨rfl, rfl, rfl, by simp, fun q hq => setRow_other _ _ _ _ (by omega)⟩
end Go.Proofs.Ytjaoflfophcibaa
