/- Link: slices.Repeat. -/
import Derived.Test.YtgbdbikjckfgmaaGreatMG
import Derived.Test.YtgbdbikjckfgmaaGreatM3
import Derived.Laws.CopyOwn
namespace Go.Proofs.YtgbdbikjckfgmaaGreat
open Go.RowKit Go.Shelf

theorem mul64_any (x : Int) (w : World) (h : x = 0 ∨ x = 1 ∨ x = 2 ∨ x = 3 ∨ x = 4 ∨ x = 5 ∨ x = 6 ∨ x = 7 ∨ x = 8) :
    Calls Tryz.prog 151 #[.int .u64 1, .int .u64 x] w fun e w' => e = .returned (.tuple #[.int .u64 0, .int .u64 x]) ∧ w = w' := by
  rcases h with rfl | rfl | rfl | rfl | rfl | rfl | rfl | rfl | rfl
  all_goals
    go_enter Tryz.func151, Tryz.ntmps151
    go_wp2
    go_ret2
    exact ⟨rfl, rfl⟩
theorem mul_any (x : Int) (w : World) (h : x = 0 ∨ x = 1 ∨ x = 2 ∨ x = 3 ∨ x = 4 ∨ x = 5 ∨ x = 6 ∨ x = 7 ∨ x = 8) :
    Calls Tryz.prog 138 #[.int .u64 1, .int .u64 x] w fun e w' => e = .returned (.tuple #[.int .u64 0, .int .u64 x]) ∧ w = w' := by
  have HH := Lib.hid h
  have hc : IntKind.u64.wrap x = x := by rcases h with rfl | rfl | rfl | rfl | rfl | rfl | rfl | rfl | rfl <;> rfl
  clear h
  go_enter Tryz.func138, Tryz.ntmps138
  go_wp2_with fail
  refine (mul64_any x _ HH.out).mono ?_
  rintro _ _ ⟨rfl, rfl⟩
  go_wp2_with fail
  go_ret2
  exact ⟨rfl, rfl⟩
theorem eA_zero (N : Nat) : madeCells (Value.int .i64 0).cells (N * 1) = eA (fun _ => .int .i64 0) N := by
  have h : (madeCells (Value.int .i64 0).cells (N * 1)).toList = (List.range N).map (fun _ => Value.int .i64 0) := by
    rw [Nat.mul_one, List.map_const', List.length_range]
    exact toList_madeCells_one _ _
  unfold eA
  rw [← h]
theorem make_ints (N : Nat) (hN : N ≤ 100000) (W : World) : (Instr.makeSlice 47 (.int .i64 (N : Int)) (.int .i64 (N : Int))).run Tryz.prog W = .ok (.slice (some ⟨W.heap.size, 0, none⟩) N N) (W.alloc (.cells (eA (fun _ => .int .i64 0) N) 3)) := by
  obtain ⟨i, hi, hz, h1, h2⟩ := info_parts Tryz.infoInt
  have := run_makeSlice (P := Tryz.prog) W 47 3 i (.int .i64 0) Tryz.underlying47 hi hz .i64 .i64 N N (by omega) (Int.le_refl _) (by rw [h1, Int.toNat_natCast]; omega) (by rw [h2]; omega) (by omega)
  rw [h1, Int.toNat_natCast, eA_zero] at this
  exact this
theorem n8 {n : Nat} (h : n ≤ 8) : (n : Int) = 0 ∨ (n : Int) = 1 ∨ (n : Int) = 2 ∨ (n : Int) = 3 ∨ (n : Int) = 4 ∨ (n : Int) = 5 ∨ (n : Int) = 6 ∨ (n : Int) = 7 ∨ (n : Int) = 8 := by omega
def rep (k n : Nat) : List Value := List.replicate k (.int .i64 (-1)) ++ List.replicate (n - k) (.int .i64 0)
theorem rep_length {k n : Nat} (h : k ≤ n) : (rep k n).length = n := by simp [rep]; omega
theorem rep_splice {k c n : Nat} : splice (rep k n) k (List.replicate c (.int .i64 (-1))) = rep (k + c) n := by
  unfold splice rep
  rw [List.take_left' (by simp), List.drop_append]
  simp only [List.length_replicate, List.drop_replicate]
  rw [show k - (k + c) = 0 by omega, show k + c - k = c by omega, show n - k - c = n - (k + c) by omega]
  simp only [List.replicate_zero, List.nil_append]
  rw [← List.append_assoc, List.replicate_append_replicate]
theorem rep_get {k n j : Nat} (h : j < k) : (rep k n)[j]? = some (.int .i64 (-1)) := by
  unfold rep; rw [List.getElem?_append_left (by simpa using h)]; simp [h]
theorem rep_full (n : Nat) : (rep n n).toArray = eA (fun _ => .int .i64 (-1)) n := by
  unfold rep eA
  rw [Nat.sub_self, List.replicate_zero, List.append_nil]
  congr 1
  refine List.ext_getElem (by simp) fun j h1 h2 => by simp
set_option maxRecDepth 100000 in
set_option maxHeartbeats 4000000 in
theorem repeat_any (b c n : Nat) (w : World) (hn : n ≤ 8) (hx : w.cell? ⟨b, 0, none⟩ = some (.int .i64 (-1))) :
    Calls Tryz.prog 114 #[.slice (some ⟨b, 0, none⟩) 1 c, .int .i64 (n : Int)] w fun e w' => e = .returned (.slice (some ⟨w.heap.size, 0, none⟩) n n) ∧ w'.heap[w.heap.size]? = some (.cells (eA (fun _ => .int .i64 (-1)) n) 3 (0, 0)) ∧ Below w.heap.size w w' := by
  have hb := World.block_lt_of_cell? _ _ hx
  have HX := Lib.hid hx
  have hmk := make_ints n (by omega)
  have HR0 : Hid (eA (fun _ => .int .i64 0) n = (rep 0 n).toArray) := by unfold Hid rep eA; rw [List.replicate_zero, List.nil_append, Nat.sub_zero]; congr 1; exact List.ext_getElem (by simp) fun j h1 h2 => by simp
  rw [HR0.out] at hmk
  have HM := Lib.hid (fun W => mul_any (n : Int) W (by omega))
  have hu : IntKind.u64.wrap (n : Int) = (n : Int) := by rcases n8 hn with e | e | e | e | e | e | e | e | e <;> rw [e] <;> rfl
  have hi : IntKind.i64.wrap (n : Int) = (n : Int) := IntWalk.i64_in _ (by omega)
  clear hx
  go_enter Tryz.func114, Tryz.ntmps114
  go_wp2_with fail
  refine (HM.out _).mono ?_
  rintro _ _ ⟨rfl, rfl⟩
  obtain ⟨c0, hc0⟩ : ∃ c0, min 1 n = c0 := ⟨_, rfl⟩
  have hc1 : c0 ≤ n := by omega
  have hc2 : 0 < n → 0 < c0 := by omega
  have HC0 : Hid (min 1 n = c0) := hc0
  have HG0 : Hid ((w.alloc (.cells (rep 0 n).toArray 3)).heap[w.heap.size]? = some (.cells (rep 0 n).toArray 3 (0, 0))) := heap_alloc_new _ _
  have HX1 : Hid ((w.alloc (.cells (rep 0 n).toArray 3)).cell? ⟨b, 0, none⟩ = some (.int .i64 (-1))) := kept (below_alloc _ _) hb HX.out
  clear hc0
  go_upto_region 7 with fail
  generalize hW0 : w.alloc (.cells (rep 0 n).toArray 3) = W0 at *
  have HB0 : Hid (Below w.heap.size w W0) := by rw [← hW0]; exact below_alloc _ _
  clear hW0
  go_wp2_with (with_reducible refine wpList_copy_splice (o := ⟨some 33, _, _, _, _, _⟩) rfl (.tmp 31) (.tmp 32) 47 47 rfl 3 Tryz.underlying47 ?q0 (some ⟨w.heap.size, 0, none⟩) (some ⟨b, 0, none⟩) n n 1 c rfl rfl w.heap.size 0 (rep 0 n) 3 HG0.out (List.replicate c0 (.int .i64 (-1))) ?q1 ?q2 ?q3 ?q4 w.heap.size w HB0.out (Nat.le_refl _) ?_)
  case q0 => kernel_rfl
  case q1 => rw [List.length_replicate, ← HC0.out]
  case q2 =>
    intro hp j v hv
    have := HC0.out
    obtain rfl : c0 = 1 := by omega
    cases j with
    | zero => simp at hv; rw [← hv]; exact HX1.out
    | succ j => simp at hv
  case q3 => rw [List.length_replicate, rep_length (Nat.zero_le _)]; omega
  case q4 => intro v hv; rw [List.eq_of_mem_replicate hv]; rfl
  intro w1 hg1 hb1
  rw [rep_splice, Nat.zero_add] at hg1
  have HB1 := Lib.hid hb1
  clear hb1 HG0 HX1 HB0 HC0 hmk HX HM hu
  go_wp2_with fail
  go_loopw [8] (fun i wr => ∃ k : Nat, i = .int .i64 k ∧ k ≤ n ∧ (0 < n → 0 < k) ∧ wr.heap[w.heap.size]? = some (.cells (rep k n).toArray 3 (0, 0)) ∧ Below w.heap.size w wr) (fun i _ => n - (intOf i).toNat)
  case atStart => exact ⟨c0, rfl, hc1, hc2, hg1.out, HB1.out⟩
  case round =>
    clear hg1 HB1 hc1 hc2
    obtain ⟨k, rfl, hk, hk0, hg, hbl⟩ := hrel
    have HG := Lib.hid hg
    have HB := Lib.hid hbl
    clear hg hbl
    by_cases hlt : k < n
    · have k0 := hk0 (by omega)
      clear hk0
      go_upto_region 9 with fail
      have hne : ¬ (n = k) := by omega
      have hne2 : ¬ (k = n) := by omega
      have ki : (0 : Int) ≤ (k : Int) := by omega
      have kj : (k : Int) ≤ (n : Int) := by omega
      have kl : (k : Int) < (n : Int) := by omega
      obtain ⟨c1, hc1⟩ : ∃ c1, min k (n - k) = c1 := ⟨_, rfl⟩
      have hkc : k + c1 ≤ n := by omega
      have hcp : 0 < c1 := by omega
      have HC1 : Hid (min k (n - k) = c1) := hc1
      clear hc1
      refine wp_region_Z (S := fun _ => True) (by kernel_rfl) trivial (fun hS => ?_)
      have HG2 : Hid (wr.drew.heap[w.heap.size]? = some (.cells (rep k n).toArray 3 (0, 0))) := HG.out
      have HB2 : Hid (Below w.heap.size w wr.drew) := HB.out.drew
      generalize wr.drew = X at *
      clear HG HB
      refine tk [0, 1, 2, 3, 4, 5, 6] ?_
      repeat (refine tkZ (oi := ⟨_, _, _, _, _, _⟩) (v := ?_) rfl (by kernel_rfl) (by rfl) (fun _ _ _ h => h) hS ?_ ?_; rotate_left; (· intro W' _; go_simp; try with_reducible rfl); try simp only [Act.put, putA, putZ, putS])
      refine tk0 ?_
      refine wpAnyZ_next (rs := [7]) (by kernel_rfl) (by simp) ?_
      refine NextZ.cons (o := ⟨some 45, _, _, _, _, _⟩) rfl (fun K hK => ?_) NextZ.nil
      refine step_copy_splice rfl (.tmp 41) (.tmp 44) 47 47 (by rfl) 3 Tryz.underlying47 (by kernel_rfl) (some ⟨w.heap.size, k, none⟩) (some ⟨w.heap.size, 0, none⟩) (n - k) (n - k) k n (by rfl) (by rfl) w.heap.size k (rep k n) 3 HG2.out (List.replicate c1 (.int .i64 (-1))) (by rw [List.length_replicate, ← HC1.out])
        (fun _ => ⟨rfl, ⟨w.heap.size, 0, none⟩, rfl, fun j v hv => by
          have hj : j < c1 := by
            have := (List.getElem?_eq_some_iff.1 hv).1
            simpa using this
          rw [List.getElem?_replicate, if_pos hj] at hv
          cases hv
          rw [Addr.add_mid, Nat.zero_add, cell_of_row _ _ _ _ _ _ HG2.out]
          have hjk : j < k := by have := HC1.out; omega
          simpa using rep_get hjk⟩) (by rw [List.length_replicate, rep_length hk]; omega) (by intro v hv; rw [List.eq_of_mem_replicate hv]; rfl) w.heap.size w HB2.out (Nat.le_refl _) ?_
      intro X2 hg2 hb2
      rw [rep_splice] at hg2
      have HB3 := Lib.hid hb2
      rw [show goInt (List.replicate c1 (Value.int .i64 (-1))).length = .int .i64 (c1 : Int) by rw [List.length_replicate]; rfl]
      clear hb2 HG2 HB2
      refine hK.out _ _ trivial (fun hS => ?_)
      clear hK K
      try simp only [Act.put, putA, putZ, putS]
      refine tZ 8 (oi := ⟨_, _, _, _, _, _⟩) (v := .int .i64 ((k + c1 : Nat) : Int)) rfl (by kernel_rfl) (by rfl) (fun _ _ _ h => h) hS ?_ ?_
      · intro W' _; go_simp; rw [IntWalk.i64_in _ (by omega)]
      try simp only [Act.put, putA, putZ, putS]
      refine tZ 9 (oi := ⟨_, _, _, _, _, _⟩) (v := ?_) rfl (by kernel_rfl) (by rfl) (fun _ _ _ h => h) hS ?_ ?_
      rotate_left
      · intro W' _; go_simp; try with_reducible rfl
      try simp only [Act.put, putA, putZ, putS]
      refine wpAnyZ_done (by kernel_rfl) ?_ _
      go_wp2_with fail
      go_roundw
      case rel => exact ⟨k + c1, rfl, hkc, fun _ => by omega, hg2.out, HB3.out⟩
      case measure => simp [intOf]; omega
    · obtain rfl : k = n := by omega
      go_wp2_with fail
      go_ret
      rw [rep_full] at HG
      exact ⟨rfl, HG.out, HB.out⟩
end Go.Proofs.YtgbdbikjckfgmaaGreat
