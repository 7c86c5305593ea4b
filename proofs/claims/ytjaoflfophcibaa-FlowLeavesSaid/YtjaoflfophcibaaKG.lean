/- The reference's Sum, by either sign. Printed by gen_kg.py. -/
import Derived.Test.YtjaoflfophcibaaKD
import Derived.Test.YtjaoflfophcibaaKE
namespace Go.Proofs.Ytjaoflfophcibaa
open Go.RowKit Go.Shelf

def SumP (a b : Nat → Bool) (sg : Int) (n i : Nat) : Prop := ∃ x, x < n ∧ a x = true ∧ ∃ y, y < 3000 ∧ b y = true ∧ (i : Int) = x + sg * y
theorem SumP.step {a b : Nat → Bool} {sg : Int} {n i : Nat} : SumP a b sg (n + 1) i ↔ SumP a b sg n i ∨ (a n = true ∧ ∃ y, y < 3000 ∧ b y = true ∧ (i : Int) = n + sg * y) := by
  constructor
  · rintro ⟨x, h1, h2, h3⟩
    by_cases e : x = n
    · subst e; exact .inr ⟨h2, h3⟩
    · exact .inl ⟨x, by omega, h2, h3⟩
  · rintro (⟨x, h1, h2, h3⟩ | ⟨h2, h3⟩)
    · exact ⟨x, by omega, h2, h3⟩
    · exact ⟨n, by omega, h2, h3⟩
theorem EndP.bd {p : Nat → Bool} {lo hi : Int} (h : EndP p 3000 lo hi) : 0 ≤ lo ∧ lo ≤ 3000 ∧ -1 ≤ hi ∧ hi ≤ 2999 ∧ ∀ y, y < 3000 → p y = true → lo ≤ (y : Int) ∧ (y : Int) ≤ hi := by
  rcases h with ⟨rfl, rfl, h⟩ | ⟨a, b, rfl, rfl, h1, h2, _, _, h⟩
  · exact ⟨by omega, by omega, by omega, by omega, fun y hy e => by rw [h y hy] at e; cases e⟩
  · exact ⟨by omega, by omega, by omega, by omega, fun y hy e => by have := h y hy e; omega⟩
set_option maxRecDepth 100000 in
set_option maxHeartbeats 4000000 in
theorem sum_add (a b : Nat → Bool) (w : World) :
    Calls Try.prog 66 #[.agg (stA a), .agg (stA b), .int .i64 1] w fun e w' => ∃ q, e = .returned (.agg (stA q)) ∧ (∀ i, i < 3000 → (q i = true ↔ SumP a b 1 3000 i)) ∧ Below w.heap.size w w' := by
  have HA0 : Hid (BF w ((((w.alloc (.cells (stA a) 54)).alloc (.cells (stA b) 54)).alloc (.cells Try.zeroCells54 54)).alloc (.cells Try.zeroCells54 54)) [(w.heap.size + 1 + 1 + 1, stA (fun _ => false), 54), (w.heap.size, stA a, 54), (w.heap.size + 1, stA b, 54), (w.heap.size + 1 + 1, stA fun _ => false, 54)]) := by
    have h := made4 w (stA a) (stA b) Try.zeroCells54 Try.zeroCells54 54 54 54 54
    rw [stA_zero] at h ⊢
    exact h
  go_enter Try.func66, Try.ntmps66
  go_upto_region 2 with (first | (with_reducible refine wpList_box_row (o := ⟨some 3, .box 54 (.tmp 0), _, _, _, _⟩) rfl 54 (.tmp 0) rfl (stA a) rfl ?_) | (with_reducible refine wpList_box_row (o := ⟨some 4, .box 54 (.tmp 1), _, _, _, _⟩) rfl 54 (.tmp 1) rfl (stA b) rfl ?_))
  generalize ((((w.alloc (.cells (stA a) 54)).alloc (.cells (stA b) 54)).alloc (.cells Try.zeroCells54 54)).alloc (.cells Try.zeroCells54 54)) = w1 at *
  have HSB := Lib.hid (stA_info b)
  have HBB : Hid (w1.heap[w.heap.size + 1]? = some (.cells (stA b) 54 (0, 0))) := (HA0.out.bk _ _ _ (.tail _ (.tail _ (.head _)))).2
  refine wp_region_lit ?_
  refine wpList_load_row (o := ⟨some 13, _, _, _, _, _⟩) rfl 54 (.tmp 4) rfl (w.heap.size + 1) rfl 54 (stA b) (0, 0) _ HBB.out Try.underlying54 rfl HSB.out ?_
  go_wp2_with fail
  refine (ends_any b _).mono ?_
  rintro _ w2 ⟨lo, hi, rfl, hep, hb2⟩
  obtain ⟨lo0, lo1, hi0, hi1, hbr⟩ := hep.bd
  have HBR := Lib.hid hbr
  have HA2 := Lib.hid ((HA0.out.below hb2).alloc #[.int .i64 lo, .int .i64 hi] 43)
  have hlt : w.heap.size + 1 + 1 + 1 < w2.heap.size := ((HA0.out.below hb2).lt (.head _)).2
  clear hb2 HA0 HBB HSB hep hbr
  obtain ⟨D, hD⟩ : ∃ D, D = w2.heap.size := ⟨_, rfl⟩
  have HDN : Hid (D ≠ w.heap.size + 1 + 1 + 1) := by unfold Hid; omega
  have HA : Hid (BF w (w2.alloc (.cells #[.int .i64 lo, .int .i64 hi] 43)) [(w.heap.size + 1 + 1 + 1, stA (fun _ => false), 54), (D, #[.int .i64 lo, .int .i64 hi], 43), (w.heap.size, stA a, 54), (w.heap.size + 1, stA b, 54), (w.heap.size + 1 + 1, stA fun _ => false, 54)]) := by
    rw [hD]
    exact HA2.out.sub (List.forall_mem_cons.2 ⟨.tail _ (.head _), List.forall_mem_cons.2 ⟨.head _, List.forall_mem_cons.2 ⟨.tail _ (.tail _ (.head _)), List.forall_mem_cons.2 ⟨.tail _ (.tail _ (.tail _ (.head _))), List.forall_mem_cons.2 ⟨.tail _ (.tail _ (.tail _ (.tail _ (.head _)))), List.forall_mem_nil _⟩⟩⟩⟩⟩)
  clear HA2 hlt
  go_wp2_with fail
  generalize (w2.alloc (.cells #[.int .i64 lo, .int .i64 hi] 43)) = w3 at *
  rw [← hD]
  clear hD
  go_loopw [10] (fun i wr => ∃ (n : Nat) (q : Nat → Bool), i = .int .i64 n ∧ n ≤ 3000 ∧ BF w wr [(w.heap.size + 1 + 1 + 1, stA q, 54), (D, #[.int .i64 lo, .int .i64 hi], 43), (w.heap.size, stA a, 54), (w.heap.size + 1, stA b, 54), (w.heap.size + 1 + 1, stA fun _ => false, 54)] ∧ ∀ i, i < 3000 → (q i = true ↔ SumP a b 1 n i)) (fun i _ => (3000 - intOf i).toNat)
  case atStart => exact ⟨0, fun _ => false, rfl, by omega, HA.out, fun i _ => ⟨fun h => (by cases h), fun ⟨a, h, _⟩ => absurd h (Nat.not_lt_zero _)⟩⟩
  case round =>
    clear HA
    obtain ⟨n, q, rfl, hn, hbf, hq⟩ := hrel
    rename World => wx
    have HA := Lib.hid hbf; have HQ := Lib.hid hq
    clear hbf hq
    have ni : (0 : Int) ≤ (n : Int) := by omega
    by_cases hc : n < 3000
    · as_aux_lemma =>
      have nj : (n : Int) < 3000 := by omega
      have c0 : wx.cell? ⟨D, 0, none⟩ = some (.int .i64 lo) := HA.out.cell (.tail _ (.head _)) 0
      go_wp2_with fail
      clear c0
      go_loopw [11] (fun j wr => ∃ (m : Int) (q : Nat → Bool), j = .int .i64 m ∧ lo ≤ m ∧ (m ≤ hi + 1 ∨ m = lo) ∧ BF w wr [(w.heap.size + 1 + 1 + 1, stA q, 54), (D, #[.int .i64 lo, .int .i64 hi], 43), (w.heap.size, stA a, 54), (w.heap.size + 1, stA b, 54), (w.heap.size + 1 + 1, stA fun _ => false, 54)] ∧ ∀ i, i < 3000 → (q i = true ↔ (SumP a b 1 n i ∨ (a n = true ∧ ∃ y, y < 3000 ∧ b y = true ∧ (y : Int) < m ∧ (i : Int) = n + 1 * y)))) (fun j _ => (4000 - intOf j).toNat)
      case atStart => exact ⟨lo, q, rfl, by omega, .inr rfl, HA.out, fun i hi => (HQ.out i hi).trans ⟨.inl, fun h => h.elim id (fun ⟨_, y, y1, y2, y3, _⟩ => by have := HBR.out y y1 y2; omega)⟩⟩
      case round =>
        clear HA HQ
        obtain ⟨m, q, rfl, hml, hmq, hbf, hq⟩ := hrel
        rename World => wy
        have HA := Lib.hid hbf; have HQ := Lib.hid hq
        clear hbf hq
        have hm1 : m ≤ 3001 := by omega
        have hm2 : 0 ≤ m := by omega
        have c1 : wy.cell? ⟨D, 1, none⟩ = some (.int .i64 hi) := HA.out.cell (.tail _ (.head _)) 1
        have f1 : wy.cell? ⟨w.heap.size, n, none⟩ = some (.bool (a n)) := HA.out.stcell (.tail _ (.tail _ (.head _))) hc
        by_cases hmh : m ≤ hi
        · obtain ⟨an, ha⟩ : ∃ an, a n = an := ⟨_, rfl⟩
          have HPN := Lib.hid ha
          rw [ha] at f1
          clear ha
          cases an
          · clear hmq
            go_wp2_with fail
            go_roundw
            case rel => exact ⟨n + 1, q, by go_num, by omega, HA.out, fun i hi => (HQ.out i hi).trans (by rw [SumP.step, HPN.out]; simp)⟩
            case measure => simp [intOf]; omega
          · obtain ⟨k, rfl⟩ := Int.eq_ofNat_of_zero_le hm2
            have hk3 : k < 3000 := by omega
            have hkj : (k : Int) < 3000 := by omega
            have f2 : wy.cell? ⟨w.heap.size + 1, k, none⟩ = some (.bool (b k)) := HA.out.stcell (.tail _ (.tail _ (.tail _ (.head _)))) hk3
            have HMQ : Hid ((k : Int) + 1 ≤ hi + 1 ∨ (k : Int) + 1 = lo) := .inl (by omega)
            have HML : Hid (lo ≤ (k : Int) + 1) := by unfold Hid; omega
            have HME : Hid ((4000 - ((k : Int) + 1)).toNat < (4000 - (k : Int)).toNat) := by unfold Hid; omega
            have HST : Hid (∀ i, ((∃ y, y < 3000 ∧ b y = true ∧ (y : Int) < (k : Int) + 1 ∧ (i : Int) = n + 1 * y) ↔ ((∃ y, y < 3000 ∧ b y = true ∧ (y : Int) < (k : Int) ∧ (i : Int) = n + 1 * y) ∨ (b k = true ∧ (i : Int) = n + 1 * k)))) := fun i => by
              constructor
              · rintro ⟨y, y1, y2, y3, y4⟩
                by_cases e : y = k
                · subst e; exact .inr ⟨y2, y4⟩
                · exact .inl ⟨y, y1, y2, by omega, y4⟩
              · rintro (⟨y, y1, y2, y3, y4⟩ | ⟨y2, y4⟩)
                · exact ⟨y, y1, y2, by omega, y4⟩
                · exact ⟨k, hk3, y2, by omega, y4⟩
            clear hmq
            obtain ⟨bk, hb⟩ : ∃ bk, b k = bk := ⟨_, rfl⟩
            have HBK := Lib.hid hb
            rw [hb] at f2
            clear hb
            cases bk
            · have HQ2 : Hid (∀ i, i < 3000 → (q i = true ↔ (SumP a b 1 n i ∨ (a n = true ∧ ∃ y, y < 3000 ∧ b y = true ∧ (y : Int) < (k : Int) + 1 ∧ (i : Int) = n + 1 * y)))) := fun i hi => (HQ.out i hi).trans (by rw [HST.out, HBK.out]; simp)
              go_wp2_with fail
              go_roundw
              case rel => exact ⟨(k : Int) + 1, q, by go_num, HML.out, HMQ.out, HA.out, HQ2.out⟩
              case measure => simp [intOf]; omega
            · obtain ⟨x, hx⟩ : ∃ x : Int, (n : Int) + 1 * (k : Int) = x := ⟨_, rfl⟩
              have HXE := Lib.hid hx
              have hx0 : (n : Int) + (k : Int) = x := by omega
              by_cases hin : 0 ≤ x ∧ x ≤ 2999
              · obtain ⟨hin1, hin2⟩ := hin
                have hB : inB x 0 2999 = true := by unfold inB; rw [decide_eq_true hin1, decide_eq_true hin2]; rfl
                obtain ⟨j, rfl⟩ := Int.eq_ofNat_of_zero_le hin1
                have hj3 : j < 3000 := by omega
                have f3 : wy.cell? ⟨w.heap.size + 1 + 1 + 1, j, none⟩ = some (.bool (q j)) := HA.out.stcell (.head _) hj3
                have f4 : wy.frozen? ⟨w.heap.size + 1 + 1 + 1, j, none⟩ = false := HA.out.thaw (.head _) j
                have HS : Hid (BF w (wy.setCell ⟨w.heap.size + 1 + 1 + 1, j, none⟩ (.bool true)) [(w.heap.size + 1 + 1 + 1, stA (fun i => if i = j then true else q i), 54), (D, #[.int .i64 lo, .int .i64 hi], 43), (w.heap.size, stA a, 54), (w.heap.size + 1, stA b, 54), (w.heap.size + 1 + 1, stA fun _ => false, 54)]) := HA.out.stput (.head _) true hj3 (List.forall_mem_cons.2 ⟨⟨HDN.out, .tail _ (.head _)⟩, List.forall_mem_cons.2 ⟨⟨show w.heap.size ≠ w.heap.size + 1 + 1 + 1 by omega, .tail _ (.tail _ (.head _))⟩, List.forall_mem_cons.2 ⟨⟨show w.heap.size + 1 ≠ w.heap.size + 1 + 1 + 1 by omega, .tail _ (.tail _ (.tail _ (.head _)))⟩, List.forall_mem_cons.2 ⟨⟨show w.heap.size + 1 + 1 ≠ w.heap.size + 1 + 1 + 1 by omega, .tail _ (.tail _ (.tail _ (.tail _ (.head _))))⟩, List.forall_mem_nil _⟩⟩⟩⟩)
                have HQ2 : Hid (∀ i, i < 3000 → ((if i = j then true else q i) = true ↔ (SumP a b 1 n i ∨ (a n = true ∧ ∃ y, y < 3000 ∧ b y = true ∧ (y : Int) < (k : Int) + 1 ∧ (i : Int) = n + 1 * y)))) := fun i hi => by
                  rw [HST.out]
                  have hxe := HXE.out
                  exact iff_put (HQ.out i hi) (fun e => .inr ⟨HPN.out, .inr ⟨HBK.out, by omega⟩⟩) (fun h e => by
                    rcases h with h | ⟨a1, h | ⟨_, c2⟩⟩
                    · exact .inl h
                    · exact .inr ⟨a1, h⟩
                    · exfalso; omega) (fun h => h.elim .inl (fun ⟨a1, c⟩ => .inr ⟨a1, .inl c⟩))
                clear HA HQ hx
                go_wp2_with (go_at_call 22; refine (rIn_any _ _ _ _).mono ?_; rw [hB]; rintro _ _ ⟨rfl, rfl⟩)
                go_roundw
                case rel => exact ⟨(k : Int) + 1, _, by go_num, HML.out, HMQ.out, HS.out, HQ2.out⟩
                case measure => simp [intOf]; omega
              · have hB : inB x 0 2999 = false := by
                  unfold inB
                  by_cases e : 0 ≤ x
                  · rw [decide_eq_false (p := x ≤ 2999) (by omega), Bool.and_false]
                  · rw [decide_eq_false e, Bool.false_and]
                have HQ2 : Hid (∀ i, i < 3000 → (q i = true ↔ (SumP a b 1 n i ∨ (a n = true ∧ ∃ y, y < 3000 ∧ b y = true ∧ (y : Int) < (k : Int) + 1 ∧ (i : Int) = n + 1 * y)))) := fun i hi => by
                  rw [HST.out]
                  have hxe := HXE.out
                  exact (HQ.out i hi).trans ⟨fun h => h.elim .inl (fun ⟨a1, c⟩ => .inr ⟨a1, .inl c⟩), fun h => by
                    rcases h with h | ⟨a1, h | ⟨_, c2⟩⟩
                    · exact .inl h
                    · exact .inr ⟨a1, h⟩
                    · exfalso; omega⟩
                clear hx hin
                go_wp2_with (go_at_call 22; refine (rIn_any _ _ _ _).mono ?_; rw [hB]; rintro _ _ ⟨rfl, rfl⟩)
                go_roundw
                case rel => exact ⟨(k : Int) + 1, q, by go_num, HML.out, HMQ.out, HA.out, HQ2.out⟩
                case measure => simp [intOf]; omega
        · have HQ2 : Hid (∀ i, i < 3000 → (q i = true ↔ SumP a b 1 (n + 1) i)) := fun i hi => (HQ.out i hi).trans (by
            rw [SumP.step]
            exact ⟨fun h => h.elim .inl (fun ⟨c, y, y1, y2, _, y4⟩ => .inr ⟨c, y, y1, y2, y4⟩), fun h => h.elim .inl (fun ⟨c, y, y1, y2, y4⟩ => .inr ⟨c, y, y1, y2, by have := HBR.out y y1 y2; omega, y4⟩)⟩)
          clear f1 hmq
          go_wp2_with fail
          go_roundw
          case rel => exact ⟨n + 1, q, by go_num, by omega, HA.out, HQ2.out⟩
          case measure => simp [intOf]; omega
    · obtain rfl : n = 3000 := by omega
      have HG : Hid (wx.heap[w.heap.size + 1 + 1 + 1]? = some (.cells (stA q) 54 (0, 0))) := (HA.out.bk _ _ _ (.head _)).2
      have HR : Hid (wx.heap[w.heap.size + 1 + 1]? = some (.cells (stA fun _ => false) 54 (0, 0))) := (HA.out.bk _ _ _ (.tail _ (.tail _ (.tail _ (.tail _ (.head _)))))).2
      go_upto_region 11 with (fail)
      have HSZ := Lib.hid (stA_info q)
      refine wp_region_lit ?_
      refine wpList_load_row (o := ⟨some 51, _, _, _, _, _⟩) rfl 54 (.tmp 7) rfl (w.heap.size + 1 + 1 + 1) rfl 54 (stA q) (0, 0) _ HG.out Try.underlying54 rfl HSZ.out ?_
      refine wpList_store_row (o := ⟨none, .store 54 (.tmp 6) (.tmp 51), _, _, _, _⟩) rfl 54 (.tmp 6) (.tmp 51) rfl (w.heap.size + 1 + 1) (stA q) rfl rfl 54 (stA fun _ => false) HR.out HSZ.out rfl (stA_one _) ?_
      go_wp2_with fail
      refine bodyPost_ret (v := .agg (stA q)) (results_cell_row rfl _ _ (w.heap.size + 1 + 1) 54 _ (0, 0) _ rfl (setRow_heap _ _ _ _ _ _ HR.out) Try.underlying54 rfl HSZ.out) rfl ⟨q, rfl, HQ.out, ?_⟩
      exact HA.out.fr.trans ⟨rfl, rfl, rfl, by simp, fun q hq => setRow_other _ _ _ _ (by omega)⟩

set_option maxRecDepth 100000 in
set_option maxHeartbeats 4000000 in
theorem sum_sub (a b : Nat → Bool) (w : World) :
    Calls Try.prog 66 #[.agg (stA a), .agg (stA b), .int .i64 (-1)] w fun e w' => ∃ q, e = .returned (.agg (stA q)) ∧ (∀ i, i < 3000 → (q i = true ↔ SumP a b (-1) 3000 i)) ∧ Below w.heap.size w w' := by
  have HA0 : Hid (BF w ((((w.alloc (.cells (stA a) 54)).alloc (.cells (stA b) 54)).alloc (.cells Try.zeroCells54 54)).alloc (.cells Try.zeroCells54 54)) [(w.heap.size + 1 + 1 + 1, stA (fun _ => false), 54), (w.heap.size, stA a, 54), (w.heap.size + 1, stA b, 54), (w.heap.size + 1 + 1, stA fun _ => false, 54)]) := by
    have h := made4 w (stA a) (stA b) Try.zeroCells54 Try.zeroCells54 54 54 54 54
    rw [stA_zero] at h ⊢
    exact h
  go_enter Try.func66, Try.ntmps66
  go_upto_region 2 with (first | (with_reducible refine wpList_box_row (o := ⟨some 3, .box 54 (.tmp 0), _, _, _, _⟩) rfl 54 (.tmp 0) rfl (stA a) rfl ?_) | (with_reducible refine wpList_box_row (o := ⟨some 4, .box 54 (.tmp 1), _, _, _, _⟩) rfl 54 (.tmp 1) rfl (stA b) rfl ?_))
  generalize ((((w.alloc (.cells (stA a) 54)).alloc (.cells (stA b) 54)).alloc (.cells Try.zeroCells54 54)).alloc (.cells Try.zeroCells54 54)) = w1 at *
  have HSB := Lib.hid (stA_info b)
  have HBB : Hid (w1.heap[w.heap.size + 1]? = some (.cells (stA b) 54 (0, 0))) := (HA0.out.bk _ _ _ (.tail _ (.tail _ (.head _)))).2
  refine wp_region_lit ?_
  refine wpList_load_row (o := ⟨some 13, _, _, _, _, _⟩) rfl 54 (.tmp 4) rfl (w.heap.size + 1) rfl 54 (stA b) (0, 0) _ HBB.out Try.underlying54 rfl HSB.out ?_
  go_wp2_with fail
  refine (ends_any b _).mono ?_
  rintro _ w2 ⟨lo, hi, rfl, hep, hb2⟩
  obtain ⟨lo0, lo1, hi0, hi1, hbr⟩ := hep.bd
  have HBR := Lib.hid hbr
  have HA2 := Lib.hid ((HA0.out.below hb2).alloc #[.int .i64 lo, .int .i64 hi] 43)
  have hlt : w.heap.size + 1 + 1 + 1 < w2.heap.size := ((HA0.out.below hb2).lt (.head _)).2
  clear hb2 HA0 HBB HSB hep hbr
  obtain ⟨D, hD⟩ : ∃ D, D = w2.heap.size := ⟨_, rfl⟩
  have HDN : Hid (D ≠ w.heap.size + 1 + 1 + 1) := by unfold Hid; omega
  have HA : Hid (BF w (w2.alloc (.cells #[.int .i64 lo, .int .i64 hi] 43)) [(w.heap.size + 1 + 1 + 1, stA (fun _ => false), 54), (D, #[.int .i64 lo, .int .i64 hi], 43), (w.heap.size, stA a, 54), (w.heap.size + 1, stA b, 54), (w.heap.size + 1 + 1, stA fun _ => false, 54)]) := by
    rw [hD]
    exact HA2.out.sub (List.forall_mem_cons.2 ⟨.tail _ (.head _), List.forall_mem_cons.2 ⟨.head _, List.forall_mem_cons.2 ⟨.tail _ (.tail _ (.head _)), List.forall_mem_cons.2 ⟨.tail _ (.tail _ (.tail _ (.head _))), List.forall_mem_cons.2 ⟨.tail _ (.tail _ (.tail _ (.tail _ (.head _)))), List.forall_mem_nil _⟩⟩⟩⟩⟩)
  clear HA2 hlt
  go_wp2_with fail
  generalize (w2.alloc (.cells #[.int .i64 lo, .int .i64 hi] 43)) = w3 at *
  rw [← hD]
  clear hD
  go_loopw [10] (fun i wr => ∃ (n : Nat) (q : Nat → Bool), i = .int .i64 n ∧ n ≤ 3000 ∧ BF w wr [(w.heap.size + 1 + 1 + 1, stA q, 54), (D, #[.int .i64 lo, .int .i64 hi], 43), (w.heap.size, stA a, 54), (w.heap.size + 1, stA b, 54), (w.heap.size + 1 + 1, stA fun _ => false, 54)] ∧ ∀ i, i < 3000 → (q i = true ↔ SumP a b (-1) n i)) (fun i _ => (3000 - intOf i).toNat)
  case atStart => exact ⟨0, fun _ => false, rfl, by omega, HA.out, fun i _ => ⟨fun h => (by cases h), fun ⟨a, h, _⟩ => absurd h (Nat.not_lt_zero _)⟩⟩
  case round =>
    clear HA
    obtain ⟨n, q, rfl, hn, hbf, hq⟩ := hrel
    rename World => wx
    have HA := Lib.hid hbf; have HQ := Lib.hid hq
    clear hbf hq
    have ni : (0 : Int) ≤ (n : Int) := by omega
    by_cases hc : n < 3000
    · as_aux_lemma =>
      have nj : (n : Int) < 3000 := by omega
      have c0 : wx.cell? ⟨D, 0, none⟩ = some (.int .i64 lo) := HA.out.cell (.tail _ (.head _)) 0
      go_wp2_with fail
      clear c0
      go_loopw [11] (fun j wr => ∃ (m : Int) (q : Nat → Bool), j = .int .i64 m ∧ lo ≤ m ∧ (m ≤ hi + 1 ∨ m = lo) ∧ BF w wr [(w.heap.size + 1 + 1 + 1, stA q, 54), (D, #[.int .i64 lo, .int .i64 hi], 43), (w.heap.size, stA a, 54), (w.heap.size + 1, stA b, 54), (w.heap.size + 1 + 1, stA fun _ => false, 54)] ∧ ∀ i, i < 3000 → (q i = true ↔ (SumP a b (-1) n i ∨ (a n = true ∧ ∃ y, y < 3000 ∧ b y = true ∧ (y : Int) < m ∧ (i : Int) = n + (-1) * y)))) (fun j _ => (4000 - intOf j).toNat)
      case atStart => exact ⟨lo, q, rfl, by omega, .inr rfl, HA.out, fun i hi => (HQ.out i hi).trans ⟨.inl, fun h => h.elim id (fun ⟨_, y, y1, y2, y3, _⟩ => by have := HBR.out y y1 y2; omega)⟩⟩
      case round =>
        clear HA HQ
        obtain ⟨m, q, rfl, hml, hmq, hbf, hq⟩ := hrel
        rename World => wy
        have HA := Lib.hid hbf; have HQ := Lib.hid hq
        clear hbf hq
        have hm1 : m ≤ 3001 := by omega
        have hm2 : 0 ≤ m := by omega
        have c1 : wy.cell? ⟨D, 1, none⟩ = some (.int .i64 hi) := HA.out.cell (.tail _ (.head _)) 1
        have f1 : wy.cell? ⟨w.heap.size, n, none⟩ = some (.bool (a n)) := HA.out.stcell (.tail _ (.tail _ (.head _))) hc
        by_cases hmh : m ≤ hi
        · obtain ⟨an, ha⟩ : ∃ an, a n = an := ⟨_, rfl⟩
          have HPN := Lib.hid ha
          rw [ha] at f1
          clear ha
          cases an
          · clear hmq
            go_wp2_with fail
            go_roundw
            case rel => exact ⟨n + 1, q, by go_num, by omega, HA.out, fun i hi => (HQ.out i hi).trans (by rw [SumP.step, HPN.out]; simp)⟩
            case measure => simp [intOf]; omega
          · obtain ⟨k, rfl⟩ := Int.eq_ofNat_of_zero_le hm2
            have hk3 : k < 3000 := by omega
            have hkj : (k : Int) < 3000 := by omega
            have f2 : wy.cell? ⟨w.heap.size + 1, k, none⟩ = some (.bool (b k)) := HA.out.stcell (.tail _ (.tail _ (.tail _ (.head _)))) hk3
            have HMQ : Hid ((k : Int) + 1 ≤ hi + 1 ∨ (k : Int) + 1 = lo) := .inl (by omega)
            have HML : Hid (lo ≤ (k : Int) + 1) := by unfold Hid; omega
            have HME : Hid ((4000 - ((k : Int) + 1)).toNat < (4000 - (k : Int)).toNat) := by unfold Hid; omega
            have HST : Hid (∀ i, ((∃ y, y < 3000 ∧ b y = true ∧ (y : Int) < (k : Int) + 1 ∧ (i : Int) = n + (-1) * y) ↔ ((∃ y, y < 3000 ∧ b y = true ∧ (y : Int) < (k : Int) ∧ (i : Int) = n + (-1) * y) ∨ (b k = true ∧ (i : Int) = n + (-1) * k)))) := fun i => by
              constructor
              · rintro ⟨y, y1, y2, y3, y4⟩
                by_cases e : y = k
                · subst e; exact .inr ⟨y2, y4⟩
                · exact .inl ⟨y, y1, y2, by omega, y4⟩
              · rintro (⟨y, y1, y2, y3, y4⟩ | ⟨y2, y4⟩)
                · exact ⟨y, y1, y2, by omega, y4⟩
                · exact ⟨k, hk3, y2, by omega, y4⟩
            clear hmq
            obtain ⟨bk, hb⟩ : ∃ bk, b k = bk := ⟨_, rfl⟩
            have HBK := Lib.hid hb
            rw [hb] at f2
            clear hb
            cases bk
            · have HQ2 : Hid (∀ i, i < 3000 → (q i = true ↔ (SumP a b (-1) n i ∨ (a n = true ∧ ∃ y, y < 3000 ∧ b y = true ∧ (y : Int) < (k : Int) + 1 ∧ (i : Int) = n + (-1) * y)))) := fun i hi => (HQ.out i hi).trans (by rw [HST.out, HBK.out]; simp)
              go_wp2_with fail
              go_roundw
              case rel => exact ⟨(k : Int) + 1, q, by go_num, HML.out, HMQ.out, HA.out, HQ2.out⟩
              case measure => simp [intOf]; omega
            · obtain ⟨x, hx⟩ : ∃ x : Int, (n : Int) + (-1) * (k : Int) = x := ⟨_, rfl⟩
              have HXE := Lib.hid hx
              have hx0 : (n : Int) + -(k : Int) = x := by omega
              have hx1 : (n : Int) - (k : Int) = x := by omega
              by_cases hin : 0 ≤ x ∧ x ≤ 2999
              · obtain ⟨hin1, hin2⟩ := hin
                have hB : inB x 0 2999 = true := by unfold inB; rw [decide_eq_true hin1, decide_eq_true hin2]; rfl
                obtain ⟨j, rfl⟩ := Int.eq_ofNat_of_zero_le hin1
                have hj3 : j < 3000 := by omega
                have f3 : wy.cell? ⟨w.heap.size + 1 + 1 + 1, j, none⟩ = some (.bool (q j)) := HA.out.stcell (.head _) hj3
                have f4 : wy.frozen? ⟨w.heap.size + 1 + 1 + 1, j, none⟩ = false := HA.out.thaw (.head _) j
                have HS : Hid (BF w (wy.setCell ⟨w.heap.size + 1 + 1 + 1, j, none⟩ (.bool true)) [(w.heap.size + 1 + 1 + 1, stA (fun i => if i = j then true else q i), 54), (D, #[.int .i64 lo, .int .i64 hi], 43), (w.heap.size, stA a, 54), (w.heap.size + 1, stA b, 54), (w.heap.size + 1 + 1, stA fun _ => false, 54)]) := HA.out.stput (.head _) true hj3 (List.forall_mem_cons.2 ⟨⟨HDN.out, .tail _ (.head _)⟩, List.forall_mem_cons.2 ⟨⟨show w.heap.size ≠ w.heap.size + 1 + 1 + 1 by omega, .tail _ (.tail _ (.head _))⟩, List.forall_mem_cons.2 ⟨⟨show w.heap.size + 1 ≠ w.heap.size + 1 + 1 + 1 by omega, .tail _ (.tail _ (.tail _ (.head _)))⟩, List.forall_mem_cons.2 ⟨⟨show w.heap.size + 1 + 1 ≠ w.heap.size + 1 + 1 + 1 by omega, .tail _ (.tail _ (.tail _ (.tail _ (.head _))))⟩, List.forall_mem_nil _⟩⟩⟩⟩)
                have HQ2 : Hid (∀ i, i < 3000 → ((if i = j then true else q i) = true ↔ (SumP a b (-1) n i ∨ (a n = true ∧ ∃ y, y < 3000 ∧ b y = true ∧ (y : Int) < (k : Int) + 1 ∧ (i : Int) = n + (-1) * y)))) := fun i hi => by
                  rw [HST.out]
                  have hxe := HXE.out
                  exact iff_put (HQ.out i hi) (fun e => .inr ⟨HPN.out, .inr ⟨HBK.out, by omega⟩⟩) (fun h e => by
                    rcases h with h | ⟨a1, h | ⟨_, c2⟩⟩
                    · exact .inl h
                    · exact .inr ⟨a1, h⟩
                    · exfalso; omega) (fun h => h.elim .inl (fun ⟨a1, c⟩ => .inr ⟨a1, .inl c⟩))
                clear HA HQ hx
                go_wp2_with (go_at_call 22; refine (rIn_any _ _ _ _).mono ?_; rw [hB]; rintro _ _ ⟨rfl, rfl⟩)
                go_roundw
                case rel => exact ⟨(k : Int) + 1, _, by go_num, HML.out, HMQ.out, HS.out, HQ2.out⟩
                case measure => simp [intOf]; omega
              · have hB : inB x 0 2999 = false := by
                  unfold inB
                  by_cases e : 0 ≤ x
                  · rw [decide_eq_false (p := x ≤ 2999) (by omega), Bool.and_false]
                  · rw [decide_eq_false e, Bool.false_and]
                have HQ2 : Hid (∀ i, i < 3000 → (q i = true ↔ (SumP a b (-1) n i ∨ (a n = true ∧ ∃ y, y < 3000 ∧ b y = true ∧ (y : Int) < (k : Int) + 1 ∧ (i : Int) = n + (-1) * y)))) := fun i hi => by
                  rw [HST.out]
                  have hxe := HXE.out
                  exact (HQ.out i hi).trans ⟨fun h => h.elim .inl (fun ⟨a1, c⟩ => .inr ⟨a1, .inl c⟩), fun h => by
                    rcases h with h | ⟨a1, h | ⟨_, c2⟩⟩
                    · exact .inl h
                    · exact .inr ⟨a1, h⟩
                    · exfalso; omega⟩
                clear hx hin
                go_wp2_with (go_at_call 22; refine (rIn_any _ _ _ _).mono ?_; rw [hB]; rintro _ _ ⟨rfl, rfl⟩)
                go_roundw
                case rel => exact ⟨(k : Int) + 1, q, by go_num, HML.out, HMQ.out, HA.out, HQ2.out⟩
                case measure => simp [intOf]; omega
        · have HQ2 : Hid (∀ i, i < 3000 → (q i = true ↔ SumP a b (-1) (n + 1) i)) := fun i hi => (HQ.out i hi).trans (by
            rw [SumP.step]
            exact ⟨fun h => h.elim .inl (fun ⟨c, y, y1, y2, _, y4⟩ => .inr ⟨c, y, y1, y2, y4⟩), fun h => h.elim .inl (fun ⟨c, y, y1, y2, y4⟩ => .inr ⟨c, y, y1, y2, by have := HBR.out y y1 y2; omega, y4⟩)⟩)
          clear f1 hmq
          go_wp2_with fail
          go_roundw
          case rel => exact ⟨n + 1, q, by go_num, by omega, HA.out, HQ2.out⟩
          case measure => simp [intOf]; omega
    · obtain rfl : n = 3000 := by omega
      have HG : Hid (wx.heap[w.heap.size + 1 + 1 + 1]? = some (.cells (stA q) 54 (0, 0))) := (HA.out.bk _ _ _ (.head _)).2
      have HR : Hid (wx.heap[w.heap.size + 1 + 1]? = some (.cells (stA fun _ => false) 54 (0, 0))) := (HA.out.bk _ _ _ (.tail _ (.tail _ (.tail _ (.tail _ (.head _)))))).2
      go_upto_region 11 with (fail)
      have HSZ := Lib.hid (stA_info q)
      refine wp_region_lit ?_
      refine wpList_load_row (o := ⟨some 51, _, _, _, _, _⟩) rfl 54 (.tmp 7) rfl (w.heap.size + 1 + 1 + 1) rfl 54 (stA q) (0, 0) _ HG.out Try.underlying54 rfl HSZ.out ?_
      refine wpList_store_row (o := ⟨none, .store 54 (.tmp 6) (.tmp 51), _, _, _, _⟩) rfl 54 (.tmp 6) (.tmp 51) rfl (w.heap.size + 1 + 1) (stA q) rfl rfl 54 (stA fun _ => false) HR.out HSZ.out rfl (stA_one _) ?_
      go_wp2_with fail
      refine bodyPost_ret (v := .agg (stA q)) (results_cell_row rfl _ _ (w.heap.size + 1 + 1) 54 _ (0, 0) _ rfl (setRow_heap _ _ _ _ _ _ HR.out) Try.underlying54 rfl HSZ.out) rfl ⟨q, rfl, HQ.out, ?_⟩
      exact HA.out.fr.trans ⟨rfl, rfl, rfl, by simp, fun q hq => setRow_other _ _ _ _ (by omega)⟩

end Go.Proofs.Ytjaoflfophcibaa
