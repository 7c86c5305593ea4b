/- The reference's Moved and Living. Printed by gen_ke.py. -/
import Derived.Test.YtjaoflfophcibaaKC
namespace Go.Proofs.Ytjaoflfophcibaa
open Go.RowKit Go.Shelf

def MovP (p : Nat → Bool) (lo hi : Int) (n i : Nat) : Prop := ∃ a, a < n ∧ p a = true ∧ lo ≤ (i : Int) - a ∧ (i : Int) - a ≤ hi
theorem MovP.step {p : Nat → Bool} {lo hi : Int} {n i : Nat} : MovP p lo hi (n + 1) i ↔ MovP p lo hi n i ∨ (p n = true ∧ lo ≤ (i : Int) - n ∧ (i : Int) - n ≤ hi) := by
  constructor
  · rintro ⟨a, h1, h2, h3, h4⟩
    by_cases e : a = n
    · subst e; exact .inr ⟨h2, h3, h4⟩
    · exact .inl ⟨a, by omega, h2, h3, h4⟩
  · rintro (⟨a, h1, h2, h3, h4⟩ | ⟨h2, h3, h4⟩)
    · exact ⟨a, by omega, h2, h3, h4⟩
    · exact ⟨n, by omega, h2, h3, h4⟩
theorem iff_put {q : Nat → Bool} {k i : Nat} {A B : Prop} (h : q i = true ↔ A) (hk : i = k → B) (hB : B → i ≠ k → A) (hA : A → B) : ((if i = k then true else q i) = true ↔ B) := by
  by_cases e : i = k
  · rw [if_pos e]; exact ⟨fun _ => hk e, fun _ => rfl⟩
  · rw [if_neg e, h]; exact ⟨hA, fun b => hB b e⟩
set_option maxRecDepth 100000 in
set_option maxHeartbeats 4000000 in
theorem moved_any (p : Nat → Bool) (lo hi : Int) (w : World) (h1 : -1000 ≤ lo) (h2 : lo ≤ 1000) (h3 : -1000 ≤ hi) (h4 : hi ≤ 1000) :
    Calls Try.prog 67 #[.agg (stA p), .agg #[.int .i64 lo, .int .i64 hi]] w fun e w' => ∃ q, e = .returned (.agg (stA q)) ∧ (∀ i, i < 3000 → (q i = true ↔ MovP p lo hi 3000 i)) ∧ Below w.heap.size w w' := by
  have HA0 : Hid (BF w ((((w.alloc (.cells (stA p) 54)).alloc (.cells #[.int .i64 lo, .int .i64 hi] 43)).alloc (.cells Try.zeroCells54 54)).alloc (.cells Try.zeroCells54 54)) [(w.heap.size + 1 + 1 + 1, stA (fun _ => false), 54), (w.heap.size, stA p, 54), (w.heap.size + 1, #[.int .i64 lo, .int .i64 hi], 43), (w.heap.size + 1 + 1, stA fun _ => false, 54)]) := by
    have h := made4 w (stA p) #[.int .i64 lo, .int .i64 hi] Try.zeroCells54 Try.zeroCells54 54 43 54 54
    rw [stA_zero] at h ⊢
    exact h
  go_enter Try.func67, Try.ntmps67
  go_upto_region 3 with (first | (with_reducible refine wpList_box_row (o := ⟨some 2, .box 54 (.tmp 0), _, _, _, _⟩) rfl 54 (.tmp 0) rfl (stA p) rfl ?_))
  generalize ((((w.alloc (.cells (stA p) 54)).alloc (.cells #[.int .i64 lo, .int .i64 hi] 43)).alloc (.cells Try.zeroCells54 54)).alloc (.cells Try.zeroCells54 54)) = w1 at *
  go_loopw [6] (fun i wr => ∃ (n : Nat) (q : Nat → Bool), i = .int .i64 n ∧ n ≤ 3000 ∧ BF w wr [(w.heap.size + 1 + 1 + 1, stA q, 54), (w.heap.size, stA p, 54), (w.heap.size + 1, #[.int .i64 lo, .int .i64 hi], 43), (w.heap.size + 1 + 1, stA fun _ => false, 54)] ∧ ∀ i, i < 3000 → (q i = true ↔ MovP p lo hi n i)) (fun i _ => (3000 - intOf i).toNat)
  case atStart => exact ⟨0, fun _ => false, rfl, by omega, HA0.out, fun i _ => ⟨fun h => (by cases h), fun ⟨a, h, _⟩ => absurd h (Nat.not_lt_zero _)⟩⟩
  case round =>
    obtain ⟨n, q, rfl, hn, hbf, hq⟩ := hrel
    rename World => wx
    have HA := Lib.hid hbf; have HQ := Lib.hid hq
    clear hbf HA0 hq
    have ni : (0 : Int) ≤ (n : Int) := by omega
    by_cases hc : n < 3000
    · as_aux_lemma =>
      have nj : (n : Int) < 3000 := by omega
      have c0 : wx.cell? ⟨w.heap.size + 1, 0, none⟩ = some (.int .i64 lo) := HA.out.cell (.tail _ (.tail _ (.head _))) 0
      go_wp2_with fail
      clear c0
      go_loopw [7] (fun j wr => ∃ (m : Int) (q : Nat → Bool), j = .int .i64 m ∧ lo ≤ m ∧ (m ≤ hi + 1 ∨ m = lo) ∧ BF w wr [(w.heap.size + 1 + 1 + 1, stA q, 54), (w.heap.size, stA p, 54), (w.heap.size + 1, #[.int .i64 lo, .int .i64 hi], 43), (w.heap.size + 1 + 1, stA fun _ => false, 54)] ∧ ∀ i, i < 3000 → (q i = true ↔ (MovP p lo hi n i ∨ (p n = true ∧ lo ≤ (i : Int) - n ∧ (i : Int) - n < m)))) (fun j _ => (2000 - intOf j).toNat)
      case atStart => exact ⟨lo, q, rfl, by omega, .inr rfl, HA.out, fun i hi => (HQ.out i hi).trans ⟨.inl, fun h => h.elim id (fun ⟨_, a, b⟩ => by omega)⟩⟩
      case round =>
        clear HA HQ
        obtain ⟨m, q, rfl, hml, hmq, hbf, hq⟩ := hrel
        rename World => wy
        have HA := Lib.hid hbf; have HQ := Lib.hid hq
        clear hbf hq
        have hm1 : m ≤ 1001 := by omega
        have hm2 : -1000 ≤ m := by omega
        have c1 : wy.cell? ⟨w.heap.size + 1, 1, none⟩ = some (.int .i64 hi) := HA.out.cell (.tail _ (.tail _ (.head _))) 1
        have f1 : wy.cell? ⟨w.heap.size, n, none⟩ = some (.bool (p n)) := HA.out.stcell (.tail _ (.head _)) hc
        by_cases hmh : m ≤ hi
        · obtain ⟨a, ha⟩ : ∃ a, p n = a := ⟨_, rfl⟩
          have HPN := Lib.hid ha
          rw [ha] at f1
          clear ha
          cases a
          · go_wp2_with fail
            go_roundw
            case rel => exact ⟨n + 1, q, by go_num, by omega, HA.out, fun i hi => (HQ.out i hi).trans (by rw [MovP.step, HPN.out]; simp)⟩
            case measure => simp [intOf]; omega
          · by_cases hin : 0 ≤ (n : Int) + m ∧ (n : Int) + m ≤ 2999
            · obtain ⟨hin1, hin2⟩ := hin
              have hB : inB ((n : Int) + m) 0 2999 = true := by unfold inB; rw [decide_eq_true hin1, decide_eq_true hin2]; rfl
              obtain ⟨k, hk⟩ : ∃ k : Nat, (n : Int) + m = (k : Int) := ⟨((n : Int) + m).toNat, by omega⟩
              have hk3 : k < 3000 := by omega
              have f2 : wy.cell? ⟨w.heap.size + 1 + 1 + 1, k, none⟩ = some (.bool (q k)) := HA.out.stcell (.head _) hk3
              have f3 : wy.frozen? ⟨w.heap.size + 1 + 1 + 1, k, none⟩ = false := HA.out.thaw (.head _) k
              have HS : Hid (BF w (wy.setCell ⟨w.heap.size + 1 + 1 + 1, k, none⟩ (.bool true)) [(w.heap.size + 1 + 1 + 1, stA (fun i => if i = k then true else q i), 54), (w.heap.size, stA p, 54), (w.heap.size + 1, #[.int .i64 lo, .int .i64 hi], 43), (w.heap.size + 1 + 1, stA fun _ => false, 54)]) := HA.out.stput (.head _) true hk3 (List.forall_mem_cons.2 ⟨⟨show w.heap.size ≠ w.heap.size + 1 + 1 + 1 by omega, .tail _ (.head _)⟩, List.forall_mem_cons.2 ⟨⟨show w.heap.size + 1 ≠ w.heap.size + 1 + 1 + 1 by omega, .tail _ (.tail _ (.head _))⟩, List.forall_mem_cons.2 ⟨⟨show w.heap.size + 1 + 1 ≠ w.heap.size + 1 + 1 + 1 by omega, .tail _ (.tail _ (.tail _ (.head _)))⟩, List.forall_mem_nil _⟩⟩⟩)
              have HQ2 : Hid (∀ i, i < 3000 → ((if i = k then true else q i) = true ↔ (MovP p lo hi n i ∨ (p n = true ∧ lo ≤ (i : Int) - n ∧ (i : Int) - n < m + 1)))) := fun i hi => iff_put (HQ.out i hi) (fun e => .inr ⟨HPN.out, by omega, by omega⟩) (fun h e => h.elim .inl (fun ⟨a, b, c⟩ => .inr ⟨a, b, by omega⟩)) (fun h => h.elim .inl (fun ⟨a, b, c⟩ => .inr ⟨a, b, by omega⟩))
              have HMQ : Hid (m + 1 ≤ hi + 1 ∨ m + 1 = lo) := .inl (by omega)
              have HML : Hid (lo ≤ m + 1) := by unfold Hid; omega
              have HME : Hid ((2000 - (m + 1)).toNat < (2000 - m).toNat) := by unfold Hid; omega
              clear HA HQ
              rw [hk] at hB hin1 hin2
              clear hmq
              go_wp2_with (go_at_call 22; refine (rIn_any _ _ _ _).mono ?_; rw [hB]; rintro _ _ ⟨rfl, rfl⟩)
              go_roundw
              case rel => exact ⟨m + 1, _, by go_num, HML.out, HMQ.out, HS.out, HQ2.out⟩
              case measure => simp [intOf]; omega
            · have hB : inB ((n : Int) + m) 0 2999 = false := by
                unfold inB
                by_cases e : 0 ≤ (n : Int) + m
                · rw [decide_eq_false (p := (n : Int) + m ≤ 2999) (by omega), Bool.and_false]
                · rw [decide_eq_false e, Bool.false_and]
              have HQ2 : Hid (∀ i, i < 3000 → (q i = true ↔ (MovP p lo hi n i ∨ (p n = true ∧ lo ≤ (i : Int) - n ∧ (i : Int) - n < m + 1)))) := fun i hi => (HQ.out i hi).trans ⟨fun h => h.elim .inl (fun ⟨a, b, c⟩ => .inr ⟨a, b, by omega⟩), fun h => h.elim .inl (fun ⟨a, b, c⟩ => .inr ⟨a, b, by omega⟩)⟩
              clear hmq
              go_wp2_with (go_at_call 22; refine (rIn_any _ _ _ _).mono ?_; rw [hB]; rintro _ _ ⟨rfl, rfl⟩)
              go_roundw
              case rel => exact ⟨m + 1, q, by go_num, by omega, .inl (by omega), HA.out, HQ2.out⟩
              case measure => simp [intOf]; omega
        · have HQ2 : Hid (∀ i, i < 3000 → (q i = true ↔ MovP p lo hi (n + 1) i)) := fun i hi => (HQ.out i hi).trans (by rw [MovP.step]; exact ⟨fun h => h.elim .inl (fun ⟨a, b, c⟩ => .inr ⟨a, b, by omega⟩), fun h => h.elim .inl (fun ⟨a, b, c⟩ => .inr ⟨a, b, by omega⟩)⟩)
          clear f1 hmq
          go_wp2_with fail
          go_roundw
          case rel => exact ⟨n + 1, q, by go_num, by omega, HA.out, HQ2.out⟩
          case measure => simp [intOf]; omega
    · obtain rfl : n = 3000 := by omega
      have HG : Hid (wx.heap[w.heap.size + 1 + 1 + 1]? = some (.cells (stA q) 54 (0, 0))) := (HA.out.bk _ _ _ (.head _)).2
      have HR : Hid (wx.heap[w.heap.size + 1 + 1]? = some (.cells (stA fun _ => false) 54 (0, 0))) := (HA.out.bk _ _ _ (.tail _ (.tail _ (.tail _ (.head _))))).2
      go_upto_region 10 with (fail)
      have HSZ := Lib.hid (stA_info q)
      refine wp_region_lit ?_
      refine wpList_load_row (o := ⟨some 33, _, _, _, _, _⟩) rfl 54 (.tmp 5) rfl (w.heap.size + 1 + 1 + 1) rfl 54 (stA q) (0, 0) _ HG.out Try.underlying54 rfl HSZ.out ?_
      refine wpList_store_row (o := ⟨none, .store 54 (.tmp 4) (.tmp 33), _, _, _, _⟩) rfl 54 (.tmp 4) (.tmp 33) rfl (w.heap.size + 1 + 1) (stA q) rfl rfl 54 (stA fun _ => false) HR.out HSZ.out rfl (stA_one _) ?_
      go_wp2_with fail
      refine bodyPost_ret (v := .agg (stA q)) (results_cell_row rfl _ _ (w.heap.size + 1 + 1) 54 _ (0, 0) _ rfl (setRow_heap _ _ _ _ _ _ HR.out) Try.underlying54 rfl HSZ.out) rfl ⟨q, rfl, HQ.out, ?_⟩
      exact HA.out.fr.trans ⟨rfl, rfl, rfl, by simp, fun q hq => setRow_other _ _ _ _ (by omega)⟩

end Go.Proofs.Ytjaoflfophcibaa
