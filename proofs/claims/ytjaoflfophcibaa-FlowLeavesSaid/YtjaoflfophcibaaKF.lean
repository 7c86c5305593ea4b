/- The reference's Living. Printed by gen_kf.py. -/
import Derived.Test.YtjaoflfophcibaaKE
namespace Go.Proofs.Ytjaoflfophcibaa
open Go.RowKit Go.Shelf

def LivP (p : Nat → Bool) (r : R2) (n i : Nat) : Prop := ∃ a, a < n ∧ p a = true ∧ i ≤ a ∧ (deadR r a).1 ≤ (a : Int) - i ∧ (a : Int) - i ≤ (deadR r a).2
theorem LivP.step {p : Nat → Bool} {r : R2} {n i : Nat} : LivP p r (n + 1) i ↔ LivP p r n i ∨ (p n = true ∧ i ≤ n ∧ (deadR r n).1 ≤ (n : Int) - i ∧ (n : Int) - i ≤ (deadR r n).2) := by
  constructor
  · rintro ⟨a, h1, h2, h3, h4⟩
    by_cases e : a = n
    · subst e; exact .inr ⟨h2, h3, h4⟩
    · exact .inl ⟨a, by omega, h2, h3, h4⟩
  · rintro (⟨a, h1, h2, h3, h4⟩ | ⟨h2, h3, h4⟩)
    · exact ⟨a, by omega, h2, h3, h4⟩
    · exact ⟨n, by omega, h2, h3, h4⟩
theorem deadR_bd {r : R2} {n : Int} (h1 : 0 ≤ r.1) (h2 : r.1 ≤ r.2) (h3 : r.2 ≤ 1000) (hn : 0 ≤ n) (hn2 : n ≤ 3000) : 0 ≤ (deadR r n).1 ∧ (deadR r n).1 ≤ 3000 ∧ 0 ≤ (deadR r n).2 ∧ (deadR r n).2 ≤ 3001 := by
  have e1 : 0 ≤ n * r.1 := Int.mul_nonneg hn h1
  have e2 : 0 ≤ n * r.2 := Int.mul_nonneg hn (by omega)
  have e3 : n * r.1 ≤ n * 1000 := Int.mul_le_mul_of_nonneg_left (by omega) hn
  have e4 : n * r.2 ≤ n * 1000 := Int.mul_le_mul_of_nonneg_left h3 hn
  unfold deadR
  simp only
  omega
set_option maxRecDepth 100000 in
set_option maxHeartbeats 4000000 in
theorem rliving_any (p : Nat → Bool) (lo hi : Int) (w : World) (h1 : 0 ≤ lo) (h2 : lo ≤ hi) (h3 : hi ≤ 1000) :
    Calls Try.prog 65 #[.agg (stA p), .agg #[.int .i64 lo, .int .i64 hi]] w fun e w' => ∃ q, e = .returned (.agg (stA q)) ∧ (∀ i, i < 3000 → (q i = true ↔ LivP p (lo, hi) 3000 i)) ∧ Below w.heap.size w w' := by
  have HA0 : Hid (BF w ((((w.alloc (.cells (stA p) 54)).alloc (.cells #[.int .i64 lo, .int .i64 hi] 43)).alloc (.cells Try.zeroCells54 54)).alloc (.cells Try.zeroCells54 54)) [(w.heap.size + 1 + 1 + 1, stA (fun _ => false), 54), (w.heap.size, stA p, 54), (w.heap.size + 1, #[.int .i64 lo, .int .i64 hi], 43), (w.heap.size + 1 + 1, stA fun _ => false, 54)]) := by
    have h := made4 w (stA p) #[.int .i64 lo, .int .i64 hi] Try.zeroCells54 Try.zeroCells54 54 43 54 54
    rw [stA_zero] at h ⊢
    exact h
  have HDB := Lib.hid (fun (n : Int) (hn : 0 ≤ n) (hn2 : n ≤ 3000) => deadR_bd (r := (lo, hi)) h1 h2 h3 hn hn2)
  have HDE := Lib.hid (fun (n : Int) (hn : 0 ≤ n) (hn2 : n ≤ 1000000) => deadW_eq (r := (lo, hi)) h1 h2 h3 hn hn2)
  clear h1 h2 h3
  go_enter Try.func65, Try.ntmps65
  go_upto_region 3 with (first | (with_reducible refine wpList_box_row (o := ⟨some 2, .box 54 (.tmp 0), _, _, _, _⟩) rfl 54 (.tmp 0) rfl (stA p) rfl ?_))
  generalize ((((w.alloc (.cells (stA p) 54)).alloc (.cells #[.int .i64 lo, .int .i64 hi] 43)).alloc (.cells Try.zeroCells54 54)).alloc (.cells Try.zeroCells54 54)) = w1 at *
  go_loopw [6] (fun i wr => ∃ (n : Nat) (q : Nat → Bool), i = .int .i64 n ∧ n ≤ 3000 ∧ BF w wr [(w.heap.size + 1 + 1 + 1, stA q, 54), (w.heap.size, stA p, 54), (w.heap.size + 1, #[.int .i64 lo, .int .i64 hi], 43), (w.heap.size + 1 + 1, stA fun _ => false, 54)] ∧ ∀ i, i < 3000 → (q i = true ↔ LivP p (lo, hi) n i)) (fun i _ => (3000 - intOf i).toNat)
  case atStart => exact ⟨0, fun _ => false, rfl, by omega, HA0.out, fun i _ => ⟨fun h => (by cases h), fun ⟨a, h, _⟩ => absurd h (Nat.not_lt_zero _)⟩⟩
  case round =>
    obtain ⟨n, q, rfl, hn, hbf, hq⟩ := hrel
    rename World => wx
    have HA := Lib.hid hbf; have HQ := Lib.hid hq
    clear hbf HA0 hq
    have ni : (0 : Int) ≤ (n : Int) := by omega
    by_cases hc : n < 3000
    · as_aux_lemma =>
      have nj : (n : Int) < 3000 := by omega
      have c0 : wx.cell? ⟨w.heap.size + 1, 0, none⟩ = some (.int .i64 lo) := HA.out.cell (.tail _ (.tail _ (.head _))) 0
      have c1 : wx.cell? ⟨w.heap.size + 1, 1, none⟩ = some (.int .i64 hi) := HA.out.cell (.tail _ (.tail _ (.head _))) 1
      have f1 : wx.cell? ⟨w.heap.size, n, none⟩ = some (.bool (p n)) := HA.out.stcell (.tail _ (.head _)) hc
      obtain ⟨a, ha⟩ : ∃ a, p n = a := ⟨_, rfl⟩
      have HPN := Lib.hid ha
      rw [ha] at f1
      clear ha
      cases a
      · clear c0 c1
        go_wp2_with fail
        go_roundw
        case rel => exact ⟨n + 1, q, by go_num, by omega, HA.out, fun i hi => (HQ.out i hi).trans (by rw [LivP.step, HPN.out]; simp)⟩
        case measure => simp [intOf]; omega
      obtain ⟨dl, dh, HDD⟩ : ∃ dl dh, Hid (deadR (lo, hi) (n : Int) = (dl, dh)) := ⟨_, _, rfl⟩
      have hdb := HDB.out (n : Int) ni (by omega)
      have hde := HDE.out (n : Int) ni (by omega)
      rw [HDD.out] at hdb hde
      obtain ⟨d1, d2, d3, d4⟩ := hdb
      simp only at d1 d2 d3 d4
      have HDC : Hid (∀ X, Calls Try.prog 69 #[.int .i64 (n : Int), .agg #[.int .i64 lo, .int .i64 hi]] X fun e w' => e = .returned (.agg #[.int .i64 dl, .int .i64 dh]) ∧ Below X.heap.size X w') := fun X => by
        have h := rDeadW_any (n : Int) lo hi X
        rw [hde] at h
        exact h
      clear hde
      go_wp2_with fail
      refine (HDC.out _).mono ?_
      rintro _ w2 ⟨rfl, hb2⟩
      have HA2 := Lib.hid ((HA.out.below hb2).alloc #[.int .i64 dl, .int .i64 dh] 43)
      have hlt : w.heap.size + 1 + 1 + 1 < w2.heap.size := ((HA.out.below hb2).lt (.head _)).2
      clear hb2 HA c0 c1 f1
      obtain ⟨D, hD⟩ : ∃ D, D = w2.heap.size := ⟨_, rfl⟩
      have HDN : Hid (D ≠ w.heap.size + 1 + 1 + 1) := by unfold Hid; omega
      have HA : Hid (BF w (w2.alloc (.cells #[.int .i64 dl, .int .i64 dh] 43)) [(w.heap.size + 1 + 1 + 1, stA q, 54), (D, #[.int .i64 dl, .int .i64 dh], 43), (w.heap.size, stA p, 54), (w.heap.size + 1, #[.int .i64 lo, .int .i64 hi], 43), (w.heap.size + 1 + 1, stA fun _ => false, 54)]) := by
        rw [hD]
        exact HA2.out.sub (List.forall_mem_cons.2 ⟨.tail _ (.head _), List.forall_mem_cons.2 ⟨.head _, List.forall_mem_cons.2 ⟨.tail _ (.tail _ (.head _)), List.forall_mem_cons.2 ⟨.tail _ (.tail _ (.tail _ (.head _))), List.forall_mem_cons.2 ⟨.tail _ (.tail _ (.tail _ (.tail _ (.head _)))), List.forall_mem_nil _⟩⟩⟩⟩⟩)
      have k0 : (w2.alloc (.cells #[.int .i64 dl, .int .i64 dh] 43)).cell? ⟨w2.heap.size, 0, none⟩ = some (.int .i64 dl) := HA2.out.cell (.head _) 0
      clear HA2 hlt
      go_wp2_with fail
      clear k0
      generalize (w2.alloc (.cells #[.int .i64 dl, .int .i64 dh] 43)) = w3 at *
      rw [← hD]
      clear hD
      go_loopw [8] (fun j wr => ∃ (m : Int) (q : Nat → Bool), j = .int .i64 m ∧ dl ≤ m ∧ (m ≤ dh + 1 ∨ m = dl) ∧ BF w wr [(w.heap.size + 1 + 1 + 1, stA q, 54), (D, #[.int .i64 dl, .int .i64 dh], 43), (w.heap.size, stA p, 54), (w.heap.size + 1, #[.int .i64 lo, .int .i64 hi], 43), (w.heap.size + 1 + 1, stA fun _ => false, 54)] ∧ ∀ i, i < 3000 → (q i = true ↔ (LivP p (lo, hi) n i ∨ (i ≤ n ∧ dl ≤ (n : Int) - i ∧ (n : Int) - i < m)))) (fun j _ => (4000 - intOf j).toNat)
      case atStart => exact ⟨dl, q, rfl, by omega, .inr rfl, HA.out, fun i hi => (HQ.out i hi).trans ⟨.inl, fun h => h.elim id (fun ⟨_, a, b⟩ => by omega)⟩⟩
      case round =>
        clear HA HQ
        obtain ⟨m, q, rfl, hml, hmq, hbf, hq⟩ := hrel
        rename World => wy
        have HA := Lib.hid hbf; have HQ := Lib.hid hq
        clear hbf hq
        have hm1 : m ≤ 3002 := by omega
        have hm2 : 0 ≤ m := by omega
        have c1 : wy.cell? ⟨D, 1, none⟩ = some (.int .i64 dh) := HA.out.cell (.tail _ (.head _)) 1
        by_cases hmh : m ≤ dh ∧ m ≤ n
        · obtain ⟨hmh, hmn⟩ := hmh
          obtain ⟨k, hk⟩ : ∃ k : Nat, (n : Int) - m = (k : Int) := ⟨((n : Int) - m).toNat, by omega⟩
          have hk3 : k < 3000 := by omega
          have hki : (0 : Int) ≤ (k : Int) := by omega
          have hkj : (k : Int) < 3000 := by omega
          have f2 : wy.cell? ⟨w.heap.size + 1 + 1 + 1, k, none⟩ = some (.bool (q k)) := HA.out.stcell (.head _) hk3
          have f3 : wy.frozen? ⟨w.heap.size + 1 + 1 + 1, k, none⟩ = false := HA.out.thaw (.head _) k
          have HS : Hid (BF w (wy.setCell ⟨w.heap.size + 1 + 1 + 1, k, none⟩ (.bool true)) [(w.heap.size + 1 + 1 + 1, stA (fun i => if i = k then true else q i), 54), (D, #[.int .i64 dl, .int .i64 dh], 43), (w.heap.size, stA p, 54), (w.heap.size + 1, #[.int .i64 lo, .int .i64 hi], 43), (w.heap.size + 1 + 1, stA fun _ => false, 54)]) := HA.out.stput (.head _) true hk3 (List.forall_mem_cons.2 ⟨⟨HDN.out, .tail _ (.head _)⟩, List.forall_mem_cons.2 ⟨⟨show w.heap.size ≠ w.heap.size + 1 + 1 + 1 by omega, .tail _ (.tail _ (.head _))⟩, List.forall_mem_cons.2 ⟨⟨show w.heap.size + 1 ≠ w.heap.size + 1 + 1 + 1 by omega, .tail _ (.tail _ (.tail _ (.head _)))⟩, List.forall_mem_cons.2 ⟨⟨show w.heap.size + 1 + 1 ≠ w.heap.size + 1 + 1 + 1 by omega, .tail _ (.tail _ (.tail _ (.tail _ (.head _))))⟩, List.forall_mem_nil _⟩⟩⟩⟩)
          have HQ2 : Hid (∀ i, i < 3000 → ((if i = k then true else q i) = true ↔ (LivP p (lo, hi) n i ∨ (i ≤ n ∧ dl ≤ (n : Int) - i ∧ (n : Int) - i < m + 1)))) := fun i hi => iff_put (HQ.out i hi) (fun e => .inr ⟨by omega, by omega, by omega⟩) (fun h e => h.elim .inl (fun ⟨a, b, c⟩ => .inr ⟨a, b, by omega⟩)) (fun h => h.elim .inl (fun ⟨a, b, c⟩ => .inr ⟨a, b, by omega⟩))
          have HMQ : Hid (m + 1 ≤ dh + 1 ∨ m + 1 = dl) := .inl (by omega)
          have HML : Hid (dl ≤ m + 1) := by unfold Hid; omega
          have HME : Hid ((4000 - (m + 1)).toNat < (4000 - m).toNat) := by unfold Hid; omega
          clear HA HQ hmq
          go_wp2_with fail
          go_roundw
          case rel => exact ⟨m + 1, _, by go_num, HML.out, HMQ.out, HS.out, HQ2.out⟩
          case measure => simp [intOf]; omega
        · have HQ2 : Hid (∀ i, i < 3000 → (q i = true ↔ LivP p (lo, hi) (n + 1) i)) := fun i hi => (HQ.out i hi).trans (by
            rw [LivP.step, HDD.out]
            simp only
            exact ⟨fun h => h.elim .inl (fun ⟨a, b, c⟩ => .inr ⟨HPN.out, a, b, by omega⟩), fun h => h.elim .inl (fun ⟨a, b, c, d⟩ => .inr ⟨b, c, by omega⟩)⟩)
          have HA4 := Lib.hid (HA.out.sub (List.forall_mem_cons.2 ⟨.head _, List.forall_mem_cons.2 ⟨.tail _ (.tail _ (.head _)), List.forall_mem_cons.2 ⟨.tail _ (.tail _ (.tail _ (.head _))), List.forall_mem_cons.2 ⟨.tail _ (.tail _ (.tail _ (.tail _ (.head _)))), List.forall_mem_nil _⟩⟩⟩⟩))
          clear hmq HA
          by_cases hx : m ≤ dh
          all_goals
            first | have hy : ¬ m ≤ n := by omega | skip
            clear hmh
            go_wp2_with fail
            go_roundw
            case rel => exact ⟨n + 1, q, by go_num, by omega, HA4.out, HQ2.out⟩
            case measure => simp [intOf]; omega
    · obtain rfl : n = 3000 := by omega
      have HG : Hid (wx.heap[w.heap.size + 1 + 1 + 1]? = some (.cells (stA q) 54 (0, 0))) := (HA.out.bk _ _ _ (.head _)).2
      have HR : Hid (wx.heap[w.heap.size + 1 + 1]? = some (.cells (stA fun _ => false) 54 (0, 0))) := (HA.out.bk _ _ _ (.tail _ (.tail _ (.tail _ (.head _))))).2
      go_upto_region 11 with (fail)
      have HSZ := Lib.hid (stA_info q)
      refine wp_region_lit ?_
      refine wpList_load_row (o := ⟨some 36, _, _, _, _, _⟩) rfl 54 (.tmp 5) rfl (w.heap.size + 1 + 1 + 1) rfl 54 (stA q) (0, 0) _ HG.out Try.underlying54 rfl HSZ.out ?_
      refine wpList_store_row (o := ⟨none, .store 54 (.tmp 4) (.tmp 36), _, _, _, _⟩) rfl 54 (.tmp 4) (.tmp 36) rfl (w.heap.size + 1 + 1) (stA q) rfl rfl 54 (stA fun _ => false) HR.out HSZ.out rfl (stA_one _) ?_
      go_wp2_with fail
      refine bodyPost_ret (v := .agg (stA q)) (results_cell_row rfl _ _ (w.heap.size + 1 + 1) 54 _ (0, 0) _ rfl (setRow_heap _ _ _ _ _ _ HR.out) Try.underlying54 rfl HSZ.out) rfl ⟨q, rfl, HQ.out, ?_⟩
      exact HA.out.fr.trans ⟨rfl, rfl, rfl, by simp, fun q hq => setRow_other _ _ _ _ (by omega)⟩

end Go.Proofs.Ytjaoflfophcibaa
