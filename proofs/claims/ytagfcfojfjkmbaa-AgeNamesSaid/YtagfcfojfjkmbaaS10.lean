/- AgeCounts: the walk. -/
import Derived.Test.YtagfcfojfjkmbaaS9
import Derived.Test.YtagfcfojfjkmbaaE2
import Derived.Test.YtagfcfojfjkmbaaI4
namespace Go.Proofs.Ytagfcfojfjkmbaa
open Go.RowKit Go.Shelf Go.Maps

theorem in_bd {n lo hi : Int} (h : inB n lo hi = true) : lo ≤ n ∧ n ≤ hi := by simpa [inB] using h
theorem cntV_form (f b m e lo hi : Int) (z : Nat → Int) (n : Nat) : ∃ c0 c1 ce : Int, cntV f b m e lo hi z n = .tuple #[.agg #[.int .i64 c0, .int .i64 c1], .int .i64 ce] := by
  unfold cntV
  split
  · unfold cntRes; split <;> exact ⟨_, _, _, rfl⟩
  · exact ⟨_, _, _, rfl⟩

theorem cntV_err {f b m e lo hi c0 c1 ce : Int} {z : Nat → Int} {n : Nat} (h : cntV f b m e lo hi z n = .tuple #[.agg #[.int .i64 c0, .int .i64 c1], .int .i64 ce]) {k : Int} (hk : cntErr f b m e lo hi z n = k) (h0 : k ≠ 0) : c0 = 0 ∧ c1 = 0 ∧ ce = k := by
  unfold cntV at h
  rw [hk, if_neg h0] at h
  simp at h
  exact ⟨h.1.1.symm, h.1.2.symm, h.2.symm⟩
theorem cntV_fail {f b m e lo hi c0 c1 ce : Int} {z : Nat → Int} {n : Nat} (h : cntV f b m e lo hi z n = .tuple #[.agg #[.int .i64 c0, .int .i64 c1], .int .i64 ce]) (hk : cntErr f b m e lo hi z n = 0) (ho : cntOk (cntI f b m e lo hi) (cntO f b m e lo hi) z n = false) : c0 = 0 ∧ c1 = 0 ∧ ce = 9 := by
  unfold cntV at h
  rw [hk, if_pos rfl, cntRes_bad ho] at h
  simp at h
  exact ⟨h.1.1.symm, h.1.2.symm, h.2.symm⟩
theorem cntV_good {f b m e lo hi c0 c1 ce : Int} {z : Nat → Int} {n : Nat} (h : cntV f b m e lo hi z n = .tuple #[.agg #[.int .i64 c0, .int .i64 c1], .int .i64 ce]) (hk : cntErr f b m e lo hi z n = 0) (ho : cntOk (cntI f b m e lo hi) (cntO f b m e lo hi) z n = true) :
    c0 = cLo (cntI f b m e lo hi) (cntO f b m e lo hi) z n ∧ c1 = cHi (cntI f b m e lo hi) z n ∧ ce = 0 := by
  unfold cntV at h
  rw [hk, if_pos rfl, cntRes_ok ho] at h
  simp at h
  exact ⟨h.1.1.symm, h.1.2.symm, h.2.symm⟩

theorem step_store_row {P : Program} {ops : Array Oper} {o : Oper} {a : Act} {w : World} {K : Act → World → Prop} {Q : Exit → Act → World → Prop} {E : Prop} (hgd : o.guard = none) (ty : TypeId) (x y : Operand) (ho : o.op = .store ty x y)
    (g : Nat) (cells : Array Value) (hx : a.eval x = .pointer (some ⟨g, 0, none⟩)) (hy : a.eval y = .agg cells)
    (t : TypeId) (old : Array Value) (hg : w.heap[g]? = some (.cells old t (0, 0))) (hi : (P.info? ty).map (·.size) = some cells.size)
    (hold : old.size = cells.size) (h1 : cells.all (·.oneCell') = true)
    (h : K (a.put o.dst undef) (w.setRow g cells)) : if Region.wanted o (yielded ops a.tmps) = true then Oper.wp P o a w K Q else E := by
  have hw : Region.wanted o (yielded ops a.tmps) = true := by simp [Region.wanted, hgd]
  rw [if_pos hw]
  exact wp_store_row ty x y ho g cells hx hy t old hg hi hold h1 h
attribute [local go_sem ↓] Go.wp_at_zero Go.wp_at_succ
set_option maxRecDepth 100000 in
set_option maxHeartbeats 8000000 in
theorem ageCounts_walk (f b m e lo hi : Int) (sv : Value) (n : Nat) (z : Nat → Int) (w : World) (hz : IntsIn w sv n z) (hn : n ≤ maxLen) :
    Calls Try.prog 17 #[.agg #[.int .i64 f, .int .i64 b, .int .i64 m, .int .i64 e], sv, .agg #[.int .i64 lo, .int .i64 hi]] w fun r w' => r = .returned (.bool true) ∧ Below w.heap.size w w' := by
  have HAW := Lib.hid awake_any
  obtain ⟨a, cap, rfl⟩ := hz.len
  unfold maxLen at hn
  have HZ := Lib.hid hz; clear hz
  have HB0 : Hid (Below w.heap.size w ((w.alloc (.cells #[.int .i64 f, .int .i64 b, .int .i64 m, .int .i64 e] 77)).alloc (.cells #[.int .i64 lo, .int .i64 hi] 32))) := (below_alloc _ _).alloc (by simp) _
  by_cases h220 : 220 < n
  · go_enter Try.func17, Try.ntmps17
    go_wp2_with (go_at_call 20; refine (HAW.out _).mono ?_; rintro e w1 ⟨rfl, hb1⟩)
    go_ret
    exact ⟨rfl, below_step HB0.out hb1⟩
  have HK0 : Hid (((w.alloc (.cells #[.int .i64 f, .int .i64 b, .int .i64 m, .int .i64 e] 77)).alloc (.cells #[.int .i64 lo, .int .i64 hi] 32)).heap[w.heap.size]? = some (.cells #[.int .i64 f, .int .i64 b, .int .i64 m, .int .i64 e] 77 (0, 0))) := ((below_alloc (w.alloc (.cells #[.int .i64 f, .int .i64 b, .int .i64 m, .int .i64 e] 77)) (.cells #[.int .i64 lo, .int .i64 hi] 32)).block _ (by simp)).trans (heap_alloc_new _ _)
  have HK1 : Hid (((w.alloc (.cells #[.int .i64 f, .int .i64 b, .int .i64 m, .int .i64 e] 77)).alloc (.cells #[.int .i64 lo, .int .i64 hi] 32)).heap[w.heap.size + 1]? = some (.cells #[.int .i64 lo, .int .i64 hi] 32 (0, 0))) := by
    have := heap_alloc_new (w.alloc (.cells #[.int .i64 f, .int .i64 b, .int .i64 m, .int .i64 e] 77)) (.cells #[.int .i64 lo, .int .i64 hi] 32)
    rw [World.size_alloc] at this; exact this
  have HCT := Lib.hid (fun v W (h : IntsAt W v n z) => count_any f b m e lo hi v n z W h (by omega))
  obtain ⟨c0, c1, ce, hcv⟩ := cntV_form f b m e lo hi z n
  rw [hcv] at HCT
  have HCV := Lib.hid hcv; clear hcv
  go_enter Try.func17, Try.ntmps17
  go_upto_region 3 with fail
  generalize ((w.alloc (.cells #[.int .i64 f, .int .i64 b, .int .i64 m, .int .i64 e] 77)).alloc (.cells #[.int .i64 lo, .int .i64 hi] 32)) = w1 at *
  have HSB : Hid (∀ X : World, Below w1.heap.size w1 X → X.cell? ⟨w.heap.size, 0, none⟩ = some (.int .i64 f) ∧ X.cell? ⟨w.heap.size, 1, none⟩ = some (.int .i64 b) ∧ X.cell? ⟨w.heap.size, 2, none⟩ = some (.int .i64 m) ∧ X.cell? ⟨w.heap.size, 3, none⟩ = some (.int .i64 e) ∧ X.cell? ⟨w.heap.size + 1, 0, none⟩ = some (.int .i64 lo) ∧ X.cell? ⟨w.heap.size + 1, 1, none⟩ = some (.int .i64 hi)) := fun X hX => by
    obtain ⟨a0, a1, a2, a3⟩ := cells4 ((hX.block _ (Array.getElem?_eq_some_iff.1 HK0.out).1).trans HK0.out)
    have k1 := (hX.block _ (Array.getElem?_eq_some_iff.1 HK1.out).1).trans HK1.out
    exact ⟨a0, a1, a2, a3, cell_of_row _ _ 0 _ _ _ k1, cell_of_row _ _ 1 _ _ _ k1⟩
  go_cut [7, 8] (fun s7 s8 wx => ∃ B7 : Nat, s7 = .pointer (some ⟨B7, 0, none⟩) ∧ s8 = .int .i64 ce ∧ wx.heap[B7]? = some (.cells #[.int .i64 c0, .int .i64 c1] 41 (0, 0)) ∧ Below w1.heap.size w1 wx ∧ w1.heap.size ≤ B7)
  case first =>
    have HM : Hid (Below w1.heap.size w1 w1.drew) := (Below.refl _ _).drew
    refine wp_region_held_drew (S := fun X => X.cell? ⟨w.heap.size, 0, none⟩ = some (.int .i64 f) ∧ X.cell? ⟨w.heap.size, 1, none⟩ = some (.int .i64 b) ∧ X.cell? ⟨w.heap.size, 2, none⟩ = some (.int .i64 m) ∧ X.cell? ⟨w.heap.size, 3, none⟩ = some (.int .i64 e) ∧ X.cell? ⟨w.heap.size + 1, 0, none⟩ = some (.int .i64 lo) ∧ X.cell? ⟨w.heap.size + 1, 1, none⟩ = some (.int .i64 hi)) (by kernel_rfl) (HSB.out _ HM.out) (fun hS => ?_)
    generalize World.drew w1 = X at *
    refine wpAnyH_take (i := 0) (oi := ⟨some 22, Op.load 77 (Operand.tmp 3), _, _, _, _⟩) (v := .agg #[.int .i64 f, .int .i64 b, .int .i64 m, .int .i64 e]) rfl (by kernel_rfl) (by kernel_rfl) (by kernel_rfl) (fun _ _ _ h => h) (Or.inl ⟨by rfl, ?_⟩) hS ?_
    · intro W' hSw; (try dsimp only at hSw); obtain ⟨s0, s1, s2, s3, s4, s5⟩ := hSw; go_simp
    try simp only [Act.put, List.setIfInBounds_toArray, List.set_cons_zero, List.set_cons_succ]
    refine wpAnyH_take (i := 2) (oi := ⟨some 24, Op.move (Operand.tmp 1), _, _, _, _⟩) (v := .slice a n cap) rfl (by kernel_rfl) (by kernel_rfl) (by kernel_rfl) (fun _ _ _ h => h) (Or.inl ⟨by rfl, ?_⟩) hS ?_
    · intro W' hSw; (try dsimp only at hSw); obtain ⟨s0, s1, s2, s3, s4, s5⟩ := hSw; go_simp
    try simp only [Act.put, List.setIfInBounds_toArray, List.set_cons_zero, List.set_cons_succ]
    refine wpAnyH_take (i := 4) (oi := ⟨some 26, Op.fieldAddr 32 (Operand.tmp 5) 0, _, _, _, _⟩) (v := .pointer (some ⟨w.heap.size + 1, 0, none⟩)) rfl (by kernel_rfl) (by kernel_rfl) (by kernel_rfl) (fun _ _ _ h => h) (Or.inl ⟨by rfl, ?_⟩) hS ?_
    · intro W' hSw; (try dsimp only at hSw); obtain ⟨s0, s1, s2, s3, s4, s5⟩ := hSw; go_simp
    try simp only [Act.put, List.setIfInBounds_toArray, List.set_cons_zero, List.set_cons_succ]
    refine wpAnyH_take (i := 5) (oi := ⟨some 27, Op.load 3 (Operand.tmp 26), _, _, _, _⟩) (v := .int .i64 lo) rfl (by kernel_rfl) (by kernel_rfl) (by kernel_rfl) (fun _ _ _ h => h) (Or.inl ⟨by rfl, ?_⟩) hS ?_
    · intro W' hSw; (try dsimp only at hSw); obtain ⟨s0, s1, s2, s3, s4, s5⟩ := hSw; go_simp
    try simp only [Act.put, List.setIfInBounds_toArray, List.set_cons_zero, List.set_cons_succ]
    refine wpAnyH_take (i := 6) (oi := ⟨some 28, Op.fieldAddr 32 (Operand.tmp 5) 1, _, _, _, _⟩) (v := .pointer (some ⟨w.heap.size + 1, 1, none⟩)) rfl (by kernel_rfl) (by kernel_rfl) (by kernel_rfl) (fun _ _ _ h => h) (Or.inl ⟨by rfl, ?_⟩) hS ?_
    · intro W' hSw; (try dsimp only at hSw); obtain ⟨s0, s1, s2, s3, s4, s5⟩ := hSw; go_simp
    try simp only [Act.put, List.setIfInBounds_toArray, List.set_cons_zero, List.set_cons_succ]
    refine wpAnyH_take (i := 7) (oi := ⟨some 29, Op.load 3 (Operand.tmp 28), _, _, _, _⟩) (v := .int .i64 hi) rfl (by kernel_rfl) (by kernel_rfl) (by kernel_rfl) (fun _ _ _ h => h) (Or.inl ⟨by rfl, ?_⟩) hS ?_
    · intro W' hSw; (try dsimp only at hSw); obtain ⟨s0, s1, s2, s3, s4, s5⟩ := hSw; go_simp
    try simp only [Act.put, List.setIfInBounds_toArray, List.set_cons_zero, List.set_cons_succ]
    refine wpAnyH_ready (rs := [1, 13]) (by kernel_rfl) (by simp) ?_
    refine AllReadyH.cons (o := ⟨some 23, Op.call { callee := Callee.value (Operand.func 48), args := #[Operand.tmp 22], argTypes := #[77] }, _, _, _, _⟩) rfl (fun K hK => ?_) ?_
    ·
      go_simp
      refine (rule_any f b m e X).mono ?_
      rintro _ X0 ⟨rfl, hx0⟩
      (try go_wp2_with fail)
      have HM0 := Lib.hid (below_step HM.out hx0)
      refine hK.out _ _ (HSB.out _ HM0.out) (fun hS => ?_)
      clear hK K
      try simp only [Act.put, List.setIfInBounds_toArray, List.set_cons_zero, List.set_cons_succ]
      clear hx0
      refine wpAnyH_ready (rs := [3, 13]) (by kernel_rfl) (by simp) ?_
      refine AllReadyH.cons (o := ⟨some 25, Op.call { callee := Callee.value (Operand.func 22), args := #[Operand.tmp 24], argTypes := #[22] }, _, _, _, _⟩) rfl (fun K hK => ?_) ?_
      ·
        go_simp
        refine (list_any _ n z X0 (HZ.out.below (below_step HB0.out HM0.out)) (by omega)).mono ?_
        rintro _ X1 ⟨v1, rfl, hi1, hx1⟩
        (try go_wp2_with fail)
        have HM1 := Lib.hid (below_step HM0.out hx1)
        have HV1 := Lib.hid hi1
        refine hK.out _ _ (HSB.out _ HM1.out) (fun hS => ?_)
        clear hK K
        try simp only [Act.put, List.setIfInBounds_toArray, List.set_cons_zero, List.set_cons_succ]
        clear hx1
        refine wpAnyH_ready (rs := [8, 13]) (by kernel_rfl) (by simp) ?_
        refine AllReadyH.cons (o := ⟨some 30, Op.call { callee := Callee.value (Operand.func 41), args := #[Operand.tmp 27, Operand.tmp 29], argTypes := #[3, 3] }, _, _, _, _⟩) rfl (fun K hK => ?_) ?_
        ·
          go_simp
          refine (between_any lo hi X1).mono ?_
          rintro _ X2 ⟨rfl, hx2⟩
          (try go_wp2_with fail)
          have HM2 := Lib.hid (below_step HM1.out hx2)
          have HV2 := Lib.hid (HV1.out.below hx2)
          refine hK.out _ _ (HSB.out _ HM2.out) (fun hS => ?_)
          clear hK K
          try simp only [Act.put, List.setIfInBounds_toArray, List.set_cons_zero, List.set_cons_succ]
          clear hx2
          refine wpAnyH_ready (rs := [9, 13]) (by kernel_rfl) (by simp) ?_
          refine AllReadyH.cons (o := ⟨some 31, Op.call { callee := Callee.value (Operand.func 59), args := #[Operand.tmp 23, Operand.tmp 25, Operand.tmp 30], argTypes := #[80, 22, 41] }, _, _, _, _⟩) rfl (fun K hK => ?_) ?_
          ·
            go_simp
            refine (HCT.out _ X2 HV2.out).mono ?_
            rintro _ X3 ⟨rfl, hx3⟩
            (try go_wp2_with fail)
            have HM3 := Lib.hid (below_step HM2.out hx3)
            have HV3 := Lib.hid (HV2.out.below hx3)
            refine hK.out _ _ (HSB.out _ HM3.out) (fun hS => ?_)
            clear hK K
            try simp only [Act.put, List.setIfInBounds_toArray, List.set_cons_zero, List.set_cons_succ]
            clear hx3
            refine wpAnyH_take (i := 10) (oi := ⟨some 21, Op.move (Operand.tmp 31), _, _, _, _⟩) (v := .tuple #[.agg #[.int .i64 c0, .int .i64 c1], .int .i64 ce]) rfl (by kernel_rfl) (by kernel_rfl) (by kernel_rfl) (fun _ _ _ h => h) (Or.inl ⟨by rfl, ?_⟩) hS ?_
            · intro W' hSw; (try dsimp only at hSw); obtain ⟨s0, s1, s2, s3, s4, s5⟩ := hSw; go_simp
            try simp only [Act.put, List.setIfInBounds_toArray, List.set_cons_zero, List.set_cons_succ]
            refine wpAnyH_take (i := 11) (oi := ⟨some 32, Op.extract (Operand.tmp 21) 0, _, _, _, _⟩) (v := .agg #[.int .i64 c0, .int .i64 c1]) rfl (by kernel_rfl) (by kernel_rfl) (by kernel_rfl) (fun _ _ _ h => h) (Or.inl ⟨by rfl, ?_⟩) hS ?_
            · intro W' hSw; (try dsimp only at hSw); obtain ⟨s0, s1, s2, s3, s4, s5⟩ := hSw; go_simp
            try simp only [Act.put, List.setIfInBounds_toArray, List.set_cons_zero, List.set_cons_succ]
            refine wpAnyH_take (i := 12) (oi := ⟨some 33, Op.extract (Operand.tmp 21) 1, _, _, _, _⟩) (v := .int .i64 ce) rfl (by kernel_rfl) (by kernel_rfl) (by kernel_rfl) (fun _ _ _ h => h) (Or.inl ⟨by rfl, ?_⟩) hS ?_
            · intro W' hSw; (try dsimp only at hSw); obtain ⟨s0, s1, s2, s3, s4, s5⟩ := hSw; go_simp
            try simp only [Act.put, List.setIfInBounds_toArray, List.set_cons_zero, List.set_cons_succ]
            refine wpAnyH_ready (rs := [13]) (by kernel_rfl) (by simp) ?_
            refine AllReadyH.cons (o := ⟨some 7, Op.alloc 41, _, _, _, _⟩) rfl (fun K hK => ?_) ?_
            ·
              go_simp
              have HG4 : Hid (w1.heap.size ≤ X3.heap.size) := HM3.out.size
              have HM4 := Lib.hid (below_step HM3.out (below_alloc X3 (.cells #[.int .i64 0, .int .i64 0] 41)))
              have HV4 := Lib.hid (HV3.out.below (below_alloc X3 (.cells #[.int .i64 0, .int .i64 0] 41)))
              have HN4 : Hid ((X3.alloc (.cells #[.int .i64 0, .int .i64 0] 41)).heap[X3.heap.size]? = some (.cells #[.int .i64 0, .int .i64 0] 41 (0, 0))) := heap_alloc_new X3 _
              refine hK.out _ _ (HSB.out _ HM4.out) (fun hS => ?_)
              clear hK K
              try simp only [Act.put, List.setIfInBounds_toArray, List.set_cons_zero, List.set_cons_succ]
              generalize X3.heap.size = BN4 at *
              generalize X3.alloc (.cells #[.int .i64 0, .int .i64 0] 41) = X4 at *
              refine wpAnyH_ready (rs := [14]) (by kernel_rfl) (by simp) ?_
              refine AllReadyH.cons (o := ⟨none, Op.store 41 (Operand.tmp 7) (Operand.tmp 32), _, _, _, _⟩) rfl (fun K hK => ?_) ?_
              ·
                have eb := HN4.out
                have e0 := cell_of_row _ _ 0 _ _ _ eb
                have e1 := cell_of_row _ _ 1 _ _ _ eb
                have f0 := frozen_of_row _ _ 0 _ _ eb
                have f1 := frozen_of_row _ _ 1 _ _ eb
                have HM5 : Hid (Below w1.heap.size w1 ((X4.setCell ⟨BN4, 0, none⟩ (.int .i64 c0)).setCell ⟨BN4, 1, none⟩ (.int .i64 c1))) := (HM4.out.setCell HG4.out _).setCell HG4.out _
                have HN5 : Hid (((X4.setCell ⟨BN4, 0, none⟩ (.int .i64 c0)).setCell ⟨BN4, 1, none⟩ (.int .i64 c1)).heap[BN4]? = some (.cells #[.int .i64 c0, .int .i64 c1] 41 (0, 0))) := by unfold Hid; simp [World.setCell, Array.getElem?_modify, eb]
                clear eb
                go_simp
                refine hK.out _ _ (HSB.out _ HM5.out) (fun hS => ?_)
                clear hK K
                try simp only [Act.put, List.setIfInBounds_toArray, List.set_cons_zero, List.set_cons_succ]
                clear e0 e1 f0 f1
                refine wpAnyH_take (i := 15) (oi := ⟨some 8, Op.assign (Operand.tmp 33), _, _, _, _⟩) (v := .int .i64 ce) rfl (by kernel_rfl) (by kernel_rfl) (by kernel_rfl) (fun _ _ _ h => h) (Or.inl ⟨by rfl, ?_⟩) hS ?_
                · intro W' hSw; (try dsimp only at hSw); obtain ⟨s0, s1, s2, s3, s4, s5⟩ := hSw; go_simp
                try simp only [Act.put, List.setIfInBounds_toArray, List.set_cons_zero, List.set_cons_succ]
                refine wpAnyH_done (by kernel_rfl) ?_ _
                go_wp2_with fail
                go_meet
                exact ⟨BN4, rfl, rfl, HN5.out, HM5.out, HG4.out⟩
              exact AllReadyH.nil
            exact AllReadyH.nil
          refine AllReadyH.cons (o := ⟨some 7, Op.alloc 41, _, _, _, _⟩) rfl (fun K hK => ?_) ?_
          ·
            go_simp
            have HG6 : Hid (w1.heap.size ≤ X2.heap.size) := HM2.out.size
            have HM6 := Lib.hid (below_step HM2.out (below_alloc X2 (.cells #[.int .i64 0, .int .i64 0] 41)))
            have HV6 := Lib.hid (HV2.out.below (below_alloc X2 (.cells #[.int .i64 0, .int .i64 0] 41)))
            have HN6 : Hid ((X2.alloc (.cells #[.int .i64 0, .int .i64 0] 41)).heap[X2.heap.size]? = some (.cells #[.int .i64 0, .int .i64 0] 41 (0, 0))) := heap_alloc_new X2 _
            refine hK.out _ _ (HSB.out _ HM6.out) (fun hS => ?_)
            clear hK K
            try simp only [Act.put, List.setIfInBounds_toArray, List.set_cons_zero, List.set_cons_succ]
            generalize X2.heap.size = BN6 at *
            generalize X2.alloc (.cells #[.int .i64 0, .int .i64 0] 41) = X6 at *
            refine wpAnyH_ready (rs := [9]) (by kernel_rfl) (by simp) ?_
            refine AllReadyH.cons (o := ⟨some 31, Op.call { callee := Callee.value (Operand.func 59), args := #[Operand.tmp 23, Operand.tmp 25, Operand.tmp 30], argTypes := #[80, 22, 41] }, _, _, _, _⟩) rfl (fun K hK => ?_) ?_
            ·
              go_simp
              refine (HCT.out _ X6 HV6.out).mono ?_
              rintro _ X7 ⟨rfl, hx7⟩
              (try go_wp2_with fail)
              have HM7 := Lib.hid (below_step HM6.out hx7)
              have HN7 := Lib.hid ((hx7.block _ (Array.getElem?_eq_some_iff.1 HN6.out).1).trans HN6.out)
              have HV7 := Lib.hid (HV6.out.below hx7)
              refine hK.out _ _ (HSB.out _ HM7.out) (fun hS => ?_)
              clear hK K
              try simp only [Act.put, List.setIfInBounds_toArray, List.set_cons_zero, List.set_cons_succ]
              clear hx7
              refine wpAnyH_take (i := 10) (oi := ⟨some 21, Op.move (Operand.tmp 31), _, _, _, _⟩) (v := .tuple #[.agg #[.int .i64 c0, .int .i64 c1], .int .i64 ce]) rfl (by kernel_rfl) (by kernel_rfl) (by kernel_rfl) (fun _ _ _ h => h) (Or.inl ⟨by rfl, ?_⟩) hS ?_
              · intro W' hSw; (try dsimp only at hSw); obtain ⟨s0, s1, s2, s3, s4, s5⟩ := hSw; go_simp
              try simp only [Act.put, List.setIfInBounds_toArray, List.set_cons_zero, List.set_cons_succ]
              refine wpAnyH_take (i := 11) (oi := ⟨some 32, Op.extract (Operand.tmp 21) 0, _, _, _, _⟩) (v := .agg #[.int .i64 c0, .int .i64 c1]) rfl (by kernel_rfl) (by kernel_rfl) (by kernel_rfl) (fun _ _ _ h => h) (Or.inl ⟨by rfl, ?_⟩) hS ?_
              · intro W' hSw; (try dsimp only at hSw); obtain ⟨s0, s1, s2, s3, s4, s5⟩ := hSw; go_simp
              try simp only [Act.put, List.setIfInBounds_toArray, List.set_cons_zero, List.set_cons_succ]
              refine wpAnyH_take (i := 12) (oi := ⟨some 33, Op.extract (Operand.tmp 21) 1, _, _, _, _⟩) (v := .int .i64 ce) rfl (by kernel_rfl) (by kernel_rfl) (by kernel_rfl) (fun _ _ _ h => h) (Or.inl ⟨by rfl, ?_⟩) hS ?_
              · intro W' hSw; (try dsimp only at hSw); obtain ⟨s0, s1, s2, s3, s4, s5⟩ := hSw; go_simp
              try simp only [Act.put, List.setIfInBounds_toArray, List.set_cons_zero, List.set_cons_succ]
              refine wpAnyH_ready (rs := [14]) (by kernel_rfl) (by simp) ?_
              refine AllReadyH.cons (o := ⟨none, Op.store 41 (Operand.tmp 7) (Operand.tmp 32), _, _, _, _⟩) rfl (fun K hK => ?_) ?_
              ·
                have eb := HN7.out
                have e0 := cell_of_row _ _ 0 _ _ _ eb
                have e1 := cell_of_row _ _ 1 _ _ _ eb
                have f0 := frozen_of_row _ _ 0 _ _ eb
                have f1 := frozen_of_row _ _ 1 _ _ eb
                have HM8 : Hid (Below w1.heap.size w1 ((X7.setCell ⟨BN6, 0, none⟩ (.int .i64 c0)).setCell ⟨BN6, 1, none⟩ (.int .i64 c1))) := (HM7.out.setCell HG6.out _).setCell HG6.out _
                have HN8 : Hid (((X7.setCell ⟨BN6, 0, none⟩ (.int .i64 c0)).setCell ⟨BN6, 1, none⟩ (.int .i64 c1)).heap[BN6]? = some (.cells #[.int .i64 c0, .int .i64 c1] 41 (0, 0))) := by unfold Hid; simp [World.setCell, Array.getElem?_modify, eb]
                clear eb
                go_simp
                refine hK.out _ _ (HSB.out _ HM8.out) (fun hS => ?_)
                clear hK K
                try simp only [Act.put, List.setIfInBounds_toArray, List.set_cons_zero, List.set_cons_succ]
                clear e0 e1 f0 f1
                refine wpAnyH_take (i := 15) (oi := ⟨some 8, Op.assign (Operand.tmp 33), _, _, _, _⟩) (v := .int .i64 ce) rfl (by kernel_rfl) (by kernel_rfl) (by kernel_rfl) (fun _ _ _ h => h) (Or.inl ⟨by rfl, ?_⟩) hS ?_
                · intro W' hSw; (try dsimp only at hSw); obtain ⟨s0, s1, s2, s3, s4, s5⟩ := hSw; go_simp
                try simp only [Act.put, List.setIfInBounds_toArray, List.set_cons_zero, List.set_cons_succ]
                refine wpAnyH_done (by kernel_rfl) ?_ _
                go_wp2_with fail
                go_meet
                exact ⟨BN6, rfl, rfl, HN8.out, HM8.out, HG6.out⟩
              exact AllReadyH.nil
            exact AllReadyH.nil
          exact AllReadyH.nil
        refine AllReadyH.cons (o := ⟨some 7, Op.alloc 41, _, _, _, _⟩) rfl (fun K hK => ?_) ?_
        ·
          go_simp
          have HG9 : Hid (w1.heap.size ≤ X1.heap.size) := HM1.out.size
          have HM9 := Lib.hid (below_step HM1.out (below_alloc X1 (.cells #[.int .i64 0, .int .i64 0] 41)))
          have HV9 := Lib.hid (HV1.out.below (below_alloc X1 (.cells #[.int .i64 0, .int .i64 0] 41)))
          have HN9 : Hid ((X1.alloc (.cells #[.int .i64 0, .int .i64 0] 41)).heap[X1.heap.size]? = some (.cells #[.int .i64 0, .int .i64 0] 41 (0, 0))) := heap_alloc_new X1 _
          refine hK.out _ _ (HSB.out _ HM9.out) (fun hS => ?_)
          clear hK K
          try simp only [Act.put, List.setIfInBounds_toArray, List.set_cons_zero, List.set_cons_succ]
          generalize X1.heap.size = BN9 at *
          generalize X1.alloc (.cells #[.int .i64 0, .int .i64 0] 41) = X9 at *
          refine wpAnyH_ready (rs := [8]) (by kernel_rfl) (by simp) ?_
          refine AllReadyH.cons (o := ⟨some 30, Op.call { callee := Callee.value (Operand.func 41), args := #[Operand.tmp 27, Operand.tmp 29], argTypes := #[3, 3] }, _, _, _, _⟩) rfl (fun K hK => ?_) ?_
          ·
            go_simp
            refine (between_any lo hi X9).mono ?_
            rintro _ X10 ⟨rfl, hx10⟩
            (try go_wp2_with fail)
            have HM10 := Lib.hid (below_step HM9.out hx10)
            have HN10 := Lib.hid ((hx10.block _ (Array.getElem?_eq_some_iff.1 HN9.out).1).trans HN9.out)
            have HV10 := Lib.hid (HV9.out.below hx10)
            refine hK.out _ _ (HSB.out _ HM10.out) (fun hS => ?_)
            clear hK K
            try simp only [Act.put, List.setIfInBounds_toArray, List.set_cons_zero, List.set_cons_succ]
            clear hx10
            refine wpAnyH_ready (rs := [9]) (by kernel_rfl) (by simp) ?_
            refine AllReadyH.cons (o := ⟨some 31, Op.call { callee := Callee.value (Operand.func 59), args := #[Operand.tmp 23, Operand.tmp 25, Operand.tmp 30], argTypes := #[80, 22, 41] }, _, _, _, _⟩) rfl (fun K hK => ?_) ?_
            ·
              go_simp
              refine (HCT.out _ X10 HV10.out).mono ?_
              rintro _ X11 ⟨rfl, hx11⟩
              (try go_wp2_with fail)
              have HM11 := Lib.hid (below_step HM10.out hx11)
              have HN11 := Lib.hid ((hx11.block _ (Array.getElem?_eq_some_iff.1 HN10.out).1).trans HN10.out)
              have HV11 := Lib.hid (HV10.out.below hx11)
              refine hK.out _ _ (HSB.out _ HM11.out) (fun hS => ?_)
              clear hK K
              try simp only [Act.put, List.setIfInBounds_toArray, List.set_cons_zero, List.set_cons_succ]
              clear hx11
              refine wpAnyH_take (i := 10) (oi := ⟨some 21, Op.move (Operand.tmp 31), _, _, _, _⟩) (v := .tuple #[.agg #[.int .i64 c0, .int .i64 c1], .int .i64 ce]) rfl (by kernel_rfl) (by kernel_rfl) (by kernel_rfl) (fun _ _ _ h => h) (Or.inl ⟨by rfl, ?_⟩) hS ?_
              · intro W' hSw; (try dsimp only at hSw); obtain ⟨s0, s1, s2, s3, s4, s5⟩ := hSw; go_simp
              try simp only [Act.put, List.setIfInBounds_toArray, List.set_cons_zero, List.set_cons_succ]
              refine wpAnyH_take (i := 11) (oi := ⟨some 32, Op.extract (Operand.tmp 21) 0, _, _, _, _⟩) (v := .agg #[.int .i64 c0, .int .i64 c1]) rfl (by kernel_rfl) (by kernel_rfl) (by kernel_rfl) (fun _ _ _ h => h) (Or.inl ⟨by rfl, ?_⟩) hS ?_
              · intro W' hSw; (try dsimp only at hSw); obtain ⟨s0, s1, s2, s3, s4, s5⟩ := hSw; go_simp
              try simp only [Act.put, List.setIfInBounds_toArray, List.set_cons_zero, List.set_cons_succ]
              refine wpAnyH_take (i := 12) (oi := ⟨some 33, Op.extract (Operand.tmp 21) 1, _, _, _, _⟩) (v := .int .i64 ce) rfl (by kernel_rfl) (by kernel_rfl) (by kernel_rfl) (fun _ _ _ h => h) (Or.inl ⟨by rfl, ?_⟩) hS ?_
              · intro W' hSw; (try dsimp only at hSw); obtain ⟨s0, s1, s2, s3, s4, s5⟩ := hSw; go_simp
              try simp only [Act.put, List.setIfInBounds_toArray, List.set_cons_zero, List.set_cons_succ]
              refine wpAnyH_ready (rs := [14]) (by kernel_rfl) (by simp) ?_
              refine AllReadyH.cons (o := ⟨none, Op.store 41 (Operand.tmp 7) (Operand.tmp 32), _, _, _, _⟩) rfl (fun K hK => ?_) ?_
              ·
                have eb := HN11.out
                have e0 := cell_of_row _ _ 0 _ _ _ eb
                have e1 := cell_of_row _ _ 1 _ _ _ eb
                have f0 := frozen_of_row _ _ 0 _ _ eb
                have f1 := frozen_of_row _ _ 1 _ _ eb
                have HM12 : Hid (Below w1.heap.size w1 ((X11.setCell ⟨BN9, 0, none⟩ (.int .i64 c0)).setCell ⟨BN9, 1, none⟩ (.int .i64 c1))) := (HM11.out.setCell HG9.out _).setCell HG9.out _
                have HN12 : Hid (((X11.setCell ⟨BN9, 0, none⟩ (.int .i64 c0)).setCell ⟨BN9, 1, none⟩ (.int .i64 c1)).heap[BN9]? = some (.cells #[.int .i64 c0, .int .i64 c1] 41 (0, 0))) := by unfold Hid; simp [World.setCell, Array.getElem?_modify, eb]
                clear eb
                go_simp
                refine hK.out _ _ (HSB.out _ HM12.out) (fun hS => ?_)
                clear hK K
                try simp only [Act.put, List.setIfInBounds_toArray, List.set_cons_zero, List.set_cons_succ]
                clear e0 e1 f0 f1
                refine wpAnyH_take (i := 15) (oi := ⟨some 8, Op.assign (Operand.tmp 33), _, _, _, _⟩) (v := .int .i64 ce) rfl (by kernel_rfl) (by kernel_rfl) (by kernel_rfl) (fun _ _ _ h => h) (Or.inl ⟨by rfl, ?_⟩) hS ?_
                · intro W' hSw; (try dsimp only at hSw); obtain ⟨s0, s1, s2, s3, s4, s5⟩ := hSw; go_simp
                try simp only [Act.put, List.setIfInBounds_toArray, List.set_cons_zero, List.set_cons_succ]
                refine wpAnyH_done (by kernel_rfl) ?_ _
                go_wp2_with fail
                go_meet
                exact ⟨BN9, rfl, rfl, HN12.out, HM12.out, HG9.out⟩
              exact AllReadyH.nil
            exact AllReadyH.nil
          exact AllReadyH.nil
        exact AllReadyH.nil
      refine AllReadyH.cons (o := ⟨some 7, Op.alloc 41, _, _, _, _⟩) rfl (fun K hK => ?_) ?_
      ·
        go_simp
        have HG13 : Hid (w1.heap.size ≤ X0.heap.size) := HM0.out.size
        have HM13 := Lib.hid (below_step HM0.out (below_alloc X0 (.cells #[.int .i64 0, .int .i64 0] 41)))
        have HN13 : Hid ((X0.alloc (.cells #[.int .i64 0, .int .i64 0] 41)).heap[X0.heap.size]? = some (.cells #[.int .i64 0, .int .i64 0] 41 (0, 0))) := heap_alloc_new X0 _
        refine hK.out _ _ (HSB.out _ HM13.out) (fun hS => ?_)
        clear hK K
        try simp only [Act.put, List.setIfInBounds_toArray, List.set_cons_zero, List.set_cons_succ]
        generalize X0.heap.size = BN13 at *
        generalize X0.alloc (.cells #[.int .i64 0, .int .i64 0] 41) = X13 at *
        refine wpAnyH_ready (rs := [3]) (by kernel_rfl) (by simp) ?_
        refine AllReadyH.cons (o := ⟨some 25, Op.call { callee := Callee.value (Operand.func 22), args := #[Operand.tmp 24], argTypes := #[22] }, _, _, _, _⟩) rfl (fun K hK => ?_) ?_
        ·
          go_simp
          refine (list_any _ n z X13 (HZ.out.below (below_step HB0.out HM13.out)) (by omega)).mono ?_
          rintro _ X14 ⟨v14, rfl, hi14, hx14⟩
          (try go_wp2_with fail)
          have HM14 := Lib.hid (below_step HM13.out hx14)
          have HN14 := Lib.hid ((hx14.block _ (Array.getElem?_eq_some_iff.1 HN13.out).1).trans HN13.out)
          have HV14 := Lib.hid hi14
          refine hK.out _ _ (HSB.out _ HM14.out) (fun hS => ?_)
          clear hK K
          try simp only [Act.put, List.setIfInBounds_toArray, List.set_cons_zero, List.set_cons_succ]
          clear hx14
          refine wpAnyH_ready (rs := [8]) (by kernel_rfl) (by simp) ?_
          refine AllReadyH.cons (o := ⟨some 30, Op.call { callee := Callee.value (Operand.func 41), args := #[Operand.tmp 27, Operand.tmp 29], argTypes := #[3, 3] }, _, _, _, _⟩) rfl (fun K hK => ?_) ?_
          ·
            go_simp
            refine (between_any lo hi X14).mono ?_
            rintro _ X15 ⟨rfl, hx15⟩
            (try go_wp2_with fail)
            have HM15 := Lib.hid (below_step HM14.out hx15)
            have HN15 := Lib.hid ((hx15.block _ (Array.getElem?_eq_some_iff.1 HN14.out).1).trans HN14.out)
            have HV15 := Lib.hid (HV14.out.below hx15)
            refine hK.out _ _ (HSB.out _ HM15.out) (fun hS => ?_)
            clear hK K
            try simp only [Act.put, List.setIfInBounds_toArray, List.set_cons_zero, List.set_cons_succ]
            clear hx15
            refine wpAnyH_ready (rs := [9]) (by kernel_rfl) (by simp) ?_
            refine AllReadyH.cons (o := ⟨some 31, Op.call { callee := Callee.value (Operand.func 59), args := #[Operand.tmp 23, Operand.tmp 25, Operand.tmp 30], argTypes := #[80, 22, 41] }, _, _, _, _⟩) rfl (fun K hK => ?_) ?_
            ·
              go_simp
              refine (HCT.out _ X15 HV15.out).mono ?_
              rintro _ X16 ⟨rfl, hx16⟩
              (try go_wp2_with fail)
              have HM16 := Lib.hid (below_step HM15.out hx16)
              have HN16 := Lib.hid ((hx16.block _ (Array.getElem?_eq_some_iff.1 HN15.out).1).trans HN15.out)
              have HV16 := Lib.hid (HV15.out.below hx16)
              refine hK.out _ _ (HSB.out _ HM16.out) (fun hS => ?_)
              clear hK K
              try simp only [Act.put, List.setIfInBounds_toArray, List.set_cons_zero, List.set_cons_succ]
              clear hx16
              refine wpAnyH_take (i := 10) (oi := ⟨some 21, Op.move (Operand.tmp 31), _, _, _, _⟩) (v := .tuple #[.agg #[.int .i64 c0, .int .i64 c1], .int .i64 ce]) rfl (by kernel_rfl) (by kernel_rfl) (by kernel_rfl) (fun _ _ _ h => h) (Or.inl ⟨by rfl, ?_⟩) hS ?_
              · intro W' hSw; (try dsimp only at hSw); obtain ⟨s0, s1, s2, s3, s4, s5⟩ := hSw; go_simp
              try simp only [Act.put, List.setIfInBounds_toArray, List.set_cons_zero, List.set_cons_succ]
              refine wpAnyH_take (i := 11) (oi := ⟨some 32, Op.extract (Operand.tmp 21) 0, _, _, _, _⟩) (v := .agg #[.int .i64 c0, .int .i64 c1]) rfl (by kernel_rfl) (by kernel_rfl) (by kernel_rfl) (fun _ _ _ h => h) (Or.inl ⟨by rfl, ?_⟩) hS ?_
              · intro W' hSw; (try dsimp only at hSw); obtain ⟨s0, s1, s2, s3, s4, s5⟩ := hSw; go_simp
              try simp only [Act.put, List.setIfInBounds_toArray, List.set_cons_zero, List.set_cons_succ]
              refine wpAnyH_take (i := 12) (oi := ⟨some 33, Op.extract (Operand.tmp 21) 1, _, _, _, _⟩) (v := .int .i64 ce) rfl (by kernel_rfl) (by kernel_rfl) (by kernel_rfl) (fun _ _ _ h => h) (Or.inl ⟨by rfl, ?_⟩) hS ?_
              · intro W' hSw; (try dsimp only at hSw); obtain ⟨s0, s1, s2, s3, s4, s5⟩ := hSw; go_simp
              try simp only [Act.put, List.setIfInBounds_toArray, List.set_cons_zero, List.set_cons_succ]
              refine wpAnyH_ready (rs := [14]) (by kernel_rfl) (by simp) ?_
              refine AllReadyH.cons (o := ⟨none, Op.store 41 (Operand.tmp 7) (Operand.tmp 32), _, _, _, _⟩) rfl (fun K hK => ?_) ?_
              ·
                have eb := HN16.out
                have e0 := cell_of_row _ _ 0 _ _ _ eb
                have e1 := cell_of_row _ _ 1 _ _ _ eb
                have f0 := frozen_of_row _ _ 0 _ _ eb
                have f1 := frozen_of_row _ _ 1 _ _ eb
                have HM17 : Hid (Below w1.heap.size w1 ((X16.setCell ⟨BN13, 0, none⟩ (.int .i64 c0)).setCell ⟨BN13, 1, none⟩ (.int .i64 c1))) := (HM16.out.setCell HG13.out _).setCell HG13.out _
                have HN17 : Hid (((X16.setCell ⟨BN13, 0, none⟩ (.int .i64 c0)).setCell ⟨BN13, 1, none⟩ (.int .i64 c1)).heap[BN13]? = some (.cells #[.int .i64 c0, .int .i64 c1] 41 (0, 0))) := by unfold Hid; simp [World.setCell, Array.getElem?_modify, eb]
                clear eb
                go_simp
                refine hK.out _ _ (HSB.out _ HM17.out) (fun hS => ?_)
                clear hK K
                try simp only [Act.put, List.setIfInBounds_toArray, List.set_cons_zero, List.set_cons_succ]
                clear e0 e1 f0 f1
                refine wpAnyH_take (i := 15) (oi := ⟨some 8, Op.assign (Operand.tmp 33), _, _, _, _⟩) (v := .int .i64 ce) rfl (by kernel_rfl) (by kernel_rfl) (by kernel_rfl) (fun _ _ _ h => h) (Or.inl ⟨by rfl, ?_⟩) hS ?_
                · intro W' hSw; (try dsimp only at hSw); obtain ⟨s0, s1, s2, s3, s4, s5⟩ := hSw; go_simp
                try simp only [Act.put, List.setIfInBounds_toArray, List.set_cons_zero, List.set_cons_succ]
                refine wpAnyH_done (by kernel_rfl) ?_ _
                go_wp2_with fail
                go_meet
                exact ⟨BN13, rfl, rfl, HN17.out, HM17.out, HG13.out⟩
              exact AllReadyH.nil
            exact AllReadyH.nil
          exact AllReadyH.nil
        exact AllReadyH.nil
      exact AllReadyH.nil
    refine AllReadyH.cons (o := ⟨some 7, Op.alloc 41, _, _, _, _⟩) rfl (fun K hK => ?_) ?_
    ·
      go_simp
      have HG18 : Hid (w1.heap.size ≤ X.heap.size) := HM.out.size
      have HM18 := Lib.hid (below_step HM.out (below_alloc X (.cells #[.int .i64 0, .int .i64 0] 41)))
      have HN18 : Hid ((X.alloc (.cells #[.int .i64 0, .int .i64 0] 41)).heap[X.heap.size]? = some (.cells #[.int .i64 0, .int .i64 0] 41 (0, 0))) := heap_alloc_new X _
      refine hK.out _ _ (HSB.out _ HM18.out) (fun hS => ?_)
      clear hK K
      try simp only [Act.put, List.setIfInBounds_toArray, List.set_cons_zero, List.set_cons_succ]
      generalize X.heap.size = BN18 at *
      generalize X.alloc (.cells #[.int .i64 0, .int .i64 0] 41) = X18 at *
      refine wpAnyH_ready (rs := [1]) (by kernel_rfl) (by simp) ?_
      refine AllReadyH.cons (o := ⟨some 23, Op.call { callee := Callee.value (Operand.func 48), args := #[Operand.tmp 22], argTypes := #[77] }, _, _, _, _⟩) rfl (fun K hK => ?_) ?_
      ·
        go_simp
        refine (rule_any f b m e X18).mono ?_
        rintro _ X19 ⟨rfl, hx19⟩
        (try go_wp2_with fail)
        have HM19 := Lib.hid (below_step HM18.out hx19)
        have HN19 := Lib.hid ((hx19.block _ (Array.getElem?_eq_some_iff.1 HN18.out).1).trans HN18.out)
        refine hK.out _ _ (HSB.out _ HM19.out) (fun hS => ?_)
        clear hK K
        try simp only [Act.put, List.setIfInBounds_toArray, List.set_cons_zero, List.set_cons_succ]
        clear hx19
        refine wpAnyH_ready (rs := [3]) (by kernel_rfl) (by simp) ?_
        refine AllReadyH.cons (o := ⟨some 25, Op.call { callee := Callee.value (Operand.func 22), args := #[Operand.tmp 24], argTypes := #[22] }, _, _, _, _⟩) rfl (fun K hK => ?_) ?_
        ·
          go_simp
          refine (list_any _ n z X19 (HZ.out.below (below_step HB0.out HM19.out)) (by omega)).mono ?_
          rintro _ X20 ⟨v20, rfl, hi20, hx20⟩
          (try go_wp2_with fail)
          have HM20 := Lib.hid (below_step HM19.out hx20)
          have HN20 := Lib.hid ((hx20.block _ (Array.getElem?_eq_some_iff.1 HN19.out).1).trans HN19.out)
          have HV20 := Lib.hid hi20
          refine hK.out _ _ (HSB.out _ HM20.out) (fun hS => ?_)
          clear hK K
          try simp only [Act.put, List.setIfInBounds_toArray, List.set_cons_zero, List.set_cons_succ]
          clear hx20
          refine wpAnyH_ready (rs := [8]) (by kernel_rfl) (by simp) ?_
          refine AllReadyH.cons (o := ⟨some 30, Op.call { callee := Callee.value (Operand.func 41), args := #[Operand.tmp 27, Operand.tmp 29], argTypes := #[3, 3] }, _, _, _, _⟩) rfl (fun K hK => ?_) ?_
          ·
            go_simp
            refine (between_any lo hi X20).mono ?_
            rintro _ X21 ⟨rfl, hx21⟩
            (try go_wp2_with fail)
            have HM21 := Lib.hid (below_step HM20.out hx21)
            have HN21 := Lib.hid ((hx21.block _ (Array.getElem?_eq_some_iff.1 HN20.out).1).trans HN20.out)
            have HV21 := Lib.hid (HV20.out.below hx21)
            refine hK.out _ _ (HSB.out _ HM21.out) (fun hS => ?_)
            clear hK K
            try simp only [Act.put, List.setIfInBounds_toArray, List.set_cons_zero, List.set_cons_succ]
            clear hx21
            refine wpAnyH_ready (rs := [9]) (by kernel_rfl) (by simp) ?_
            refine AllReadyH.cons (o := ⟨some 31, Op.call { callee := Callee.value (Operand.func 59), args := #[Operand.tmp 23, Operand.tmp 25, Operand.tmp 30], argTypes := #[80, 22, 41] }, _, _, _, _⟩) rfl (fun K hK => ?_) ?_
            ·
              go_simp
              refine (HCT.out _ X21 HV21.out).mono ?_
              rintro _ X22 ⟨rfl, hx22⟩
              (try go_wp2_with fail)
              have HM22 := Lib.hid (below_step HM21.out hx22)
              have HN22 := Lib.hid ((hx22.block _ (Array.getElem?_eq_some_iff.1 HN21.out).1).trans HN21.out)
              have HV22 := Lib.hid (HV21.out.below hx22)
              refine hK.out _ _ (HSB.out _ HM22.out) (fun hS => ?_)
              clear hK K
              try simp only [Act.put, List.setIfInBounds_toArray, List.set_cons_zero, List.set_cons_succ]
              clear hx22
              refine wpAnyH_take (i := 10) (oi := ⟨some 21, Op.move (Operand.tmp 31), _, _, _, _⟩) (v := .tuple #[.agg #[.int .i64 c0, .int .i64 c1], .int .i64 ce]) rfl (by kernel_rfl) (by kernel_rfl) (by kernel_rfl) (fun _ _ _ h => h) (Or.inl ⟨by rfl, ?_⟩) hS ?_
              · intro W' hSw; (try dsimp only at hSw); obtain ⟨s0, s1, s2, s3, s4, s5⟩ := hSw; go_simp
              try simp only [Act.put, List.setIfInBounds_toArray, List.set_cons_zero, List.set_cons_succ]
              refine wpAnyH_take (i := 11) (oi := ⟨some 32, Op.extract (Operand.tmp 21) 0, _, _, _, _⟩) (v := .agg #[.int .i64 c0, .int .i64 c1]) rfl (by kernel_rfl) (by kernel_rfl) (by kernel_rfl) (fun _ _ _ h => h) (Or.inl ⟨by rfl, ?_⟩) hS ?_
              · intro W' hSw; (try dsimp only at hSw); obtain ⟨s0, s1, s2, s3, s4, s5⟩ := hSw; go_simp
              try simp only [Act.put, List.setIfInBounds_toArray, List.set_cons_zero, List.set_cons_succ]
              refine wpAnyH_take (i := 12) (oi := ⟨some 33, Op.extract (Operand.tmp 21) 1, _, _, _, _⟩) (v := .int .i64 ce) rfl (by kernel_rfl) (by kernel_rfl) (by kernel_rfl) (fun _ _ _ h => h) (Or.inl ⟨by rfl, ?_⟩) hS ?_
              · intro W' hSw; (try dsimp only at hSw); obtain ⟨s0, s1, s2, s3, s4, s5⟩ := hSw; go_simp
              try simp only [Act.put, List.setIfInBounds_toArray, List.set_cons_zero, List.set_cons_succ]
              refine wpAnyH_ready (rs := [14]) (by kernel_rfl) (by simp) ?_
              refine AllReadyH.cons (o := ⟨none, Op.store 41 (Operand.tmp 7) (Operand.tmp 32), _, _, _, _⟩) rfl (fun K hK => ?_) ?_
              ·
                have eb := HN22.out
                have e0 := cell_of_row _ _ 0 _ _ _ eb
                have e1 := cell_of_row _ _ 1 _ _ _ eb
                have f0 := frozen_of_row _ _ 0 _ _ eb
                have f1 := frozen_of_row _ _ 1 _ _ eb
                have HM23 : Hid (Below w1.heap.size w1 ((X22.setCell ⟨BN18, 0, none⟩ (.int .i64 c0)).setCell ⟨BN18, 1, none⟩ (.int .i64 c1))) := (HM22.out.setCell HG18.out _).setCell HG18.out _
                have HN23 : Hid (((X22.setCell ⟨BN18, 0, none⟩ (.int .i64 c0)).setCell ⟨BN18, 1, none⟩ (.int .i64 c1)).heap[BN18]? = some (.cells #[.int .i64 c0, .int .i64 c1] 41 (0, 0))) := by unfold Hid; simp [World.setCell, Array.getElem?_modify, eb]
                clear eb
                go_simp
                refine hK.out _ _ (HSB.out _ HM23.out) (fun hS => ?_)
                clear hK K
                try simp only [Act.put, List.setIfInBounds_toArray, List.set_cons_zero, List.set_cons_succ]
                clear e0 e1 f0 f1
                refine wpAnyH_take (i := 15) (oi := ⟨some 8, Op.assign (Operand.tmp 33), _, _, _, _⟩) (v := .int .i64 ce) rfl (by kernel_rfl) (by kernel_rfl) (by kernel_rfl) (fun _ _ _ h => h) (Or.inl ⟨by rfl, ?_⟩) hS ?_
                · intro W' hSw; (try dsimp only at hSw); obtain ⟨s0, s1, s2, s3, s4, s5⟩ := hSw; go_simp
                try simp only [Act.put, List.setIfInBounds_toArray, List.set_cons_zero, List.set_cons_succ]
                refine wpAnyH_done (by kernel_rfl) ?_ _
                go_wp2_with fail
                go_meet
                exact ⟨BN18, rfl, rfl, HN23.out, HM23.out, HG18.out⟩
              exact AllReadyH.nil
            exact AllReadyH.nil
          exact AllReadyH.nil
        exact AllReadyH.nil
      exact AllReadyH.nil
    exact AllReadyH.nil
  case rest =>
    obtain ⟨B7, rfl, rfl, hb7, hbl, hB7⟩ := hcut
    obtain ⟨wz, rfl⟩ : ∃ wz, wz = wc := ⟨_, rfl⟩
    have HB7 := Lib.hid hb7; have HBL := Lib.hid hbl
    have hs7 : B7 < wz.heap.size := (Array.getElem?_eq_some_iff.1 hb7).1
    clear hb7 hbl
    obtain ⟨d0, d1, d2, d3, d4, d5⟩ := HSB.out wz HBL.out
    have HX : Hid (∀ X : World, Below wz.heap.size wz X → X.heap[B7]? = some (.cells #[.int .i64 c0, .int .i64 c1] 41 (0, 0))) := fun X hX => (hX.block _ hs7).trans HB7.out
    have HBW : Hid (∀ X : World, Below wz.heap.size wz X → Below w.heap.size w X) := fun X hX => below_step (below_step HB0.out HBL.out) hX
    cases hr : okRule f b m e
    · obtain ⟨rfl, rfl, rfl⟩ := cntV_err HCV.out (k := 1) (by unfold cntErr; rw [if_pos hr]) (by decide)
      go_wp2_with (go_at_call 46; refine (isRule_any f b m e _).mono ?_; rintro _ w2 ⟨rfl, hb2⟩)
      have k7 := HX.out w2 hb2
      have x0 : w2.cell? ⟨B7, 0, none⟩ = some (.int .i64 0) := cell_of_row _ _ 0 _ _ _ k7
      have x1 : w2.cell? ⟨B7, 1, none⟩ = some (.int .i64 0) := cell_of_row _ _ 1 _ _ _ k7
      have HEQ : Hid (∀ W, (binOp .eql 41 (.agg #[.int .i64 0, .int .i64 0]) (.agg #[.int .i64 0, .int .i64 0])).run Try.prog W = .ok (.bool true) W) := fun W => by rw [eql_range]; rfl
      have heq := HEQ.out
      go_loopw [9, 10, 11, 12] (fun v9 v10 v11 i wr => v9 = .int .i64 1 ∧ v10 = .int .i64 0 ∧ v11 = .int .i64 0 ∧ i = .int .i64 0 ∧ wr = w2) (fun _ _ _ _ _ => 0)
      case atStart => exact ⟨rfl, rfl, rfl, rfl, rfl⟩
      case round =>
        obtain ⟨rfl, rfl, rfl, rfl, rfl⟩ := hrel
        go_wp2_with (go_at_call 20; refine (HAW.out _).mono ?_; rintro _ w3 ⟨rfl, hb3⟩)
        all_goals
          go_ret
          exact ⟨rfl, HBW.out _ (below_step hb2 hb3)⟩
    have hr' : ¬ okRule f b m e = false := by rw [hr]; decide
    by_cases h200 : 200 < n
    · obtain ⟨rfl, rfl, rfl⟩ := cntV_err HCV.out (k := 3) (by unfold cntErr; rw [if_neg hr', if_pos h200]) (by decide)
      go_wp2_with (go_at_call 46; refine (isRule_any f b m e _).mono ?_; rintro _ w2 ⟨rfl, hb2⟩)
      have k7 := HX.out w2 hb2
      have x0 : w2.cell? ⟨B7, 0, none⟩ = some (.int .i64 0) := cell_of_row _ _ 0 _ _ _ k7
      have x1 : w2.cell? ⟨B7, 1, none⟩ = some (.int .i64 0) := cell_of_row _ _ 1 _ _ _ k7
      have HEQ : Hid (∀ W, (binOp .eql 41 (.agg #[.int .i64 0, .int .i64 0]) (.agg #[.int .i64 0, .int .i64 0])).run Try.prog W = .ok (.bool true) W) := fun W => by rw [eql_range]; rfl
      have heq := HEQ.out
      go_loopw [9, 10, 11, 12] (fun v9 v10 v11 i wr => v9 = .int .i64 3 ∧ v10 = .int .i64 0 ∧ v11 = .int .i64 0 ∧ i = .int .i64 0 ∧ wr = w2) (fun _ _ _ _ _ => 0)
      case atStart => exact ⟨rfl, rfl, rfl, rfl, rfl⟩
      case round =>
        obtain ⟨rfl, rfl, rfl, rfl, rfl⟩ := hrel
        go_wp2_with (go_at_call 20; refine (HAW.out _).mono ?_; rintro _ w3 ⟨rfl, hb3⟩)
        all_goals
          go_ret
          exact ⟨rfl, HBW.out _ (below_step hb2 hb3)⟩
    have HNM := Lib.hid (fun W (h : IntsIn W (.slice a n cap) n z) => numbers_any _ n z W h (by omega))
    by_cases hbd : cntBad lo hi z n = true
    · obtain ⟨rfl, rfl, rfl⟩ := cntV_err HCV.out (k := 2) (by unfold cntErr; rw [if_neg hr', if_neg h200, if_pos hbd]) (by decide)
      cases hin : inB lo 0 hi
      · go_wp2_with (first | (go_at_call 46; refine (isRule_any f b m e _).mono ?_; rintro _ w2 ⟨rfl, hb2⟩; obtain ⟨_, _, _, _, y4, y5⟩ := HSB.out w2 (below_step HBL.out hb2)) | (go_at_call 23; refine (refIn_any _ _ _ _).mono ?_; rintro _ _ ⟨rfl, rfl⟩))
        have k7 := HX.out w2 hb2
        have x0 : w2.cell? ⟨B7, 0, none⟩ = some (.int .i64 0) := cell_of_row _ _ 0 _ _ _ k7
        have x1 : w2.cell? ⟨B7, 1, none⟩ = some (.int .i64 0) := cell_of_row _ _ 1 _ _ _ k7
        have HEQ : Hid (∀ W, (binOp .eql 41 (.agg #[.int .i64 0, .int .i64 0]) (.agg #[.int .i64 0, .int .i64 0])).run Try.prog W = .ok (.bool true) W) := fun W => by rw [eql_range]; rfl
        have heq := HEQ.out
        go_loopw [9, 10, 11, 12] (fun v9 v10 v11 i wr => v9 = .int .i64 2 ∧ v10 = .int .i64 0 ∧ v11 = .int .i64 0 ∧ i = .int .i64 0 ∧ wr = w2) (fun _ _ _ _ _ => 0)
        case atStart => exact ⟨rfl, rfl, rfl, rfl, rfl⟩
        case round =>
          obtain ⟨rfl, rfl, rfl, rfl, rfl⟩ := hrel
          go_wp2_with (go_at_call 20; refine (HAW.out _).mono ?_; rintro _ w3 ⟨rfl, hb3⟩)
          all_goals
            go_ret
            exact ⟨rfl, HBW.out _ (below_step hb2 hb3)⟩
      by_cases h120 : 120 < hi
      · go_wp2_with (first | (go_at_call 46; refine (isRule_any f b m e _).mono ?_; rintro _ w2 ⟨rfl, hb2⟩; obtain ⟨_, _, _, _, y4, y5⟩ := HSB.out w2 (below_step HBL.out hb2)) | (go_at_call 23; refine (refIn_any _ _ _ _).mono ?_; rintro _ _ ⟨rfl, rfl⟩))
        have k7 := HX.out w2 hb2
        have x0 : w2.cell? ⟨B7, 0, none⟩ = some (.int .i64 0) := cell_of_row _ _ 0 _ _ _ k7
        have x1 : w2.cell? ⟨B7, 1, none⟩ = some (.int .i64 0) := cell_of_row _ _ 1 _ _ _ k7
        have HEQ : Hid (∀ W, (binOp .eql 41 (.agg #[.int .i64 0, .int .i64 0]) (.agg #[.int .i64 0, .int .i64 0])).run Try.prog W = .ok (.bool true) W) := fun W => by rw [eql_range]; rfl
        have heq := HEQ.out
        go_loopw [9, 10, 11, 12] (fun v9 v10 v11 i wr => v9 = .int .i64 2 ∧ v10 = .int .i64 0 ∧ v11 = .int .i64 0 ∧ i = .int .i64 0 ∧ wr = w2) (fun _ _ _ _ _ => 0)
        case atStart => exact ⟨rfl, rfl, rfl, rfl, rfl⟩
        case round =>
          obtain ⟨rfl, rfl, rfl, rfl, rfl⟩ := hrel
          go_wp2_with (go_at_call 20; refine (HAW.out _).mono ?_; rintro _ w3 ⟨rfl, hb3⟩)
          all_goals
            go_ret
            exact ⟨rfl, HBW.out _ (below_step hb2 hb3)⟩
      have hnb : allB (fun j => inB (z j) 0 140) n = false := by
        have := in_bd hin
        simp only [cntBad, Bool.or_eq_true, decide_eq_true_eq] at hbd
        rcases hbd with ((h | h) | h) | h
        · simpa using h
        · omega
        · omega
        · omega
      go_wp2_with (first | (go_at_call 46; refine (isRule_any f b m e _).mono ?_; rintro _ w2 ⟨rfl, hb2⟩; have hz2 := HZ.out.below (HBW.out w2 hb2); obtain ⟨_, _, _, _, y4, y5⟩ := HSB.out w2 (below_step HBL.out hb2)) | (go_at_call 23; refine (refIn_any _ _ _ _).mono ?_; rintro _ _ ⟨rfl, rfl⟩) | (go_at_call 24; refine (HNM.out _ hz2).mono ?_; rintro _ _ ⟨rfl, rfl⟩))
      have k7 := HX.out w2 hb2
      have x0 : w2.cell? ⟨B7, 0, none⟩ = some (.int .i64 0) := cell_of_row _ _ 0 _ _ _ k7
      have x1 : w2.cell? ⟨B7, 1, none⟩ = some (.int .i64 0) := cell_of_row _ _ 1 _ _ _ k7
      have HEQ : Hid (∀ W, (binOp .eql 41 (.agg #[.int .i64 0, .int .i64 0]) (.agg #[.int .i64 0, .int .i64 0])).run Try.prog W = .ok (.bool true) W) := fun W => by rw [eql_range]; rfl
      have heq := HEQ.out
      go_loopw [9, 10, 11, 12] (fun v9 v10 v11 i wr => v9 = .int .i64 2 ∧ v10 = .int .i64 0 ∧ v11 = .int .i64 0 ∧ i = .int .i64 0 ∧ wr = w2) (fun _ _ _ _ _ => 0)
      case atStart => exact ⟨rfl, rfl, rfl, rfl, rfl⟩
      case round =>
        obtain ⟨rfl, rfl, rfl, rfl, rfl⟩ := hrel
        go_wp2_with (go_at_call 20; refine (HAW.out _).mono ?_; rintro _ w3 ⟨rfl, hb3⟩)
        all_goals
          go_ret
          exact ⟨rfl, HBW.out _ (below_step hb2 hb3)⟩
    have hE : cntErr f b m e lo hi z n = 0 := by unfold cntErr; rw [if_neg hr', if_neg h200, if_neg hbd]
    have hin : inB lo 0 hi = true := by
      simp only [cntBad, Bool.or_eq_true, decide_eq_true_eq, not_or] at hbd
      simp only [inB, Bool.and_eq_true, decide_eq_true_eq]; omega
    have h120 : ¬ 120 < hi := by
      simp only [cntBad, Bool.or_eq_true, decide_eq_true_eq, not_or] at hbd
      omega
    have hnb : allB (fun j => inB (z j) 0 140) n = true := by
      simp only [cntBad, Bool.or_eq_true, decide_eq_true_eq, not_or] at hbd
      simpa using hbd.1.1.1
    go_wp2_with (first | (go_at_call 46; refine (isRule_any f b m e _).mono ?_; rintro _ w2 ⟨rfl, hb2⟩; have hz2 := HZ.out.below (HBW.out w2 hb2); obtain ⟨_, _, _, _, y4, y5⟩ := HSB.out w2 (below_step HBL.out hb2)) | (go_at_call 23; refine (refIn_any _ _ _ _).mono ?_; rintro _ _ ⟨rfl, rfl⟩) | (go_at_call 24; refine (HNM.out _ hz2).mono ?_; rintro _ _ ⟨rfl, rfl⟩))
    have hlo0 := (in_bd hin).1
    clear d0 d1 d2 d3 d4 d5 hr' hbd hnb hz2 HNM y4 y5
    have HTR := Lib.hid (fun wn W => refTrue_any f b m e wn W hr)
    have HB2 : Hid (Below wz.heap.size wz w2) := hb2
    have HCN : Hid (cntErr f b m e lo hi z n = 0) := hE
    clear hb2 hE hr hin
    go_loopw [9, 10, 11, 12] (fun v9 v10 v11 i wr => ∃ k : Nat, k ≤ n ∧ i = .int .i64 k ∧ Below wz.heap.size wz wr ∧ ((v9 = .int .i64 0 ∧ v10 = .int .i64 (cLo (cntI f b m e lo hi) (cntO f b m e lo hi) z k : Nat) ∧ v11 = .int .i64 (cHi (cntI f b m e lo hi) z k : Nat) ∧ ∀ j, j < k → (cntI f b m e lo hi (z j) || cntO f b m e lo hi (z j)) = true) ∨ (v9 = .int .i64 9 ∧ cntOk (cntI f b m e lo hi) (cntO f b m e lo hi) z n = false ∧ ∃ x y : Int, v10 = .int .i64 x ∧ v11 = .int .i64 y))) (fun _ _ _ i _ => n - (intOf i).toNat)
    case atStart => exact ⟨0, Nat.zero_le _, rfl, HB2.out, .inl ⟨rfl, rfl, rfl, fun j h => absurd h (Nat.not_lt_zero _)⟩⟩
    case round =>
      obtain ⟨k, hk, rfl, hbr, hcase⟩ := hrel
      have HBR := Lib.hid hbr; clear hbr
      obtain ⟨wo, rfl⟩ : ∃ wo, wo = wr := ⟨_, rfl⟩
      rcases hcase with ⟨rfl, rfl, rfl, hok⟩ | ⟨rfl, hbad, x, y, rfl, rfl⟩
      · have HOK := Lib.hid hok; clear hok
        by_cases hlt : k < n
        · have ki : (0 : Int) ≤ (k : Int) := by omega
          have kj : (k : Int) < (n : Int) := by omega
          have h9 : decide ((k : Int) < (n : Int)) = true := by simp; omega
          have hle : n ≤ 200 := by omega
          obtain ⟨sb, so, rfl, hsb⟩ := (HZ.out.below (HBW.out _ HBR.out)).at hlt
          have HCELL : Hid (∀ X : World, Below wo.heap.size wo X → X.cell? ⟨w.heap.size, 0, none⟩ = some (.int .i64 f) ∧ X.cell? ⟨w.heap.size, 1, none⟩ = some (.int .i64 b) ∧ X.cell? ⟨w.heap.size, 2, none⟩ = some (.int .i64 m) ∧ X.cell? ⟨w.heap.size, 3, none⟩ = some (.int .i64 e) ∧ X.cell? ⟨sb, so + k, none⟩ = some (.int .i64 (z k))) := fun X hX => by
            obtain ⟨s0, s1, s2, s3, s4, s5⟩ := HSB.out X (below_step HBL.out (below_step HBR.out hX))
            obtain ⟨b2, o2, e2, h2⟩ := (HZ.out.below (HBW.out _ (below_step HBR.out hX))).at hlt
            cases e2
            exact ⟨s0, s1, s2, s3, h2⟩
          obtain ⟨fl, HFL⟩ : ∃ fl, Hid (fl = agesF f b m e (z k) 126) := ⟨_, rfl⟩
          have HTK : Hid (∀ W, Calls Try.prog 54 #[.agg #[.int .i64 f, .int .i64 b, .int .i64 m, .int .i64 e], .int .i64 (z k)] W fun r w' => r = .returned (.agg (flagsA fl)) ∧ Below W.heap.size W w') := fun W => by rw [HFL.out]; exact HTR.out (z k) W
          have HS : Hid (Option.map (fun x => x.size) (Try.prog.info? 94) = some (flagsA fl).size) := by unfold Hid; rw [flagsA_size]; kernel_rfl
          have HZS : Hid ((flagsA fl).size = (flagsA fun _ => false).size) := by unfold Hid; rw [flagsA_size, flagsA_size]
          have HI : Hid (ansI fl lo hi 121 = cntI f b m e lo hi (z k)) := by unfold Hid; rw [HFL.out]; rfl
          have HO : Hid (ansO fl lo hi 121 = cntO f b m e lo hi (z k)) := by unfold Hid; rw [HFL.out]; rfl
          have l1 := cLo_le (cntI f b m e lo hi) (cntO f b m e lo hi) z k
          have l2 := cHi_le (cntI f b m e lo hi) z k
          have HLS : Hid (cLo (cntI f b m e lo hi) (cntO f b m e lo hi) z (k + 1) = cLo (cntI f b m e lo hi) (cntO f b m e lo hi) z k + if cntI f b m e lo hi (z k) && !cntO f b m e lo hi (z k) then 1 else 0) := rfl
          have HHS : Hid (cHi (cntI f b m e lo hi) z (k + 1) = cHi (cntI f b m e lo hi) z k + if cntI f b m e lo hi (z k) then 1 else 0) := rfl
          clear hsb
          generalize hcl : cLo (cntI f b m e lo hi) (cntO f b m e lo hi) z k = cl at *
          generalize hch : cHi (cntI f b m e lo hi) z k = ch at *
          clear hcl hch
          generalize hzk : z k = zk at *
          have HZK := Lib.hid hzk; clear hzk
          go_upto_region 15 with fail
          go_cut [13] (fun s13 wx => ∃ BF : Nat, s13 = .pointer (some ⟨BF, 0, none⟩) ∧ wx.heap[BF]? = some (.cells (flagsA fl) 94 (0, 0)) ∧ Below wo.heap.size wo wx)
          case first =>
            have HM : Hid (Below wo.heap.size wo wo.drew) := (Below.refl _ _).drew
            refine wp_region_held_drew (S := fun X => X.cell? ⟨w.heap.size, 0, none⟩ = some (.int .i64 f) ∧ X.cell? ⟨w.heap.size, 1, none⟩ = some (.int .i64 b) ∧ X.cell? ⟨w.heap.size, 2, none⟩ = some (.int .i64 m) ∧ X.cell? ⟨w.heap.size, 3, none⟩ = some (.int .i64 e) ∧ X.cell? ⟨sb, so + k, none⟩ = some (.int .i64 zk)) (by kernel_rfl) (HCELL.out _ HM.out) (fun hS => ?_)
            generalize World.drew wo = X at *
            refine wpAnyH_take (i := 0) (oi := ⟨some 69, Op.load 77 (Operand.tmp 3), _, _, _, _⟩) (v := .agg #[.int .i64 f, .int .i64 b, .int .i64 m, .int .i64 e]) rfl (by kernel_rfl) (by kernel_rfl) (by kernel_rfl) (fun _ _ _ h => h) (Or.inl ⟨by rfl, ?_⟩) hS ?_
            · intro W' hSw; (try dsimp only at hSw); obtain ⟨s0, s1, s2, s3, s4⟩ := hSw; go_simp
            try simp only [Act.put, List.setIfInBounds_toArray, List.set_cons_zero, List.set_cons_succ]
            refine wpAnyH_take (i := 1) (oi := ⟨some 70, Op.move (Operand.tmp 1), _, _, _, _⟩) (v := .slice (some ⟨sb, so, none⟩) n cap) rfl (by kernel_rfl) (by kernel_rfl) (by kernel_rfl) (fun _ _ _ h => h) (Or.inl ⟨by rfl, ?_⟩) hS ?_
            · intro W' hSw; (try dsimp only at hSw); obtain ⟨s0, s1, s2, s3, s4⟩ := hSw; go_simp
            try simp only [Act.put, List.setIfInBounds_toArray, List.set_cons_zero, List.set_cons_succ]
            refine wpAnyH_take (i := 2) (oi := ⟨some 71, Op.move (Operand.tmp 12), _, _, _, _⟩) (v := .int .i64 k) rfl (by kernel_rfl) (by kernel_rfl) (by kernel_rfl) (fun _ _ _ h => h) (Or.inl ⟨by rfl, ?_⟩) hS ?_
            · intro W' hSw; (try dsimp only at hSw); obtain ⟨s0, s1, s2, s3, s4⟩ := hSw; go_simp
            try simp only [Act.put, List.setIfInBounds_toArray, List.set_cons_zero, List.set_cons_succ]
            refine wpAnyH_take (i := 3) (oi := ⟨some 72, Op.indexAddr 22 (Operand.tmp 70) (Operand.tmp 71), _, _, _, _⟩) (v := .pointer (some ⟨sb, so + k, none⟩)) rfl (by kernel_rfl) (by kernel_rfl) (by kernel_rfl) (fun _ _ _ h => h) (Or.inl ⟨by rfl, ?_⟩) hS ?_
            · intro W' hSw; (try dsimp only at hSw); obtain ⟨s0, s1, s2, s3, s4⟩ := hSw; go_simp
            try simp only [Act.put, List.setIfInBounds_toArray, List.set_cons_zero, List.set_cons_succ]
            refine wpAnyH_take (i := 4) (oi := ⟨some 73, Op.load 3 (Operand.tmp 72), _, _, _, _⟩) (v := .int .i64 zk) rfl (by kernel_rfl) (by kernel_rfl) (by kernel_rfl) (fun _ _ _ h => h) (Or.inl ⟨by rfl, ?_⟩) hS ?_
            · intro W' hSw; (try dsimp only at hSw); obtain ⟨s0, s1, s2, s3, s4⟩ := hSw; go_simp
            try simp only [Act.put, List.setIfInBounds_toArray, List.set_cons_zero, List.set_cons_succ]
            refine wpAnyH_ready (rs := [5, 6]) (by kernel_rfl) (by simp) ?_
            refine AllReadyH.cons (o := ⟨some 74, Op.call { callee := Callee.value (Operand.func 54), args := #[Operand.tmp 69, Operand.tmp 73], argTypes := #[77, 3] }, _, _, _, _⟩) rfl (fun K hK => ?_) ?_
            ·
              go_simp
              refine (HTK.out X).mono ?_
              rintro _ X0 ⟨rfl, hx0⟩
              (try go_wp2_with fail)
              have HM0 := Lib.hid (below_step HM.out hx0)
              refine hK.out _ _ (HCELL.out _ HM0.out) (fun hS => ?_)
              clear hK K
              try simp only [Act.put, List.setIfInBounds_toArray, List.set_cons_zero, List.set_cons_succ]
              clear hx0
              refine wpAnyH_ready (rs := [6]) (by kernel_rfl) (by simp) ?_
              refine AllReadyH.cons (o := ⟨some 13, Op.alloc 94, _, _, _, _⟩) rfl (fun K hK => ?_) ?_
              ·
                go_simp
                have HG1 : Hid (wo.heap.size ≤ X0.heap.size) := HM0.out.size
                have HM1 := Lib.hid (below_step HM0.out (below_alloc X0 (.cells Try.zeroCells94 94)))
                have HN1 : Hid ((X0.alloc (.cells Try.zeroCells94 94)).heap[X0.heap.size]? = some (.cells (flagsA fun _ => false) 94 (0, 0))) := by rw [← flagsR_zero]; exact heap_alloc_new _ _
                refine hK.out _ _ (HCELL.out _ HM1.out) (fun hS => ?_)
                clear hK K
                try simp only [Act.put, List.setIfInBounds_toArray, List.set_cons_zero, List.set_cons_succ]
                generalize X0.heap.size = BN1 at *
                generalize X0.alloc (.cells Try.zeroCells94 94) = X1 at *
                refine wpAnyH_ready (rs := [7]) (by kernel_rfl) (by simp) ?_
                refine AllReadyH.cons (o := ⟨none, Op.store 94 (Operand.tmp 13) (Operand.tmp 74), _, _, _, _⟩) rfl (fun K hK => ?_) ?_
                ·
                  have HM2 : Hid (Below wo.heap.size wo (X1.setRow BN1 (flagsA fl))) := HM1.out.trans ⟨rfl, rfl, rfl, by simp, fun q hq => setRow_other _ _ _ _ (by have := HG1.out; omega)⟩
                  have HN2 : Hid ((X1.setRow BN1 (flagsA fl)).heap[BN1]? = some (.cells (flagsA fl) 94 (0, 0))) := setRow_heap _ _ _ _ _ _ HN1.out
                  refine step_store_row (by rfl) 94 (.tmp 13) (.tmp 74) (by rfl) BN1 (flagsA fl) (by rfl) (by rfl) 94 (flagsA fun _ => false) HN1.out HS.out HZS.out.symm (flagsA_one _) ?_
                  refine hK.out _ _ (HCELL.out _ HM2.out) (fun hS => ?_)
                  clear hK K
                  try simp only [Act.put]
                  refine wpAnyH_done (by kernel_rfl) ?_ _
                  go_wp2_with fail
                  go_meet
                  exact ⟨BN1, rfl, HN2.out, HM2.out⟩
                exact AllReadyH.nil
              exact AllReadyH.nil
            refine AllReadyH.cons (o := ⟨some 13, Op.alloc 94, _, _, _, _⟩) rfl (fun K hK => ?_) ?_
            ·
              go_simp
              have HG3 : Hid (wo.heap.size ≤ X.heap.size) := HM.out.size
              have HM3 := Lib.hid (below_step HM.out (below_alloc X (.cells Try.zeroCells94 94)))
              have HN3 : Hid ((X.alloc (.cells Try.zeroCells94 94)).heap[X.heap.size]? = some (.cells (flagsA fun _ => false) 94 (0, 0))) := by rw [← flagsR_zero]; exact heap_alloc_new _ _
              refine hK.out _ _ (HCELL.out _ HM3.out) (fun hS => ?_)
              clear hK K
              try simp only [Act.put, List.setIfInBounds_toArray, List.set_cons_zero, List.set_cons_succ]
              generalize X.heap.size = BN3 at *
              generalize X.alloc (.cells Try.zeroCells94 94) = X3 at *
              refine wpAnyH_ready (rs := [5]) (by kernel_rfl) (by simp) ?_
              refine AllReadyH.cons (o := ⟨some 74, Op.call { callee := Callee.value (Operand.func 54), args := #[Operand.tmp 69, Operand.tmp 73], argTypes := #[77, 3] }, _, _, _, _⟩) rfl (fun K hK => ?_) ?_
              ·
                go_simp
                refine (HTK.out X3).mono ?_
                rintro _ X4 ⟨rfl, hx4⟩
                (try go_wp2_with fail)
                have HM4 := Lib.hid (below_step HM3.out hx4)
                have HN4 := Lib.hid ((hx4.block _ (Array.getElem?_eq_some_iff.1 HN3.out).1).trans HN3.out)
                refine hK.out _ _ (HCELL.out _ HM4.out) (fun hS => ?_)
                clear hK K
                try simp only [Act.put, List.setIfInBounds_toArray, List.set_cons_zero, List.set_cons_succ]
                clear hx4
                refine wpAnyH_ready (rs := [7]) (by kernel_rfl) (by simp) ?_
                refine AllReadyH.cons (o := ⟨none, Op.store 94 (Operand.tmp 13) (Operand.tmp 74), _, _, _, _⟩) rfl (fun K hK => ?_) ?_
                ·
                  have HM5 : Hid (Below wo.heap.size wo (X4.setRow BN3 (flagsA fl))) := HM4.out.trans ⟨rfl, rfl, rfl, by simp, fun q hq => setRow_other _ _ _ _ (by have := HG3.out; omega)⟩
                  have HN5 : Hid ((X4.setRow BN3 (flagsA fl)).heap[BN3]? = some (.cells (flagsA fl) 94 (0, 0))) := setRow_heap _ _ _ _ _ _ HN4.out
                  refine step_store_row (by rfl) 94 (.tmp 13) (.tmp 74) (by rfl) BN3 (flagsA fl) (by rfl) (by rfl) 94 (flagsA fun _ => false) HN4.out HS.out HZS.out.symm (flagsA_one _) ?_
                  refine hK.out _ _ (HCELL.out _ HM5.out) (fun hS => ?_)
                  clear hK K
                  try simp only [Act.put]
                  refine wpAnyH_done (by kernel_rfl) ?_ _
                  go_wp2_with fail
                  go_meet
                  exact ⟨BN3, rfl, HN5.out, HM5.out⟩
                exact AllReadyH.nil
              exact AllReadyH.nil
            exact AllReadyH.nil
          case rest =>
            obtain ⟨BF, rfl, hbf, hbx⟩ := hcut
            obtain ⟨wy, rfl⟩ : ∃ wy, wy = wc := ⟨_, rfl⟩
            have HBX : Hid (Below wz.heap.size wz wy) := below_step HBR.out hbx
            have HBF := Lib.hid hbf
            clear hbf hbx HCELL HTK HS HZS
            obtain ⟨_, _, _, _, d4, d5⟩ := HSB.out wy (below_step HBL.out HBX.out)
            go_wp2
            go_loopw [14, 15, 16] (fun vi vo j wj => ∃ q : Nat, q ≤ 121 ∧ j = .int .i64 q ∧ vi = .bool (ansI fl lo hi q) ∧ vo = .bool (ansO fl lo hi q) ∧ wj = wy) (fun _ _ j _ => 121 - (intOf j).toNat)
            case atStart => exact ⟨0, Nat.zero_le _, rfl, rfl, rfl, rfl⟩
            case round =>
              obtain ⟨q, hq, rfl, rfl, rfl, rfl⟩ := hrel
              by_cases hq1 : q < 121
              · have hcell : wr.cell? ⟨BF, q, none⟩ = some (.bool (fl q)) := by rw [cell_of_row _ _ _ _ _ _ HBF.out]; exact flagsA_get fl _ hq1
                have qi : (0 : Int) ≤ (q : Int) := by omega
                have qj : (q : Int) < 121 := by omega
                cases hfq : fl q
                · rw [hfq] at hcell
                  have aI : ansI fl lo hi (q + 1) = ansI fl lo hi q := by simp [ansI, hfq]
                  have aO : ansO fl lo hi (q + 1) = ansO fl lo hi q := by simp [ansO, hfq]
                  go_wp2
                  go_roundw
                  case rel => exact ⟨q + 1, by omega, by go_num, by rw [aI], by rw [aO], trivial⟩
                  case measure => simp [intOf]; omega
                · rw [hfq] at hcell
                  cases hiq : inB q lo hi
                  · have aI : ansI fl lo hi (q + 1) = ansI fl lo hi q := by simp [ansI, hfq, hiq]
                    have aO : ansO fl lo hi (q + 1) = true := by simp [ansO, hfq, hiq]
                    go_wp2_with (go_at_call 23; refine (refIn_any _ _ _ _).mono ?_; rintro _ _ ⟨rfl, rfl⟩)
                    go_roundw
                    case rel => exact ⟨q + 1, by omega, by go_num, by rw [aI], by rw [aO], trivial⟩
                    case measure => simp [intOf]; omega
                  · have aI : ansI fl lo hi (q + 1) = true := by simp [ansI, hfq, hiq]
                    have aO : ansO fl lo hi (q + 1) = ansO fl lo hi q := by simp [ansO, hfq, hiq]
                    go_wp2_with (go_at_call 23; refine (refIn_any _ _ _ _).mono ?_; rintro _ _ ⟨rfl, rfl⟩)
                    go_roundw
                    case rel => exact ⟨q + 1, by omega, by go_num, by rw [aI], by rw [aO], trivial⟩
                    case measure => simp [intOf]; omega
              · obtain rfl : q = 121 := by omega
                have HLS := HLS.out; have HHS := HHS.out
                rw [← HI.out, ← HO.out] at HLS
                rw [← HI.out] at HHS
                have HIO : Hid ((ansI fl lo hi 121 || ansO fl lo hi 121) = (cntI f b m e lo hi (z k) || cntO f b m e lo hi (z k))) := by unfold Hid; rw [HI.out, HO.out, HZK.out]
                have HLS := Lib.hid HLS; have HHS := Lib.hid HHS
                generalize ansI fl lo hi 121 = vI at *
                generalize ansO fl lo hi 121 = vO at *
                cases vI <;> cases vO
                · have hbad : cntOk (cntI f b m e lo hi) (cntO f b m e lo hi) z n = false := allB_false hlt HIO.out.symm
                  have HBAD := Lib.hid hbad; clear hbad
                  go_wp2
                  go_roundw
                  case rel => exact ⟨k + 1, by omega, by go_num, HBX.out, .inr ⟨rfl, HBAD.out, _, _, rfl, rfl⟩⟩
                  case measure => simp [intOf]; omega
                · go_wp2
                  go_roundw
                  case rel => exact ⟨k + 1, by omega, by go_num, HBX.out, .inl ⟨rfl, by rw [HLS.out]; first | rfl | (exact congrArg (Value.int .i64) (by simp)), by rw [HHS.out]; first | rfl | (exact congrArg (Value.int .i64) (by simp)), fun j hj => by rcases Nat.lt_succ_iff_lt_or_eq.1 hj with h | rfl; exact HOK.out j h; exact HIO.out.symm⟩⟩
                  case measure => simp [intOf]; omega
                · go_wp2
                  go_roundw
                  case rel => exact ⟨k + 1, by omega, by go_num, HBX.out, .inl ⟨rfl, by rw [HLS.out]; first | rfl | (exact congrArg (Value.int .i64) (by simp)), by rw [HHS.out]; first | rfl | (exact congrArg (Value.int .i64) (by simp)), fun j hj => by rcases Nat.lt_succ_iff_lt_or_eq.1 hj with h | rfl; exact HOK.out j h; exact HIO.out.symm⟩⟩
                  case measure => simp [intOf]; omega
                · go_wp2
                  go_roundw
                  case rel => exact ⟨k + 1, by omega, by go_num, HBX.out, .inl ⟨rfl, by rw [HLS.out]; first | rfl | (exact congrArg (Value.int .i64) (by simp)), by rw [HHS.out]; first | rfl | (exact congrArg (Value.int .i64) (by simp)), fun j hj => by rcases Nat.lt_succ_iff_lt_or_eq.1 hj with h | rfl; exact HOK.out j h; exact HIO.out.symm⟩⟩
                  case measure => simp [intOf]; omega
        · obtain rfl : k = n := by omega
          obtain ⟨rfl, rfl, rfl⟩ := cntV_good HCV.out HCN.out (allB_true HOK.out)
          have HOBJ := Lib.hid (HX.out wo HBR.out)
          have l1 := cLo_le (cntI f b m e lo hi) (cntO f b m e lo hi) z k
          have l2 := cHi_le (cntI f b m e lo hi) z k
          have h9 : decide ((k : Int) < (k : Int)) = false := by simp
          generalize cLo (cntI f b m e lo hi) (cntO f b m e lo hi) z k = cl at *
          generalize cHi (cntI f b m e lo hi) z k = ch at *
          have HEQ : Hid (∀ W, (binOp .eql 41 (.agg #[.int .i64 (cl : Int), .int .i64 (ch : Int)]) (.agg #[.int .i64 (cl : Int), .int .i64 (ch : Int)])).run Try.prog W = .ok (.bool true) W) := fun W => by rw [eql_range]; simp
          clear HCT
          go_upto_region 32 with fail
          have HM : Hid (Below wo.heap.size wo wo.drew) := (Below.refl _ _).drew
          have HCELL : Hid (∀ X : World, Below wo.heap.size wo X → X.cell? ⟨B7, 0, none⟩ = some (.int .i64 (cl : Int)) ∧ X.cell? ⟨B7, 1, none⟩ = some (.int .i64 (ch : Int))) := fun X hX => by
            have h := HX.out X (below_step HBR.out hX)
            exact ⟨cell_of_row _ _ 0 _ _ _ h, cell_of_row _ _ 1 _ _ _ h⟩
          refine wp_region_held_drew (S := fun X => X.cell? ⟨B7, 0, none⟩ = some (.int .i64 (cl : Int)) ∧ X.cell? ⟨B7, 1, none⟩ = some (.int .i64 (ch : Int))) (by kernel_rfl) (HCELL.out _ HM.out) (fun hS => ?_)
          generalize World.drew wo = X at *
          refine wpAnyH_take (i := 0) (oi := ⟨some 122, Op.move (Operand.tmp 8), _, _, _, _⟩) (v := .int .i64 0) rfl (by kernel_rfl) (by kernel_rfl) (by kernel_rfl) (fun _ _ _ h => h) (Or.inl ⟨by rfl, ?_⟩) hS ?_
          · intro W' hSw; (try dsimp only at hSw); obtain ⟨s0, s1⟩ := hSw; go_simp
          try simp only [Act.put, List.setIfInBounds_toArray, List.set_cons_zero, List.set_cons_succ]
          refine wpAnyH_take (i := 1) (oi := ⟨some 123, Op.binOp BinOp.eql 24 (Operand.tmp 122) (Operand.const (Value.int IntKind.i64 0)) 24, _, _, _, _⟩) (v := .bool true) rfl (by kernel_rfl) (by kernel_rfl) (by kernel_rfl) (fun _ _ _ h => h) (Or.inl ⟨by rfl, ?_⟩) hS ?_
          · intro W' hSw; (try dsimp only at hSw); obtain ⟨s0, s1⟩ := hSw; go_simp
          try simp only [Act.put, List.setIfInBounds_toArray, List.set_cons_zero, List.set_cons_succ]
          refine wpAnyH_take (i := 2) (oi := ⟨some 124, Op.move (Operand.tmp 123), _, _, _, _⟩) (v := .bool true) rfl (by kernel_rfl) (by kernel_rfl) (by kernel_rfl) (fun _ _ _ h => h) (Or.inl ⟨by rfl, ?_⟩) hS ?_
          · intro W' hSw; (try dsimp only at hSw); obtain ⟨s0, s1⟩ := hSw; go_simp
          try simp only [Act.put, List.setIfInBounds_toArray, List.set_cons_zero, List.set_cons_succ]
          refine wpAnyH_take (i := 3) (oi := ⟨some 125, Op.load 41 (Operand.tmp 7), _, _, _, _⟩) (v := .agg #[.int .i64 (cl : Int), .int .i64 (ch : Int)]) rfl (by kernel_rfl) (by kernel_rfl) (by kernel_rfl) (fun _ _ _ h => h) (Or.inl ⟨by rfl, ?_⟩) hS ?_
          · intro W' hSw; (try dsimp only at hSw); obtain ⟨s0, s1⟩ := hSw; go_simp
          try simp only [Act.put, List.setIfInBounds_toArray, List.set_cons_zero, List.set_cons_succ]
          refine wpAnyH_take (i := 4) (oi := ⟨some 126, Op.move (Operand.tmp 10), _, _, _, _⟩) (v := .int .i64 (cl : Int)) rfl (by kernel_rfl) (by kernel_rfl) (by kernel_rfl) (fun _ _ _ h => h) (Or.inl ⟨by rfl, ?_⟩) hS ?_
          · intro W' hSw; (try dsimp only at hSw); obtain ⟨s0, s1⟩ := hSw; go_simp
          try simp only [Act.put, List.setIfInBounds_toArray, List.set_cons_zero, List.set_cons_succ]
          refine wpAnyH_take (i := 5) (oi := ⟨some 127, Op.move (Operand.tmp 11), _, _, _, _⟩) (v := .int .i64 (ch : Int)) rfl (by kernel_rfl) (by kernel_rfl) (by kernel_rfl) (fun _ _ _ h => h) (Or.inl ⟨by rfl, ?_⟩) hS ?_
          · intro W' hSw; (try dsimp only at hSw); obtain ⟨s0, s1⟩ := hSw; go_simp
          try simp only [Act.put, List.setIfInBounds_toArray, List.set_cons_zero, List.set_cons_succ]
          refine wpAnyH_ready (rs := [6]) (by kernel_rfl) (by simp) ?_
          refine AllReadyH.cons (o := ⟨some 128, Op.call { callee := Callee.value (Operand.func 41), args := #[Operand.tmp 126, Operand.tmp 127], argTypes := #[3, 3] }, _, _, _, _⟩) rfl (fun K hK => ?_) ?_
          ·
            go_simp
            refine (between_any cl ch X).mono ?_
            rintro _ X0 ⟨rfl, hx0⟩
            (try go_wp2_with fail)
            have HM0 := Lib.hid (below_step HM.out hx0)
            refine hK.out _ _ (HCELL.out _ HM0.out) (fun hS => ?_)
            clear hK K
            try simp only [Act.put, List.setIfInBounds_toArray, List.set_cons_zero, List.set_cons_succ]
            clear hx0
            refine wpAnyH_take (i := 7) (oi := ⟨some 129, Op.binOp BinOp.eql 41 (Operand.tmp 125) (Operand.tmp 128) 41, _, _, _, _⟩) (v := .bool true) rfl (by kernel_rfl) (by kernel_rfl) (by kernel_rfl) (fun _ _ _ h => h) (Or.inl ⟨by rfl, ?_⟩) hS ?_
            · intro W' hSw; have heq := HEQ.out W'; go_simp
            try simp only [Act.put, List.setIfInBounds_toArray, List.set_cons_zero, List.set_cons_succ]
            refine wpAnyH_take (i := 8) (oi := ⟨some 130, Op.pick (Operand.tmp 124) (Operand.tmp 129) (Operand.const (Value.bool false)), _, _, _, _⟩) (v := .bool true) rfl (by kernel_rfl) (by kernel_rfl) (by kernel_rfl) (fun _ _ _ h => h) (Or.inl ⟨by rfl, ?_⟩) hS ?_
            · intro W' hSw; (try dsimp only at hSw); obtain ⟨s0, s1⟩ := hSw; go_simp
            try simp only [Act.put, List.setIfInBounds_toArray, List.set_cons_zero, List.set_cons_succ]
            refine wpAnyH_take (i := 9) (oi := ⟨some 131, Op.move (Operand.tmp 130), _, _, _, _⟩) (v := .bool true) rfl (by kernel_rfl) (by kernel_rfl) (by kernel_rfl) (fun _ _ _ h => h) (Or.inl ⟨by rfl, ?_⟩) hS ?_
            · intro W' hSw; (try dsimp only at hSw); obtain ⟨s0, s1⟩ := hSw; go_simp
            try simp only [Act.put, List.setIfInBounds_toArray, List.set_cons_zero, List.set_cons_succ]
            refine wpAnyH_ready (rs := [10]) (by kernel_rfl) (by simp) ?_
            refine AllReadyH.cons (o := ⟨some 132, Op.call { callee := Callee.value (Operand.func 20), args := #[], argTypes := #[] }, _, _, _, _⟩) rfl (fun K hK => ?_) ?_
            ·
              go_simp
              refine (HAW.out X0).mono ?_
              rintro _ X1 ⟨rfl, hx1⟩
              (try go_wp2_with fail)
              have HM1 := Lib.hid (below_step HM0.out hx1)
              refine hK.out _ _ (HCELL.out _ HM1.out) (fun hS => ?_)
              clear hK K
              try simp only [Act.put, List.setIfInBounds_toArray, List.set_cons_zero, List.set_cons_succ]
              clear hx1
              refine wpAnyH_take (i := 11) (oi := ⟨some 133, Op.pick (Operand.tmp 131) (Operand.tmp 132) (Operand.const (Value.bool false)), _, _, _, _⟩) (v := .bool true) rfl (by kernel_rfl) (by kernel_rfl) (by kernel_rfl) (fun _ _ _ h => h) (Or.inl ⟨by rfl, ?_⟩) hS ?_
              · intro W' hSw; (try dsimp only at hSw); obtain ⟨s0, s1⟩ := hSw; go_simp
              try simp only [Act.put, List.setIfInBounds_toArray, List.set_cons_zero, List.set_cons_succ]
              refine wpAnyH_take (i := 12) (oi := ⟨some 6, Op.assign (Operand.tmp 133), _, _, _, _⟩) (v := .bool true) rfl (by kernel_rfl) (by kernel_rfl) (by kernel_rfl) (fun _ _ _ h => h) (Or.inl ⟨by rfl, ?_⟩) hS ?_
              · intro W' hSw; (try dsimp only at hSw); obtain ⟨s0, s1⟩ := hSw; go_simp
              try simp only [Act.put, List.setIfInBounds_toArray, List.set_cons_zero, List.set_cons_succ]
              refine wpAnyH_done (by kernel_rfl) ?_ _
              go_wp2_with fail
              go_ret
              exact ⟨rfl, HBW.out _ (below_step HBR.out HM1.out)⟩
            exact AllReadyH.nil
          exact AllReadyH.nil
      · obtain ⟨rfl, rfl, rfl⟩ := cntV_fail HCV.out HCN.out hbad
        have k7 := HX.out wo HBR.out
        have x0 : wo.cell? ⟨B7, 0, none⟩ = some (.int .i64 0) := cell_of_row _ _ 0 _ _ _ k7
        have x1 : wo.cell? ⟨B7, 1, none⟩ = some (.int .i64 0) := cell_of_row _ _ 1 _ _ _ k7
        have HEQ : Hid (∀ W, (binOp .eql 41 (.agg #[.int .i64 0, .int .i64 0]) (.agg #[.int .i64 0, .int .i64 0])).run Try.prog W = .ok (.bool true) W) := fun W => by rw [eql_range]; rfl
        have heq := HEQ.out
        go_wp2_with (go_at_call 20; refine (HAW.out _).mono ?_; rintro _ w3 ⟨rfl, hb3⟩)
        all_goals
          go_ret
          exact ⟨rfl, HBW.out _ (below_step HBR.out hb3)⟩
end Go.Proofs.Ytagfcfojfjkmbaa
