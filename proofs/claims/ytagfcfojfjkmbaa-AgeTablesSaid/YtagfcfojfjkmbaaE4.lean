/- AgeHeaped: for every input the law returns true, and each argument reads afterwards as it read before. No condition. -/
import Derived.Test.YtagfcfojfjkmbaaE3
import Derived.OrdersHeld
namespace Go.Proofs.Ytagfcfojfjkmbaa
open Go.RowKit Go.Shelf

attribute [local go_sem ↓] Go.wp_at_zero Go.wp_at_succ
set_option maxRecDepth 100000 in
set_option maxHeartbeats 8000000 in
theorem ageHeaped_walk (sv : Value) (n : Nat) (y : Nat → Int) (bs : Int) (w : World) (hz : BytesIn w sv n y) (hn : n ≤ maxLen) (hb0 : 0 ≤ bs) (hb1 : bs ≤ 255) :
    Calls Try.prog 8 #[sv, .int .u8 bs] w fun e w' => e = .returned (.bool true) ∧ Below w.heap.size w w' := by
  obtain ⟨a, cap, rfl⟩ := hz.len
  unfold maxLen at hn
  by_cases h0 : n = 0
  · subst h0
    clear hz
    go_enter Try.func8, Try.ntmps8
    go_wp2_with (go_at_call 20; refine (awake_any _).mono ?_; rintro e w1 ⟨rfl, hb1⟩)
    go_ret
    exact ⟨rfl, hb1⟩
  have hnz : ((n : Int) == 0) = false := by simp; omega
  by_cases h200 : 200 < n
  · clear hz
    go_enter Try.func8, Try.ntmps8
    go_wp2_with (go_at_call 20; refine (awake_any _).mono ?_; rintro e w1 ⟨rfl, hb1⟩)
    go_ret
    exact ⟨rfl, hb1⟩
  have HZ := Lib.hid hz; clear hz
  go_enter Try.func8, Try.ntmps8
  go_wp2
  have hm1 : 1 ≤ 1 + bs % 12 := by omega
  have hm2 : 1 + bs % 12 ≤ 12 := by omega
  generalize 1 + bs % 12 = m at *
  have hbz : (m == 0) = false := by simp; omega
  have hbm : (m == -1) = false := by simp; omega
  have HYB : Hid (∀ j, j < n → 0 ≤ y j ∧ y j ≤ 255) := fun j hj => by obtain ⟨_, _, _, _, h⟩ := HZ.out.at (Below.refl _ _) hj; exact h
  go_loopw [6, 7, 8] (fun v u i wr => ∃ k : Nat, k ≤ n ∧ i = .int .i64 k ∧ Both w (upTo (fun j => y j % 141) k) (upTo (fun j => y j % 141 - y j % 141 % m) k) v u wr) (fun _ _ i _ => n - (intOf i).toNat)
  case atStart => exact ⟨0, Nat.zero_le _, rfl, IL.nil _, IL.nil _, (fun q hq => by cases hq), (fun q hq => by cases hq), (fun q hq => by cases hq), Below.refl _ _⟩
  case round =>
    obtain ⟨k, hk, rfl, hbo⟩ := hrel
    have HBW := Lib.hid hbo
    by_cases hlt : k < n
    · obtain ⟨b, off, rfl, hc, hy0, hy1⟩ := HZ.out.at hbo.2.2.2.2.2 hlt
      have HBO := Lib.hid hbo; clear hbo
      have hA : Hid (upTo (fun j => y j % 141) (k + 1) = upTo (fun j => y j % 141) k ++ [y k % 141]) := upTo_succ _ _
      have hB : Hid (upTo (fun j => y j % 141 - y j % 141 % m) (k + 1) = upTo (fun j => y j % 141 - y j % 141 % m) k ++ [y k % 141 - y k % 141 % m]) := upTo_succ _ _
      have hlA : (upTo (fun j => y j % 141) k).length ≤ 1000 := by rw [upTo_length]; omega
      have hlB : (upTo (fun j => y j % 141 - y j % 141 % m) k).length ≤ 1000 := by rw [upTo_length]; omega
      generalize upTo (fun j => y j % 141) k = la at *
      generalize upTo (fun j => y j % 141 - y j % 141 % m) k = lb at *
      go_wp2
      have hx0 : 0 ≤ y k % 141 := by omega
      have hx1 : y k % 141 ≤ 140 := by omega
      generalize y k % 141 = x at *
      have hr0 := Int.emod_nonneg x (by omega : m ≠ 0)
      have hr1 := Int.emod_lt_of_pos x (by omega : 0 < m)
      have HBo := Lib.hid (HBO.out.below ((Below.refl _ _).drew)); clear HBO
      refine wp_region_held_drew (S := fun _ => True) (by kernel_rfl) trivial (fun hS => ?_)
      generalize wr.drew = X at *
      refine wpAnyH_take (i := 0) (oi := ⟨some 41, .move (.tmp 6), _, _, _, _⟩) (v := u6) rfl (by kernel_rfl) (by kernel_rfl) (by kernel_rfl) (fun _ _ _ h => h) (Or.inl ⟨by rfl, ?_⟩) hS ?_
      · intro W' hSw; clear hSw; go_simp
      simp only [Act.put, List.setIfInBounds_toArray, List.set_cons_zero, List.set_cons_succ]
      refine wpAnyH_take (i := 1) (oi := ⟨some 42, .move (.tmp 9), _, _, _, _⟩) (v := .int .i64 x) rfl (by kernel_rfl) (by kernel_rfl) (by kernel_rfl) (fun _ _ _ h => h) (Or.inl ⟨by rfl, ?_⟩) hS ?_
      · intro W' hSw; clear hSw; go_simp
      simp only [Act.put, List.setIfInBounds_toArray, List.set_cons_zero, List.set_cons_succ]
      refine wpAnyH_take (i := 4) (oi := ⟨some 45, .move (.tmp 7), _, _, _, _⟩) (v := u7) rfl (by kernel_rfl) (by kernel_rfl) (by kernel_rfl) (fun _ _ _ h => h) (Or.inl ⟨by rfl, ?_⟩) hS ?_
      · intro W' hSw; clear hSw; go_simp
      simp only [Act.put, List.setIfInBounds_toArray, List.set_cons_zero, List.set_cons_succ]
      refine wpAnyH_take (i := 5) (oi := ⟨some 46, .move (.tmp 9), _, _, _, _⟩) (v := .int .i64 x) rfl (by kernel_rfl) (by kernel_rfl) (by kernel_rfl) (fun _ _ _ h => h) (Or.inl ⟨by rfl, ?_⟩) hS ?_
      · intro W' hSw; clear hSw; go_simp
      simp only [Act.put, List.setIfInBounds_toArray, List.set_cons_zero, List.set_cons_succ]
      refine wpAnyH_take (i := 6) (oi := ⟨some 47, .move (.tmp 9), _, _, _, _⟩) (v := .int .i64 x) rfl (by kernel_rfl) (by kernel_rfl) (by kernel_rfl) (fun _ _ _ h => h) (Or.inl ⟨by rfl, ?_⟩) hS ?_
      · intro W' hSw; clear hSw; go_simp
      simp only [Act.put, List.setIfInBounds_toArray, List.set_cons_zero, List.set_cons_succ]
      refine wpAnyH_take (i := 7) (oi := ⟨some 48, .move (.tmp 5), _, _, _, _⟩) (v := .int .i64 m) rfl (by kernel_rfl) (by kernel_rfl) (by kernel_rfl) (fun _ _ _ h => h) (Or.inl ⟨by rfl, ?_⟩) hS ?_
      · intro W' hSw; clear hSw; go_simp
      simp only [Act.put, List.setIfInBounds_toArray, List.set_cons_zero, List.set_cons_succ]
      have hmz : ¬ m = 0 := by omega
      have hmm : ¬ m = -1 := by omega
      have w1e : x.tmod m = x % m := Int.tmod_eq_emod_of_nonneg hx0
      have w3e : IntKind.i64.wrap (x % m) = x % m := IntWalk.i64_in _ (by omega)
      have w2e : IntKind.i64.wrap (x - x % m) = x - x % m := IntWalk.i64_in _ (by omega)
      refine wpAnyH_take (i := 8) (oi := ⟨some 49, .binOp .rem 3 (.tmp 47) (.tmp 48) 3, _, _, _, _⟩) (v := .int .i64 (x % m)) rfl (by kernel_rfl) (by kernel_rfl) (by kernel_rfl) (fun _ _ _ h => h) (Or.inl ⟨by rfl, ?_⟩) hS ?_
      · intro W' hSw; clear hSw; go_simp
      simp only [Act.put, List.setIfInBounds_toArray, List.set_cons_zero, List.set_cons_succ]
      refine wpAnyH_take (i := 9) (oi := ⟨some 50, .binOp .sub 3 (.tmp 46) (.tmp 49) 3, _, _, _, _⟩) (v := .int .i64 (x - x % m)) rfl (by kernel_rfl) (by kernel_rfl) (by kernel_rfl) (fun _ _ _ h => h) (Or.inl ⟨by rfl, ?_⟩) hS ?_
      · intro W' hSw; clear hSw; go_simp
      simp only [Act.put, List.setIfInBounds_toArray, List.set_cons_zero, List.set_cons_succ]
      clear w1e w2e w3e
      refine wpAnyH_ready (rs := [2, 10]) (by kernel_rfl) (by simp) ?_
      refine AllReadyH.cons (o := ⟨some 43, .buildSlice 22 1 #[(0, .tmp 42)], _, _, _, _⟩) rfl (fun K hK => ?_) ?_
      ·
        go_simp
        refine hK.out _ _ trivial (fun hS => ?_)
        clear hK K
        try simp only [Act.put, List.setIfInBounds_toArray, List.set_cons_zero, List.set_cons_succ]
        have HB0 := Lib.hid (HBo.out.below (below_alloc X (.cells #[.int .i64 x] 3)))
        have H43_0 : Hid ((X.alloc (.cells #[.int .i64 x] 3)).heap[X.heap.size]? = some (.cells #[.int .i64 x] 3 (0, 0))) := heap_alloc_new X _
        have HO43 : Hid (∀ q, (u6 : Value).ownBlock = some q ∨ (u7 : Value).ownBlock = some q → q ≠ X.heap.size) := fun q h => (by rcases h with h | h; (have := HBo.out.1.blk q h; omega); (have := HBo.out.2.1.blk q h; omega))
        generalize X.heap.size = B43 at *
        generalize X.alloc (.cells #[.int .i64 x] 3) = X0 at *
        refine wpAnyH_ready (rs := [3, 10]) (by kernel_rfl) (by simp) ?_
        refine AllReadyH.cons (o := ⟨some 44, .call ⟨.builtin .append, #[.tmp 41, .tmp 43], #[22, 22]⟩, _, _, _, _⟩) rfl (fun K hK => ?_) ?_
        ·
          refine step_append_il (by rfl) (.tmp 41) (.tmp 43) (by rfl) u6 la x (by rfl) HB0.out.1 hlA ⟨B43, 0, none⟩ (by rfl) (World.news_of_block H43_0.out) ?_
          intro v1 X1 happ1
          have HB1 := Lib.hid (HB0.out.first happ1).2
          clear happ1
          refine hK.out _ _ trivial (fun hS => ?_)
          clear hK K
          try simp only [Act.put, List.setIfInBounds_toArray, List.set_cons_zero, List.set_cons_succ]
          refine wpAnyH_ready (rs := [10]) (by kernel_rfl) (by simp) ?_
          refine AllReadyH.cons (o := ⟨some 51, .buildSlice 22 1 #[(0, .tmp 50)], _, _, _, _⟩) rfl (fun K hK => ?_) ?_
          ·
            go_simp
            refine hK.out _ _ trivial (fun hS => ?_)
            clear hK K
            try simp only [Act.put, List.setIfInBounds_toArray, List.set_cons_zero, List.set_cons_succ]
            have HB2 := Lib.hid (HB1.out.below (below_alloc X1 (.cells #[.int .i64 (x - x % m)] 3)))
            have H51_2 : Hid ((X1.alloc (.cells #[.int .i64 (x - x % m)] 3)).heap[X1.heap.size]? = some (.cells #[.int .i64 (x - x % m)] 3 (0, 0))) := heap_alloc_new X1 _
            have HO51 : Hid (∀ q, (v1 : Value).ownBlock = some q ∨ (u7 : Value).ownBlock = some q → q ≠ X1.heap.size) := fun q h => (by rcases h with h | h; (have := HB1.out.1.blk q h; omega); (have := HB1.out.2.1.blk q h; omega))
            generalize X1.heap.size = B51 at *
            generalize X1.alloc (.cells #[.int .i64 (x - x % m)] 3) = X2 at *
            refine wpAnyH_ready (rs := [11]) (by kernel_rfl) (by simp) ?_
            refine AllReadyH.cons (o := ⟨some 52, .call ⟨.builtin .append, #[.tmp 45, .tmp 51], #[22, 22]⟩, _, _, _, _⟩) rfl (fun K hK => ?_) ?_
            ·
              refine step_append_il (by rfl) (.tmp 45) (.tmp 51) (by rfl) u7 lb (x - x % m) (by rfl) HB2.out.2.1 hlB ⟨B51, 0, none⟩ (by rfl) (World.news_of_block H51_2.out) ?_
              intro v3 X3 happ3
              have HB3 := Lib.hid (HB2.out.second happ3).2
              clear happ3
              refine hK.out _ _ trivial (fun hS => ?_)
              clear hK K
              try simp only [Act.put, List.setIfInBounds_toArray, List.set_cons_zero, List.set_cons_succ]
              refine wpAnyH_take (i := 12) (oi := ⟨some 6, .assign (.tmp 44), _, _, _, _⟩) (v := v1) rfl (by kernel_rfl) (by kernel_rfl) (by kernel_rfl) (fun _ _ _ h => h) (Or.inl ⟨by rfl, ?_⟩) hS ?_
              · intro W' hSw; clear hSw; go_simp
              simp only [Act.put, List.setIfInBounds_toArray, List.set_cons_zero, List.set_cons_succ]
              refine wpAnyH_take (i := 13) (oi := ⟨some 7, .assign (.tmp 52), _, _, _, _⟩) (v := v3) rfl (by kernel_rfl) (by kernel_rfl) (by kernel_rfl) (fun _ _ _ h => h) (Or.inl ⟨by rfl, ?_⟩) hS ?_
              · intro W' hSw; clear hSw; go_simp
              simp only [Act.put, List.setIfInBounds_toArray, List.set_cons_zero, List.set_cons_succ]
              refine wpAnyH_done (by kernel_rfl) ?_ _
              go_wp2
              go_roundw
              case rel => exact ⟨k + 1, by omega, by go_num, by rw [hA.out, hB.out]; exact HB3.out⟩
              case measure => simp [intOf]; omega
            exact AllReadyH.nil
          exact AllReadyH.nil
        refine AllReadyH.cons (o := ⟨some 51, .buildSlice 22 1 #[(0, .tmp 50)], _, _, _, _⟩) rfl (fun K hK => ?_) ?_
        ·
          go_simp
          refine hK.out _ _ trivial (fun hS => ?_)
          clear hK K
          try simp only [Act.put, List.setIfInBounds_toArray, List.set_cons_zero, List.set_cons_succ]
          have HB4 := Lib.hid (HB0.out.below (below_alloc X0 (.cells #[.int .i64 (x - x % m)] 3)))
          have H51_4 : Hid ((X0.alloc (.cells #[.int .i64 (x - x % m)] 3)).heap[X0.heap.size]? = some (.cells #[.int .i64 (x - x % m)] 3 (0, 0))) := heap_alloc_new X0 _
          have HO51 : Hid (∀ q, (u6 : Value).ownBlock = some q ∨ (u7 : Value).ownBlock = some q → q ≠ X0.heap.size) := fun q h => (by rcases h with h | h; (have := HB0.out.1.blk q h; omega); (have := HB0.out.2.1.blk q h; omega))
          have H43_4 : Hid ((X0.alloc (.cells #[.int .i64 (x - x % m)] 3)).heap[B43]? = some (.cells #[.int .i64 x] 3 (0, 0))) := (Below.heap_alloc X0 _ _ (Array.getElem?_eq_some_iff.1 H43_0.out).1).trans H43_0.out
          generalize X0.heap.size = B51 at *
          generalize X0.alloc (.cells #[.int .i64 (x - x % m)] 3) = X4 at *
          refine wpAnyH_ready (rs := [3]) (by kernel_rfl) (by simp) ?_
          refine AllReadyH.cons (o := ⟨some 44, .call ⟨.builtin .append, #[.tmp 41, .tmp 43], #[22, 22]⟩, _, _, _, _⟩) rfl (fun K hK => ?_) ?_
          ·
            refine step_append_il (by rfl) (.tmp 41) (.tmp 43) (by rfl) u6 la x (by rfl) HB4.out.1 hlA ⟨B43, 0, none⟩ (by rfl) (World.news_of_block H43_4.out) ?_
            intro v5 X5 happ5
            have HB5 := Lib.hid (HB4.out.first happ5).2
            have H51_5 : Hid (X5.heap[B51]? = some (.cells #[.int .i64 (x - x % m)] 3 (0, 0))) := (happ5.2.1.block _ (Array.getElem?_eq_some_iff.1 H51_4.out).1 (fun e => HO51.out _ (.inl e) rfl)).trans H51_4.out
            clear happ5
            refine hK.out _ _ trivial (fun hS => ?_)
            clear hK K
            try simp only [Act.put, List.setIfInBounds_toArray, List.set_cons_zero, List.set_cons_succ]
            refine wpAnyH_ready (rs := [11]) (by kernel_rfl) (by simp) ?_
            refine AllReadyH.cons (o := ⟨some 52, .call ⟨.builtin .append, #[.tmp 45, .tmp 51], #[22, 22]⟩, _, _, _, _⟩) rfl (fun K hK => ?_) ?_
            ·
              refine step_append_il (by rfl) (.tmp 45) (.tmp 51) (by rfl) u7 lb (x - x % m) (by rfl) HB5.out.2.1 hlB ⟨B51, 0, none⟩ (by rfl) (World.news_of_block H51_5.out) ?_
              intro v6 X6 happ6
              have HB6 := Lib.hid (HB5.out.second happ6).2
              clear happ6
              refine hK.out _ _ trivial (fun hS => ?_)
              clear hK K
              try simp only [Act.put, List.setIfInBounds_toArray, List.set_cons_zero, List.set_cons_succ]
              refine wpAnyH_take (i := 12) (oi := ⟨some 6, .assign (.tmp 44), _, _, _, _⟩) (v := v5) rfl (by kernel_rfl) (by kernel_rfl) (by kernel_rfl) (fun _ _ _ h => h) (Or.inl ⟨by rfl, ?_⟩) hS ?_
              · intro W' hSw; clear hSw; go_simp
              simp only [Act.put, List.setIfInBounds_toArray, List.set_cons_zero, List.set_cons_succ]
              refine wpAnyH_take (i := 13) (oi := ⟨some 7, .assign (.tmp 52), _, _, _, _⟩) (v := v6) rfl (by kernel_rfl) (by kernel_rfl) (by kernel_rfl) (fun _ _ _ h => h) (Or.inl ⟨by rfl, ?_⟩) hS ?_
              · intro W' hSw; clear hSw; go_simp
              simp only [Act.put, List.setIfInBounds_toArray, List.set_cons_zero, List.set_cons_succ]
              refine wpAnyH_done (by kernel_rfl) ?_ _
              go_wp2
              go_roundw
              case rel => exact ⟨k + 1, by omega, by go_num, by rw [hA.out, hB.out]; exact HB6.out⟩
              case measure => simp [intOf]; omega
            exact AllReadyH.nil
          exact AllReadyH.nil
        exact AllReadyH.nil
      refine AllReadyH.cons (o := ⟨some 51, .buildSlice 22 1 #[(0, .tmp 50)], _, _, _, _⟩) rfl (fun K hK => ?_) ?_
      ·
        go_simp
        refine hK.out _ _ trivial (fun hS => ?_)
        clear hK K
        try simp only [Act.put, List.setIfInBounds_toArray, List.set_cons_zero, List.set_cons_succ]
        have HB7 := Lib.hid (HBo.out.below (below_alloc X (.cells #[.int .i64 (x - x % m)] 3)))
        have H51_7 : Hid ((X.alloc (.cells #[.int .i64 (x - x % m)] 3)).heap[X.heap.size]? = some (.cells #[.int .i64 (x - x % m)] 3 (0, 0))) := heap_alloc_new X _
        have HO51 : Hid (∀ q, (u6 : Value).ownBlock = some q ∨ (u7 : Value).ownBlock = some q → q ≠ X.heap.size) := fun q h => (by rcases h with h | h; (have := HBo.out.1.blk q h; omega); (have := HBo.out.2.1.blk q h; omega))
        generalize X.heap.size = B51 at *
        generalize X.alloc (.cells #[.int .i64 (x - x % m)] 3) = X7 at *
        refine wpAnyH_ready (rs := [2]) (by kernel_rfl) (by simp) ?_
        refine AllReadyH.cons (o := ⟨some 43, .buildSlice 22 1 #[(0, .tmp 42)], _, _, _, _⟩) rfl (fun K hK => ?_) ?_
        ·
          go_simp
          refine hK.out _ _ trivial (fun hS => ?_)
          clear hK K
          try simp only [Act.put, List.setIfInBounds_toArray, List.set_cons_zero, List.set_cons_succ]
          have HB8 := Lib.hid (HB7.out.below (below_alloc X7 (.cells #[.int .i64 x] 3)))
          have H43_8 : Hid ((X7.alloc (.cells #[.int .i64 x] 3)).heap[X7.heap.size]? = some (.cells #[.int .i64 x] 3 (0, 0))) := heap_alloc_new X7 _
          have HO43 : Hid (∀ q, (u6 : Value).ownBlock = some q ∨ (u7 : Value).ownBlock = some q → q ≠ X7.heap.size) := fun q h => (by rcases h with h | h; (have := HB7.out.1.blk q h; omega); (have := HB7.out.2.1.blk q h; omega))
          have H51_8 : Hid ((X7.alloc (.cells #[.int .i64 x] 3)).heap[B51]? = some (.cells #[.int .i64 (x - x % m)] 3 (0, 0))) := (Below.heap_alloc X7 _ _ (Array.getElem?_eq_some_iff.1 H51_7.out).1).trans H51_7.out
          generalize X7.heap.size = B43 at *
          generalize X7.alloc (.cells #[.int .i64 x] 3) = X8 at *
          refine wpAnyH_ready (rs := [3]) (by kernel_rfl) (by simp) ?_
          refine AllReadyH.cons (o := ⟨some 44, .call ⟨.builtin .append, #[.tmp 41, .tmp 43], #[22, 22]⟩, _, _, _, _⟩) rfl (fun K hK => ?_) ?_
          ·
            refine step_append_il (by rfl) (.tmp 41) (.tmp 43) (by rfl) u6 la x (by rfl) HB8.out.1 hlA ⟨B43, 0, none⟩ (by rfl) (World.news_of_block H43_8.out) ?_
            intro v9 X9 happ9
            have HB9 := Lib.hid (HB8.out.first happ9).2
            have H51_9 : Hid (X9.heap[B51]? = some (.cells #[.int .i64 (x - x % m)] 3 (0, 0))) := (happ9.2.1.block _ (Array.getElem?_eq_some_iff.1 H51_8.out).1 (fun e => HO51.out _ (.inl e) rfl)).trans H51_8.out
            clear happ9
            refine hK.out _ _ trivial (fun hS => ?_)
            clear hK K
            try simp only [Act.put, List.setIfInBounds_toArray, List.set_cons_zero, List.set_cons_succ]
            refine wpAnyH_ready (rs := [11]) (by kernel_rfl) (by simp) ?_
            refine AllReadyH.cons (o := ⟨some 52, .call ⟨.builtin .append, #[.tmp 45, .tmp 51], #[22, 22]⟩, _, _, _, _⟩) rfl (fun K hK => ?_) ?_
            ·
              refine step_append_il (by rfl) (.tmp 45) (.tmp 51) (by rfl) u7 lb (x - x % m) (by rfl) HB9.out.2.1 hlB ⟨B51, 0, none⟩ (by rfl) (World.news_of_block H51_9.out) ?_
              intro v10 X10 happ10
              have HB10 := Lib.hid (HB9.out.second happ10).2
              clear happ10
              refine hK.out _ _ trivial (fun hS => ?_)
              clear hK K
              try simp only [Act.put, List.setIfInBounds_toArray, List.set_cons_zero, List.set_cons_succ]
              refine wpAnyH_take (i := 12) (oi := ⟨some 6, .assign (.tmp 44), _, _, _, _⟩) (v := v9) rfl (by kernel_rfl) (by kernel_rfl) (by kernel_rfl) (fun _ _ _ h => h) (Or.inl ⟨by rfl, ?_⟩) hS ?_
              · intro W' hSw; clear hSw; go_simp
              simp only [Act.put, List.setIfInBounds_toArray, List.set_cons_zero, List.set_cons_succ]
              refine wpAnyH_take (i := 13) (oi := ⟨some 7, .assign (.tmp 52), _, _, _, _⟩) (v := v10) rfl (by kernel_rfl) (by kernel_rfl) (by kernel_rfl) (fun _ _ _ h => h) (Or.inl ⟨by rfl, ?_⟩) hS ?_
              · intro W' hSw; clear hSw; go_simp
              simp only [Act.put, List.setIfInBounds_toArray, List.set_cons_zero, List.set_cons_succ]
              refine wpAnyH_done (by kernel_rfl) ?_ _
              go_wp2
              go_roundw
              case rel => exact ⟨k + 1, by omega, by go_num, by rw [hA.out, hB.out]; exact HB10.out⟩
              case measure => simp [intOf]; omega
            exact AllReadyH.nil
          exact AllReadyH.nil
        exact AllReadyH.nil
      exact AllReadyH.nil
    · obtain rfl : k = n := by omega
      have hzA : ∀ j, j < k → 0 ≤ y j % 141 ∧ y j % 141 ≤ 140 := fun j hj => by omega
      have hzB : ∀ j, j < k → 0 ≤ y j % 141 - y j % 141 % m ∧ y j % 141 - y j % 141 % m ≤ 140 := fun j hj => by
        have h1 := Int.emod_nonneg (y j % 141) (by omega : m ≠ 0)
        have h2 := Int.emod_nonneg (y j) (by omega : (141 : Int) ≠ 0)
        have h3 : 0 ≤ m * (y j % 141 / m) := Int.mul_nonneg (by omega) (Int.ediv_nonneg h2 (by omega))
        have h4 := Int.mul_ediv_add_emod (y j % 141) m
        omega
      have hzM : ∀ j, j < k → (y j % 141 - y j % 141 % m) % m = 0 := fun j hj => by
        have h4 := Int.mul_ediv_add_emod (y j % 141) m
        rw [show y j % 141 - y j % 141 % m = m * (y j % 141 / m) from by omega, Int.mul_emod_right]
      have e1 := heapE_ok (base := 1) (by omega) (by omega) (by omega) (by omega) hzA
      have e2 := heapR_all (base := 1) (by omega) (by omega) (by omega) (by omega) hzA (fun j _ => Int.emod_one _)
      have e3 := heapE_ok (base := m) (by omega) (by omega) hm1 hm2 hzB
      have e4 := heapR_all (base := m) (by omega) (by omega) hm1 hm2 hzB hzM
      have e5 := heapE_ok (base := m) (by omega) (by omega) hm1 hm2 hzA
      have e6 := heapR_bd (base := m) (by omega) (by omega) hm1 hm2 hzA
      have HC1 := Lib.hid (fun (v : Value) (W : World) (h : IntsAt W v k (fun j => y j % 141)) => heaping_any v k _ 1 W h (by omega))
      have HC2 := Lib.hid (fun (v : Value) (W : World) (h : IntsAt W v k (fun j => y j % 141 - y j % 141 % m)) => heaping_any v k _ m W h (by omega))
      have HC3 := Lib.hid (fun (v : Value) (W : World) (h : IntsAt W v k (fun j => y j % 141)) => heaping_any v k _ m W h (by omega))
      rw [e1, e2] at HC1
      rw [e3, e4] at HC2
      rw [e5] at HC3
      generalize heapR (fun j => y j % 141) k m = c at *
      obtain ⟨hc0, hc1⟩ := e6
      have HA := Lib.hid hbo.1; have HU := Lib.hid hbo.2.1; have HW := Lib.hid hbo.2.2.2.2.2
      clear hzA hzB hzM e1 e2 e3 e4 e5 hbo
      go_wp2_with fail
      refine (HC1.out _ _ HA.out.upTo).mono ?_
      rintro e w1 ⟨rfl, hb1⟩
      go_wp2_with fail
      refine (HC2.out _ _ (HU.out.below hb1).upTo).mono ?_
      rintro e w2 ⟨rfl, hb2⟩
      go_wp2_with fail
      refine (list_any _ k (fun j => y j % 141) _ ((HA.out.below (below_step hb1 hb2)).upTo.into) (by omega)).mono ?_
      rintro e w3 ⟨v3, rfl, hi3, hb3⟩
      go_wp2_with fail
      refine (HC3.out _ _ hi3).mono ?_
      rintro e w4 ⟨rfl, hb4⟩
      go_wp2_with (go_at_call 20; refine (awake_any _).mono ?_; rintro e w5 ⟨rfl, hb5⟩)
      go_ret
      exact ⟨rfl, HW.out.trans ((below_step (below_step (below_step (below_step hb1 hb2) hb3) hb4) hb5).mono HW.out.size)⟩

open Go.ChangeShapes Go.WideShapes Go.ChangeAt
set_option maxRecDepth 100000 in
theorem ageHeaped_lifted (os : Os) (started : os.Started) (H : Type) (enc : TypeId × Value → H) :
    ReturnsInHanded {} Try.checked os 8 .any (Rows.ageHeapedSpec.pre6 enc Try.prog Try.f8 Rows.ageHeapedRow.domain false) (Rows.ageHeapedSpec.post enc Try.prog Try.f8 false true false false) := by
  refine returnsInHanded_of_change (C := Try.checked) Try.own started (by kernel_rfl) Try.func8
    (ChangeSpec.witness6 (enc := enc) (C := Try.checked) false ⟨#[], #[.slice none 0 0, .int .u8 0], []⟩ 8 (by kernel_rfl) (by kernel_rfl) (by kernel_rfl) (by kernel_rfl)) ?_
  intro W base args ds gs before hval0 hW hcnd _
  have hval : ∀ (j : Nat) t v, Try.f8.params[j]? = some t → args[j]? = some v → Value.okWide Try.prog W .any base t v := hval0
  have hW' := hW
  obtain ⟨p, q, hA0, hV, hpq, hfz, hnd⟩ := hW
  have hA : DataW.TrodAll enc Try.prog W 0 (fun _ => true) true Try.f8.params.toList args.toList ds p := hA0
  rw [Try.params8] at hA hval
  obtain ⟨v0, v1, d0, d1, p0, p1, rfl, rfl, rfl, h0, h1⟩ := trodAll_two hA
  obtain ⟨n, z, hz, hn⟩ := open_bytesIn (hval 0 66 v0 rfl rfl) h0
  obtain ⟨b, rfl, rfl, rfl, hwf⟩ := open_int Try.underlying5 (hval 1 5 v1 rfl rfl) h1
  have hbd := bounds_u8 hwf
  refine (ageHeaped_walk v0 n z b W hz hn hbd.1 hbd.2).mono fun e W' ⟨he, hb⟩ => ?_
  subst he
  exact ⟨_, rfl, law_post rfl rfl (by rw [Try.params8]; simp only [List.mem_cons, List.not_mem_nil, or_false]; rintro t (rfl | rfl) <;> exact ⟨by kernel_rfl, of_decide_eq_true (by kernel_rfl)⟩) (fun _ => rfl) hW' hb⟩

theorem ageHeaped_holds : Rows.AgeHeapedSaid :=
  OpenClaim.holds_of_wide 8 Try.f8 rfl rfl rfl rfl rfl rfl rfl ⟨rfl, rfl, rfl, rfl, rfl⟩ rfl rfl rfl rfl rfl (by kernel_rfl) Try.func8 (by kernel_rfl)
    (of_decide_eq_true (by kernel_rfl)) (by unfold Func.isWrapper; first | (rw [if_pos (by decide +kernel)]; kernel_rfl) | (rw [if_neg (by decide +kernel)]; exact ⟨rfl, rfl⟩))
    (fun os started H enc _ => ageHeaped_lifted os started H enc)
#print axioms ageHeaped_holds
end Go.Proofs.Ytagfcfojfjkmbaa
