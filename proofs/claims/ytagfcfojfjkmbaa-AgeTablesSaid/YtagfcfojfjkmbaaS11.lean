/- AgeTables: the walk. -/
import Derived.Test.YtagfcfojfjkmbaaS10
import Derived.Test.YtagfcfojfjkmbaaE4
import Derived.Test.YtagfcfojfjkmbaaN9
namespace Go.Proofs.Ytagfcfojfjkmbaa
open Go.RowKit Go.Shelf

/-- A list of numbers of the call's own. -/
def Own (w : World) (l : List Int) (v : Value) (W : World) : Prop :=
  IL W v l ∧ (∀ q, v.ownBlock = some q → w.heap.size ≤ q) ∧ Below w.heap.size w W
theorem Own.below {w W X : World} {l : List Int} {v : Value} (h : Own w l v W) (hX : Below W.heap.size W X) : Own w l v X :=
  ⟨h.1.below hX, h.2.1, h.2.2.trans (hX.mono h.2.2.size)⟩
theorem Own.app {w X w1 : World} {l : List Int} {v v' : Value} {i : Int} (h : Own w l v X) (ha : App X w1 v l i v') : Own w (l ++ [i]) v' w1 :=
  ⟨ha.1, ha.low h.2.1 h.2.2.size, h.2.2.trans (ha.2.1.low h.2.2.size (fun q hq e => by have := h.2.1 q e; omega))⟩
theorem Own.nil (w : World) : Own w [] (.slice none 0 0) w := ⟨IL.nil _, fun q hq => (by cases hq), Below.refl _ _⟩
theorem Own.len {w X : World} {l : List Int} {v : Value} (h : Own w l v X) : ∃ a c, v = .slice a l.length c := by
  rcases h.1.form with ⟨rfl, rfl⟩ | ⟨g, cap, rfl, _⟩ <;> exact ⟨_, _, rfl⟩
/-- The three counts. -/
theorem tables_counts {f b m e : Int} (hr : okRule f b m e = true) (k : Int) (hk1 : 1 ≤ k) (hk2 : k ≤ 120) {z : Nat → Int} {y : Nat → Nat} {n : Nat} (hn : n ≤ 200) (hz : ∀ j, j < n → y j ≤ 120 ∧ z j = wrt f b m (y j)) :
    ∃ a0 a1 b0 b1 : Int, a0 + b1 = n ∧ a1 + b0 = n ∧ cntV f b m e 0 (k - 1) z n = .tuple #[.agg #[.int .i64 a0, .int .i64 a1], .int .i64 0] ∧ cntV f b m e k 120 z n = .tuple #[.agg #[.int .i64 b0, .int .i64 b1], .int .i64 0] ∧
      cntV f b m e 0 120 z n = .tuple #[.agg #[.int .i64 n, .int .i64 n], .int .i64 0] := by
  obtain ⟨g0, g1, g2, g3, g4, g5, g6, g7⟩ := okRule_bd hr
  have he : 0 ≤ e := by omega
  obtain ⟨t1, t2, t3, t4⟩ := cnt_tables he k hz
  have hall : allB (fun j => inB (z j) 0 140) n = true := allB_true fun j hj => by
    obtain ⟨h1, h2⟩ := hz j hj
    have := wrt_bd f b m (y j) (by omega) (by omega) (by omega) (by omega)
    rw [h2]; simp only [inB, Bool.and_eq_true, decide_eq_true_eq]; omega
  have hV : ∀ lo hi : Int, 0 ≤ lo → lo ≤ hi → hi ≤ 120 → cntV f b m e lo hi z n = .tuple #[.agg #[.int .i64 (cLo (cntI f b m e lo hi) (cntO f b m e lo hi) z n : Nat), .int .i64 (cHi (cntI f b m e lo hi) z n : Nat)], .int .i64 0] := fun lo hi h0 h1 h2 => by
    have hE : cntErr f b m e lo hi z n = 0 := by
      unfold cntErr
      rw [if_neg (by rw [hr]; decide), if_neg (by omega), if_neg (by
        simp only [cntBad, hall, Bool.not_true, Bool.false_or, Bool.or_eq_true, decide_eq_true_eq]; omega)]
    unfold cntV
    rw [if_pos hE, cntRes_ok (cnt_ok he lo hi hz)]
  refine ⟨_, _, _, _, ?_, ?_, hV 0 (k - 1) (by omega) (by omega) (by omega), hV k 120 (by omega) (by omega) (by omega), ?_⟩
  · omega
  · omega
  · rw [hV 0 120 (by omega) (by omega) (by omega), t3, t4]

attribute [local go_sem ↓] Go.wp_at_zero Go.wp_at_succ
set_option maxRecDepth 100000 in
set_option maxHeartbeats 16000000 in
theorem ageTables_walk (f b m e : Int) (sv : Value) (n : Nat) (y : Nat → Int) (split : Int) (w : World) (hz : BytesIn w sv n y) (hn : n ≤ maxLen) (hs0 : 0 ≤ split) (hs1 : split ≤ 255) :
    Calls Try.prog 18 #[.agg #[.int .i64 f, .int .i64 b, .int .i64 m, .int .i64 e], sv, .int .u8 split] w fun r w' => r = .returned (.bool true) ∧ Below w.heap.size w w' := by
  have HAW := Lib.hid awake_any
  obtain ⟨a, cap, rfl⟩ := hz.len
  unfold maxLen at hn
  have HZ := Lib.hid hz; clear hz
  have HB0 : Hid (Below w.heap.size w (w.alloc (.cells #[.int .i64 f, .int .i64 b, .int .i64 m, .int .i64 e] 77))) := below_alloc _ _
  have HK0 : Hid ((w.alloc (.cells #[.int .i64 f, .int .i64 b, .int .i64 m, .int .i64 e] 77)).heap[w.heap.size]? = some (.cells #[.int .i64 f, .int .i64 b, .int .i64 m, .int .i64 e] 77 (0, 0))) := heap_alloc_new _ _
  have hs1w : w.heap.size < (w.alloc (.cells #[.int .i64 f, .int .i64 b, .int .i64 m, .int .i64 e] 77)).heap.size := by simp
  cases hr : okRule f b m e
  · go_enter Try.func18, Try.ntmps18
    go_wp2_with (first | (go_at_call 46; refine (isRule_any f b m e _).mono ?_; rintro _ w2 ⟨rfl, hb2⟩) | (go_at_call 20; refine (HAW.out _).mono ?_; rintro _ w3 ⟨rfl, hb3⟩))
    go_ret
    exact ⟨rfl, below_step (below_step HB0.out hb2) hb3⟩
  by_cases h200 : 200 < n
  · go_enter Try.func18, Try.ntmps18
    go_wp2_with (first | (go_at_call 46; refine (isRule_any f b m e _).mono ?_; rintro _ w2 ⟨rfl, hb2⟩) | (go_at_call 20; refine (HAW.out _).mono ?_; rintro _ w3 ⟨rfl, hb3⟩))
    go_ret
    exact ⟨rfl, below_step (below_step HB0.out hb2) hb3⟩
  have hle : n ≤ 200 := by omega
  go_enter Try.func18, Try.ntmps18
  go_wp2_with (go_at_call 46; refine (isRule_any f b m e _).mono ?_; rintro _ w2 ⟨rfl, hb2⟩)
  have HR := Lib.hid hr; clear hr
  have HB2w : Hid (Below w.heap.size w w2) := below_step HB0.out hb2
  have HK2 : Hid (w2.heap[w.heap.size]? = some (.cells #[.int .i64 f, .int .i64 b, .int .i64 m, .int .i64 e] 77 (0, 0))) := (hb2.block _ hs1w).trans HK0.out
  have hs2 : w.heap.size < w2.heap.size := (Array.getElem?_eq_some_iff.1 HK2.out).1
  have HC : Hid (∀ X : World, Below w2.heap.size w2 X → X.cell? ⟨w.heap.size, 0, none⟩ = some (.int .i64 f) ∧ X.cell? ⟨w.heap.size, 1, none⟩ = some (.int .i64 b) ∧ X.cell? ⟨w.heap.size, 2, none⟩ = some (.int .i64 m) ∧ X.cell? ⟨w.heap.size, 3, none⟩ = some (.int .i64 e)) := fun X hX => cells4 ((hX.block _ hs2).trans HK2.out)
  clear hb2 HB0 HK0 hs1w
  go_loopw [7, 8] (fun v7 i wr => ∃ k : Nat, k ≤ n ∧ i = .int .i64 k ∧ Own w2 (upTo (fun j => wrt f b m (y j % 121)) k) v7 wr) (fun _ i _ => n - (intOf i).toNat)
  case atStart => exact ⟨0, Nat.zero_le _, rfl, Own.nil _⟩
  case round =>
    obtain ⟨k, hk, rfl, hown⟩ := hrel
    obtain ⟨v7, rfl⟩ : ∃ v7, v7 = u7 := ⟨_, rfl⟩
    obtain ⟨wo, rfl⟩ : ∃ wo, wo = wr := ⟨_, rfl⟩
    have HOW := Lib.hid hown; clear hown
    by_cases hlt : k < n
    · have ki : (0 : Int) ≤ (k : Int) := by omega
      have kj : (k : Int) < (n : Int) := by omega
      obtain ⟨sb, so, rfl, hsb, hy0, hy1⟩ := HZ.out.at (HB2w.out.trans (HOW.out.2.2.mono (by omega))) hlt
      have HCELL : Hid (∀ X : World, Below w2.heap.size w2 X → X.cell? ⟨w.heap.size, 0, none⟩ = some (.int .i64 f) ∧ X.cell? ⟨w.heap.size, 1, none⟩ = some (.int .i64 b) ∧ X.cell? ⟨w.heap.size, 2, none⟩ = some (.int .i64 m) ∧ X.cell? ⟨w.heap.size, 3, none⟩ = some (.int .i64 e) ∧ X.cell? ⟨sb, so + k, none⟩ = some (.int .u8 (y k))) := fun X hX => by
        obtain ⟨s0, s1, s2, s3⟩ := HC.out X hX
        obtain ⟨b2, o2, e2, h2, _⟩ := HZ.out.at (HB2w.out.trans (hX.mono (by omega))) hlt
        cases e2
        exact ⟨s0, s1, s2, s3, h2⟩
      have HL1 : Hid (upTo (fun j => wrt f b m (y j % 121)) (k + 1) = upTo (fun j => wrt f b m (y j % 121)) k ++ [wrt f b m (y k % 121)]) := upTo_succ _ _
      have hl := upTo_length (fun j => wrt f b m (y j % 121)) k
      have HWR : Hid (∀ W, Calls Try.prog 53 #[.agg #[.int .i64 f, .int .i64 b, .int .i64 m, .int .i64 e], .int .i64 (y k % 121)] W fun r w' => r = .returned (.int .i64 (wrt f b m (y k % 121))) ∧ Below W.heap.size W w') := fun W => refWrite_any f b m e (y k % 121) W HR.out (by omega) (by omega)
      generalize upTo (fun j => wrt f b m (y j % 121)) k = l at *
      generalize y k = yk at *
      generalize wrt f b m (yk % 121) = x at *
      clear hsb
      have w1e : yk.tmod 121 = yk % 121 := Int.tmod_eq_emod_of_nonneg hy0
      have w2e : IntKind.i64.wrap (yk % 121) = yk % 121 := IntWalk.i64_in _ (by omega)
      have w3e : IntKind.i64.wrap yk = yk := IntWalk.i64_in _ (by omega)
      go_upto_region 7 with fail
      have HOX := Lib.hid (HOW.out.below ((Below.refl wo.heap.size wo).drew))
      refine wp_region_held_drew (S := fun X => X.cell? ⟨w.heap.size, 0, none⟩ = some (.int .i64 f) ∧ X.cell? ⟨w.heap.size, 1, none⟩ = some (.int .i64 b) ∧ X.cell? ⟨w.heap.size, 2, none⟩ = some (.int .i64 m) ∧ X.cell? ⟨w.heap.size, 3, none⟩ = some (.int .i64 e) ∧ X.cell? ⟨sb, so + k, none⟩ = some (.int .u8 yk)) (by kernel_rfl) (HCELL.out _ HOX.out.2.2) (fun hS => ?_)
      generalize World.drew wo = X at *
      refine wpAnyH_take (i := 0) (oi := ⟨some 31, Op.move (Operand.tmp 7), _, _, _, _⟩) (v := v7) rfl (by kernel_rfl) (by kernel_rfl) (by kernel_rfl) (fun _ _ _ h => h) (Or.inl ⟨by rfl, ?_⟩) hS ?_
      · intro W' hSw; (try dsimp only at hSw); obtain ⟨s0, s1, s2, s3, s4⟩ := hSw; go_simp
      try simp only [Act.put, List.setIfInBounds_toArray, List.set_cons_zero, List.set_cons_succ]
      refine wpAnyH_take (i := 1) (oi := ⟨some 32, Op.load 77 (Operand.tmp 3), _, _, _, _⟩) (v := .agg #[.int .i64 f, .int .i64 b, .int .i64 m, .int .i64 e]) rfl (by kernel_rfl) (by kernel_rfl) (by kernel_rfl) (fun _ _ _ h => h) (Or.inl ⟨by rfl, ?_⟩) hS ?_
      · intro W' hSw; (try dsimp only at hSw); obtain ⟨s0, s1, s2, s3, s4⟩ := hSw; go_simp
      try simp only [Act.put, List.setIfInBounds_toArray, List.set_cons_zero, List.set_cons_succ]
      refine wpAnyH_take (i := 2) (oi := ⟨some 33, Op.move (Operand.tmp 1), _, _, _, _⟩) (v := .slice (some ⟨sb, so, none⟩) n cap) rfl (by kernel_rfl) (by kernel_rfl) (by kernel_rfl) (fun _ _ _ h => h) (Or.inl ⟨by rfl, ?_⟩) hS ?_
      · intro W' hSw; (try dsimp only at hSw); obtain ⟨s0, s1, s2, s3, s4⟩ := hSw; go_simp
      try simp only [Act.put, List.setIfInBounds_toArray, List.set_cons_zero, List.set_cons_succ]
      refine wpAnyH_take (i := 3) (oi := ⟨some 34, Op.move (Operand.tmp 8), _, _, _, _⟩) (v := .int .i64 k) rfl (by kernel_rfl) (by kernel_rfl) (by kernel_rfl) (fun _ _ _ h => h) (Or.inl ⟨by rfl, ?_⟩) hS ?_
      · intro W' hSw; (try dsimp only at hSw); obtain ⟨s0, s1, s2, s3, s4⟩ := hSw; go_simp
      try simp only [Act.put, List.setIfInBounds_toArray, List.set_cons_zero, List.set_cons_succ]
      refine wpAnyH_take (i := 4) (oi := ⟨some 35, Op.indexAddr 66 (Operand.tmp 33) (Operand.tmp 34), _, _, _, _⟩) (v := .pointer (some ⟨sb, so + k, none⟩)) rfl (by kernel_rfl) (by kernel_rfl) (by kernel_rfl) (fun _ _ _ h => h) (Or.inl ⟨by rfl, ?_⟩) hS ?_
      · intro W' hSw; (try dsimp only at hSw); obtain ⟨s0, s1, s2, s3, s4⟩ := hSw; go_simp
      try simp only [Act.put, List.setIfInBounds_toArray, List.set_cons_zero, List.set_cons_succ]
      refine wpAnyH_take (i := 5) (oi := ⟨some 36, Op.load 5 (Operand.tmp 35), _, _, _, _⟩) (v := .int .u8 yk) rfl (by kernel_rfl) (by kernel_rfl) (by kernel_rfl) (fun _ _ _ h => h) (Or.inl ⟨by rfl, ?_⟩) hS ?_
      · intro W' hSw; (try dsimp only at hSw); obtain ⟨s0, s1, s2, s3, s4⟩ := hSw; go_simp
      try simp only [Act.put, List.setIfInBounds_toArray, List.set_cons_zero, List.set_cons_succ]
      refine wpAnyH_take (i := 6) (oi := ⟨some 37, Op.convert 5 3 (Operand.tmp 36), _, _, _, _⟩) (v := .int .i64 yk) rfl (by kernel_rfl) (by kernel_rfl) (by kernel_rfl) (fun _ _ _ h => h) (Or.inl ⟨by rfl, ?_⟩) hS ?_
      · intro W' hSw; (try dsimp only at hSw); obtain ⟨s0, s1, s2, s3, s4⟩ := hSw; go_simp
      try simp only [Act.put, List.setIfInBounds_toArray, List.set_cons_zero, List.set_cons_succ]
      refine wpAnyH_take (i := 7) (oi := ⟨some 38, Op.binOp BinOp.rem 3 (Operand.tmp 37) (Operand.const (Value.int IntKind.i64 121)) 3, _, _, _, _⟩) (v := .int .i64 (yk % 121)) rfl (by kernel_rfl) (by kernel_rfl) (by kernel_rfl) (fun _ _ _ h => h) (Or.inl ⟨by rfl, ?_⟩) hS ?_
      · intro W' hSw; (try dsimp only at hSw); obtain ⟨s0, s1, s2, s3, s4⟩ := hSw; go_simp
      try simp only [Act.put, List.setIfInBounds_toArray, List.set_cons_zero, List.set_cons_succ]
      refine wpAnyH_ready (rs := [8]) (by kernel_rfl) (by simp) ?_
      refine AllReadyH.cons (o := ⟨some 39, Op.call { callee := Callee.value (Operand.func 53), args := #[Operand.tmp 32, Operand.tmp 38], argTypes := #[77, 3] }, _, _, _, _⟩) rfl (fun K hK => ?_) ?_
      ·
        go_simp
        refine (HWR.out X).mono ?_
        rintro _ X0 ⟨rfl, hx0⟩
        (try go_wp2_with fail)
        have HO0 := Lib.hid (HOX.out.below hx0)
        refine hK.out _ _ (HCELL.out _ HO0.out.2.2) (fun hS => ?_)
        clear hK K
        try simp only [Act.put, List.setIfInBounds_toArray, List.set_cons_zero, List.set_cons_succ]
        clear hx0
        refine wpAnyH_ready (rs := [9]) (by kernel_rfl) (by simp) ?_
        refine AllReadyH.cons (o := ⟨some 40, Op.buildSlice 22 1 #[(0, Operand.tmp 39)], _, _, _, _⟩) rfl (fun K hK => ?_) ?_
        ·
          go_simp
          have HO1 := Lib.hid (HO0.out.below (below_alloc X0 (.cells #[.int .i64 x] 3)))
          have HN1 : Hid ((X0.alloc (.cells #[.int .i64 x] 3)).heap[X0.heap.size]? = some (.cells #[.int .i64 x] 3 (0, 0))) := heap_alloc_new X0 _
          refine hK.out _ _ (HCELL.out _ HO1.out.2.2) (fun hS => ?_)
          clear hK K
          try simp only [Act.put, List.setIfInBounds_toArray, List.set_cons_zero, List.set_cons_succ]
          generalize X0.heap.size = BN1 at *
          generalize X0.alloc (.cells #[.int .i64 x] 3) = X1 at *
          refine wpAnyH_ready (rs := [10]) (by kernel_rfl) (by simp) ?_
          refine AllReadyH.cons (o := ⟨some 41, Op.call { callee := Callee.builtin Builtin.append, args := #[Operand.tmp 31, Operand.tmp 40], argTypes := #[22, 22] }, _, _, _, _⟩) rfl (fun K hK => ?_) ?_
          ·
            refine step_append_il (by rfl) (.tmp 31) (.tmp 40) (by rfl) v7 l x (by rfl) HO1.out.1 (by omega) ⟨BN1, 0, none⟩ (by rfl) (World.news_of_block HN1.out) ?_
            intro v2 X2 happ2
            have HO2 := Lib.hid (HO1.out.app happ2)
            clear happ2
            refine hK.out _ _ (HCELL.out _ HO2.out.2.2) (fun hS => ?_)
            clear hK K
            try simp only [Act.put, List.setIfInBounds_toArray, List.set_cons_zero, List.set_cons_succ]
            refine wpAnyH_take (i := 11) (oi := ⟨some 7, Op.assign (Operand.tmp 41), _, _, _, _⟩) (v := v2) rfl (by kernel_rfl) (by kernel_rfl) (by kernel_rfl) (fun _ _ _ h => h) (Or.inl ⟨by rfl, ?_⟩) hS ?_
            · intro W' hSw; (try dsimp only at hSw); obtain ⟨s0, s1, s2, s3, s4⟩ := hSw; go_simp
            try simp only [Act.put, List.setIfInBounds_toArray, List.set_cons_zero, List.set_cons_succ]
            refine wpAnyH_done (by kernel_rfl) ?_ _
            go_wp2
            go_roundw
            case rel => exact ⟨k + 1, by omega, by go_num, by rw [HL1.out]; exact HO2.out⟩
            case measure => simp [intOf]; omega
          exact AllReadyH.nil
        exact AllReadyH.nil
      exact AllReadyH.nil
    · obtain rfl : k = n := by omega
      have HL := HOW.out.len
      rw [upTo_length] at HL
      obtain ⟨av, ac, rfl⟩ := HL
      have HI : Hid (∀ X, Below wo.heap.size wo X → IntsAt X (.slice av k ac) k (fun j => wrt f b m (y j % 121))) := fun X hX => (HOW.out.1.below hX).upTo
      have HYB : Hid (∀ j, j < k → 0 ≤ y j % 121 ∧ y j % 121 ≤ 120) := fun j hj => by omega
      obtain ⟨a0, a1, b0, b1, t1, t2, t3, t4, t5⟩ := tables_counts (f := f) (b := b) (m := m) (e := e) HR.out (1 + split % 120) (by omega) (by omega) (z := fun j => wrt f b m (y j % 121)) (y := fun j => (y j % 121).toNat) hle (fun j hj => ⟨by have := HYB.out j hj; omega, by rw [Int.toNat_of_nonneg (HYB.out j hj).1]⟩)
      have HC1 := Lib.hid (fun v W (h : IntsAt W v k (fun j => wrt f b m (y j % 121))) => count_any f b m e 0 (1 + split % 120 - 1) v k _ W h (by omega))
      have HC2 := Lib.hid (fun v W (h : IntsAt W v k (fun j => wrt f b m (y j % 121))) => count_any f b m e (1 + split % 120) 120 v k _ W h (by omega))
      have HC3 := Lib.hid (fun v W (h : IntsAt W v k (fun j => wrt f b m (y j % 121))) => count_any f b m e 0 120 v k _ W h (by omega))
      rw [t3] at HC1
      rw [t4] at HC2
      rw [t5] at HC3
      clear t3 t4 t5
      generalize (fun j => wrt f b m (y j % 121)) = zz at *
      have HBW : Hid (∀ X, Below wo.heap.size wo X → Below w2.heap.size w2 X) := fun X hX => below_step HOW.out.2.2 hX
      have HXwo : Hid (Below wo.heap.size wo wo) := Below.refl _ _
      go_upto_region 9 with fail
      have hm1 : 1 ≤ 1 + split % 120 := by omega
      have hm2 : 1 + split % 120 ≤ 120 := by omega
      generalize 1 + split % 120 = mm at *
      obtain ⟨d0, d1, d2, d3⟩ := HC.out wo (HBW.out _ HXwo.out)
      go_wp2_with fail
      refine (rule_any f b m e _).mono ?_
      rintro _ x1 ⟨rfl, hb1⟩
      have HX1 : Hid (Below wo.heap.size wo x1) := below_step HXwo.out hb1
      clear d0 d1 d2 d3
      go_wp2_with fail
      refine (list_any _ k zz _ (HI.out _ HX1.out).into (by omega)).mono ?_
      rintro _ x2 ⟨v2, rfl, hi2, hb2⟩
      have HX2 := Lib.hid (below_step HX1.out hb2)
      have HV2 := Lib.hid hi2
      clear hi2
      go_wp2_with fail
      refine (between_any 0 (mm - 1) _).mono ?_
      rintro _ x3 ⟨rfl, hb3⟩
      go_wp2_with fail
      refine (HC1.out _ _ (HV2.out.below hb3)).mono ?_
      rintro _ x4 ⟨rfl, hb4⟩
      have HX4 := Lib.hid (below_step (below_step HX2.out hb3) hb4)
      have HYwo := Lib.hid (below_step (below_step (below_step hb1 hb2) hb3) hb4)
      clear hb1 hb2 hb3 hb4
      go_upto_region 10 with fail
      have HXy0 : Hid (Below wo.heap.size wo (x4.alloc (.cells #[.int .i64 a0, .int .i64 a1] 41))) := HX4.out.trans ((below_alloc x4 _).mono HX4.out.size)
      have HB0 : Hid ((x4.alloc (.cells #[.int .i64 a0, .int .i64 a1] 41)).heap[x4.heap.size]? = some (.cells #[.int .i64 a0, .int .i64 a1] 41 (0, 0))) := heap_alloc_new x4 _
      have HZ0 : Hid (Below x4.heap.size x4 (x4.alloc (.cells #[.int .i64 a0, .int .i64 a1] 41))) := below_alloc x4 _
      clear HZ0 HYwo HX1 HX2 HV2
      generalize (x4.alloc (.cells #[.int .i64 a0, .int .i64 a1] 41)) = y0 at *
      generalize x4.heap.size = B0 at *
      clear HX4 HXwo
      obtain ⟨d0, d1, d2, d3⟩ := HC.out y0 (HBW.out _ HXy0.out)
      go_wp2_with fail
      refine (rule_any f b m e _).mono ?_
      rintro _ x1 ⟨rfl, hb1⟩
      have HX1 : Hid (Below wo.heap.size wo x1) := below_step HXy0.out hb1
      clear d0 d1 d2 d3
      go_wp2_with fail
      refine (list_any _ k zz _ (HI.out _ HX1.out).into (by omega)).mono ?_
      rintro _ x2 ⟨v2, rfl, hi2, hb2⟩
      have HX2 := Lib.hid (below_step HX1.out hb2)
      have HV2 := Lib.hid hi2
      clear hi2
      go_wp2_with fail
      refine (between_any mm 120 _).mono ?_
      rintro _ x3 ⟨rfl, hb3⟩
      go_wp2_with fail
      refine (HC2.out _ _ (HV2.out.below hb3)).mono ?_
      rintro _ x4 ⟨rfl, hb4⟩
      have HX4 := Lib.hid (below_step (below_step HX2.out hb3) hb4)
      have HYy0 := Lib.hid (below_step (below_step (below_step hb1 hb2) hb3) hb4)
      clear hb1 hb2 hb3 hb4
      go_upto_region 11 with fail
      have HXy1 : Hid (Below wo.heap.size wo (x4.alloc (.cells #[.int .i64 b0, .int .i64 b1] 41))) := HX4.out.trans ((below_alloc x4 _).mono HX4.out.size)
      have HB1 : Hid ((x4.alloc (.cells #[.int .i64 b0, .int .i64 b1] 41)).heap[x4.heap.size]? = some (.cells #[.int .i64 b0, .int .i64 b1] 41 (0, 0))) := heap_alloc_new x4 _
      have HZ1 : Hid (Below x4.heap.size x4 (x4.alloc (.cells #[.int .i64 b0, .int .i64 b1] 41))) := below_alloc x4 _
      have HB0 : Hid ((x4.alloc (.cells #[.int .i64 b0, .int .i64 b1] 41)).heap[B0]? = some _) := (HZ1.out.block _ (Array.getElem?_eq_some_iff.1 ((HYy0.out.block _ (Array.getElem?_eq_some_iff.1 HB0.out).1).trans HB0.out)).1).trans ((HYy0.out.block _ (Array.getElem?_eq_some_iff.1 HB0.out).1).trans HB0.out)
      clear HZ1 HYy0 HX1 HX2 HV2
      generalize (x4.alloc (.cells #[.int .i64 b0, .int .i64 b1] 41)) = y1 at *
      generalize x4.heap.size = B1 at *
      clear HX4 HXy0
      obtain ⟨d0, d1, d2, d3⟩ := HC.out y1 (HBW.out _ HXy1.out)
      go_wp2_with fail
      refine (rule_any f b m e _).mono ?_
      rintro _ x1 ⟨rfl, hb1⟩
      have HX1 : Hid (Below wo.heap.size wo x1) := below_step HXy1.out hb1
      clear d0 d1 d2 d3
      go_wp2_with fail
      refine (list_any _ k zz _ (HI.out _ HX1.out).into (by omega)).mono ?_
      rintro _ x2 ⟨v2, rfl, hi2, hb2⟩
      have HX2 := Lib.hid (below_step HX1.out hb2)
      have HV2 := Lib.hid hi2
      clear hi2
      go_wp2_with fail
      refine (between_any 0 120 _).mono ?_
      rintro _ x3 ⟨rfl, hb3⟩
      go_wp2_with fail
      refine (HC3.out _ _ (HV2.out.below hb3)).mono ?_
      rintro _ x4 ⟨rfl, hb4⟩
      have HX4 := Lib.hid (below_step (below_step HX2.out hb3) hb4)
      have HYy1 := Lib.hid (below_step (below_step (below_step hb1 hb2) hb3) hb4)
      clear hb1 hb2 hb3 hb4
      go_upto_region 12 with fail
      have HXy2 : Hid (Below wo.heap.size wo (x4.alloc (.cells #[.int .i64 k, .int .i64 k] 41))) := HX4.out.trans ((below_alloc x4 _).mono HX4.out.size)
      have HB2 : Hid ((x4.alloc (.cells #[.int .i64 k, .int .i64 k] 41)).heap[x4.heap.size]? = some (.cells #[.int .i64 k, .int .i64 k] 41 (0, 0))) := heap_alloc_new x4 _
      have HZ2 : Hid (Below x4.heap.size x4 (x4.alloc (.cells #[.int .i64 k, .int .i64 k] 41))) := below_alloc x4 _
      have HB0 : Hid ((x4.alloc (.cells #[.int .i64 k, .int .i64 k] 41)).heap[B0]? = some _) := (HZ2.out.block _ (Array.getElem?_eq_some_iff.1 ((HYy1.out.block _ (Array.getElem?_eq_some_iff.1 HB0.out).1).trans HB0.out)).1).trans ((HYy1.out.block _ (Array.getElem?_eq_some_iff.1 HB0.out).1).trans HB0.out)
      have HB1 : Hid ((x4.alloc (.cells #[.int .i64 k, .int .i64 k] 41)).heap[B1]? = some _) := (HZ2.out.block _ (Array.getElem?_eq_some_iff.1 ((HYy1.out.block _ (Array.getElem?_eq_some_iff.1 HB1.out).1).trans HB1.out)).1).trans ((HYy1.out.block _ (Array.getElem?_eq_some_iff.1 HB1.out).1).trans HB1.out)
      clear HZ2 HYy1 HX1 HX2 HV2
      generalize (x4.alloc (.cells #[.int .i64 k, .int .i64 k] 41)) = y2 at *
      generalize x4.heap.size = B2 at *
      clear HX4 HXy1
      have hw1 : IntKind.i64.wrap (a0 + b1) = (k : Int) := by rw [t1]; exact IntWalk.i64_in _ (by omega)
      have hw2 : IntKind.i64.wrap (a1 + b0) = (k : Int) := by rw [t2]; exact IntWalk.i64_in _ (by omega)
      have HBZ : Hid (Below w.heap.size w y2) := HB2w.out.trans ((HBW.out _ HXy2.out).mono HB2w.out.size)
      have HCELL : Hid (∀ X : World, Below y2.heap.size y2 X → X.cell? ⟨B0, 0, none⟩ = some (.int .i64 a0) ∧ X.cell? ⟨B0, 1, none⟩ = some (.int .i64 a1) ∧ X.cell? ⟨B1, 0, none⟩ = some (.int .i64 b0) ∧ X.cell? ⟨B1, 1, none⟩ = some (.int .i64 b1) ∧ X.cell? ⟨B2, 0, none⟩ = some (.int .i64 k) ∧ X.cell? ⟨B2, 1, none⟩ = some (.int .i64 k)) := fun X hX => by
        have h0 := (hX.block _ (Array.getElem?_eq_some_iff.1 HB0.out).1).trans HB0.out
        have h1 := (hX.block _ (Array.getElem?_eq_some_iff.1 HB1.out).1).trans HB1.out
        have h2 := (hX.block _ (Array.getElem?_eq_some_iff.1 HB2.out).1).trans HB2.out
        exact ⟨cell_of_row _ _ 0 _ _ _ h0, cell_of_row _ _ 1 _ _ _ h0, cell_of_row _ _ 0 _ _ _ h1, cell_of_row _ _ 1 _ _ _ h1, cell_of_row _ _ 0 _ _ _ h2, cell_of_row _ _ 1 _ _ _ h2⟩
      have HEQ : Hid (∀ W, (binOp .eql 41 (.agg #[.int .i64 (k : Int), .int .i64 (k : Int)]) (.agg #[.int .i64 (k : Int), .int .i64 (k : Int)])).run Try.prog W = .ok (.bool true) W) := fun W => by rw [eql_range]; simp
      clear t1 t2 HC1 HC2 HC3 HI
      have HM : Hid (Below y2.heap.size y2 y2.drew) := (Below.refl _ _).drew
      refine wp_region_held_drew (S := fun X => X.cell? ⟨B0, 0, none⟩ = some (.int .i64 a0) ∧ X.cell? ⟨B0, 1, none⟩ = some (.int .i64 a1) ∧ X.cell? ⟨B1, 0, none⟩ = some (.int .i64 b0) ∧ X.cell? ⟨B1, 1, none⟩ = some (.int .i64 b1) ∧ X.cell? ⟨B2, 0, none⟩ = some (.int .i64 k) ∧ X.cell? ⟨B2, 1, none⟩ = some (.int .i64 k)) (by kernel_rfl) (HCELL.out _ HM.out) (fun hS => ?_)
      generalize World.drew y2 = X at *
      refine wpAnyH_take (i := 0) (oi := ⟨some 76, Op.move (Operand.tmp 11), _, _, _, _⟩) (v := .int .i64 0) rfl (by kernel_rfl) (by kernel_rfl) (by kernel_rfl) (fun _ _ _ h => h) (Or.inl ⟨by rfl, ?_⟩) hS ?_
      · intro W' hSw; (try dsimp only at hSw); obtain ⟨s0, s1, s2, s3, s4, s5⟩ := hSw; go_simp
      try simp only [Act.put, List.setIfInBounds_toArray, List.set_cons_zero, List.set_cons_succ]
      refine wpAnyH_take (i := 1) (oi := ⟨some 77, Op.binOp BinOp.eql 24 (Operand.tmp 76) (Operand.const (Value.int IntKind.i64 0)) 24, _, _, _, _⟩) (v := .bool true) rfl (by kernel_rfl) (by kernel_rfl) (by kernel_rfl) (fun _ _ _ h => h) (Or.inl ⟨by rfl, ?_⟩) hS ?_
      · intro W' hSw; (try dsimp only at hSw); obtain ⟨s0, s1, s2, s3, s4, s5⟩ := hSw; go_simp
      try simp only [Act.put, List.setIfInBounds_toArray, List.set_cons_zero, List.set_cons_succ]
      refine wpAnyH_take (i := 2) (oi := ⟨some 78, Op.move (Operand.tmp 77), _, _, _, _⟩) (v := .bool true) rfl (by kernel_rfl) (by kernel_rfl) (by kernel_rfl) (fun _ _ _ h => h) (Or.inl ⟨by rfl, ?_⟩) hS ?_
      · intro W' hSw; (try dsimp only at hSw); obtain ⟨s0, s1, s2, s3, s4, s5⟩ := hSw; go_simp
      try simp only [Act.put, List.setIfInBounds_toArray, List.set_cons_zero, List.set_cons_succ]
      refine wpAnyH_take (i := 3) (oi := ⟨some 79, Op.move (Operand.tmp 13), _, _, _, _⟩) (v := .int .i64 0) rfl (by kernel_rfl) (by kernel_rfl) (by kernel_rfl) (fun _ _ _ h => h) (Or.inl ⟨by rfl, ?_⟩) hS ?_
      · intro W' hSw; (try dsimp only at hSw); obtain ⟨s0, s1, s2, s3, s4, s5⟩ := hSw; go_simp
      try simp only [Act.put, List.setIfInBounds_toArray, List.set_cons_zero, List.set_cons_succ]
      refine wpAnyH_take (i := 4) (oi := ⟨some 80, Op.binOp BinOp.eql 24 (Operand.tmp 79) (Operand.const (Value.int IntKind.i64 0)) 24, _, _, _, _⟩) (v := .bool true) rfl (by kernel_rfl) (by kernel_rfl) (by kernel_rfl) (fun _ _ _ h => h) (Or.inl ⟨by rfl, ?_⟩) hS ?_
      · intro W' hSw; (try dsimp only at hSw); obtain ⟨s0, s1, s2, s3, s4, s5⟩ := hSw; go_simp
      try simp only [Act.put, List.setIfInBounds_toArray, List.set_cons_zero, List.set_cons_succ]
      refine wpAnyH_take (i := 5) (oi := ⟨some 81, Op.pick (Operand.tmp 78) (Operand.tmp 80) (Operand.const (Value.bool false)), _, _, _, _⟩) (v := .bool true) rfl (by kernel_rfl) (by kernel_rfl) (by kernel_rfl) (fun _ _ _ h => h) (Or.inl ⟨by rfl, ?_⟩) hS ?_
      · intro W' hSw; (try dsimp only at hSw); obtain ⟨s0, s1, s2, s3, s4, s5⟩ := hSw; go_simp
      try simp only [Act.put, List.setIfInBounds_toArray, List.set_cons_zero, List.set_cons_succ]
      refine wpAnyH_take (i := 6) (oi := ⟨some 82, Op.move (Operand.tmp 81), _, _, _, _⟩) (v := .bool true) rfl (by kernel_rfl) (by kernel_rfl) (by kernel_rfl) (fun _ _ _ h => h) (Or.inl ⟨by rfl, ?_⟩) hS ?_
      · intro W' hSw; (try dsimp only at hSw); obtain ⟨s0, s1, s2, s3, s4, s5⟩ := hSw; go_simp
      try simp only [Act.put, List.setIfInBounds_toArray, List.set_cons_zero, List.set_cons_succ]
      refine wpAnyH_take (i := 7) (oi := ⟨some 83, Op.fieldAddr 41 (Operand.tmp 10) 0, _, _, _, _⟩) (v := .pointer (some ⟨B0, 0, none⟩)) rfl (by kernel_rfl) (by kernel_rfl) (by kernel_rfl) (fun _ _ _ h => h) (Or.inl ⟨by rfl, ?_⟩) hS ?_
      · intro W' hSw; (try dsimp only at hSw); obtain ⟨s0, s1, s2, s3, s4, s5⟩ := hSw; go_simp
      try simp only [Act.put, List.setIfInBounds_toArray, List.set_cons_zero, List.set_cons_succ]
      refine wpAnyH_take (i := 8) (oi := ⟨some 84, Op.load 3 (Operand.tmp 83), _, _, _, _⟩) (v := .int .i64 a0) rfl (by kernel_rfl) (by kernel_rfl) (by kernel_rfl) (fun _ _ _ h => h) (Or.inl ⟨by rfl, ?_⟩) hS ?_
      · intro W' hSw; (try dsimp only at hSw); obtain ⟨s0, s1, s2, s3, s4, s5⟩ := hSw; go_simp
      try simp only [Act.put, List.setIfInBounds_toArray, List.set_cons_zero, List.set_cons_succ]
      refine wpAnyH_take (i := 9) (oi := ⟨some 85, Op.fieldAddr 41 (Operand.tmp 12) 1, _, _, _, _⟩) (v := .pointer (some ⟨B1, 1, none⟩)) rfl (by kernel_rfl) (by kernel_rfl) (by kernel_rfl) (fun _ _ _ h => h) (Or.inl ⟨by rfl, ?_⟩) hS ?_
      · intro W' hSw; (try dsimp only at hSw); obtain ⟨s0, s1, s2, s3, s4, s5⟩ := hSw; go_simp
      try simp only [Act.put, List.setIfInBounds_toArray, List.set_cons_zero, List.set_cons_succ]
      refine wpAnyH_take (i := 10) (oi := ⟨some 86, Op.load 3 (Operand.tmp 85), _, _, _, _⟩) (v := .int .i64 b1) rfl (by kernel_rfl) (by kernel_rfl) (by kernel_rfl) (fun _ _ _ h => h) (Or.inl ⟨by rfl, ?_⟩) hS ?_
      · intro W' hSw; (try dsimp only at hSw); obtain ⟨s0, s1, s2, s3, s4, s5⟩ := hSw; go_simp
      try simp only [Act.put, List.setIfInBounds_toArray, List.set_cons_zero, List.set_cons_succ]
      refine wpAnyH_take (i := 11) (oi := ⟨some 87, Op.binOp BinOp.add 3 (Operand.tmp 84) (Operand.tmp 86) 3, _, _, _, _⟩) (v := .int .i64 k) rfl (by kernel_rfl) (by kernel_rfl) (by kernel_rfl) (fun _ _ _ h => h) (Or.inl ⟨by rfl, ?_⟩) hS ?_
      · intro W' hSw; (try dsimp only at hSw); obtain ⟨s0, s1, s2, s3, s4, s5⟩ := hSw; go_simp
      try simp only [Act.put, List.setIfInBounds_toArray, List.set_cons_zero, List.set_cons_succ]
      refine wpAnyH_take (i := 12) (oi := ⟨some 88, Op.move (Operand.tmp 7), _, _, _, _⟩) (v := .slice av k ac) rfl (by kernel_rfl) (by kernel_rfl) (by kernel_rfl) (fun _ _ _ h => h) (Or.inl ⟨by rfl, ?_⟩) hS ?_
      · intro W' hSw; (try dsimp only at hSw); obtain ⟨s0, s1, s2, s3, s4, s5⟩ := hSw; go_simp
      try simp only [Act.put, List.setIfInBounds_toArray, List.set_cons_zero, List.set_cons_succ]
      refine wpAnyH_take (i := 13) (oi := ⟨some 89, Op.call { callee := Callee.builtin Builtin.len, args := #[Operand.tmp 88], argTypes := #[22] }, _, _, _, _⟩) (v := .int .i64 k) rfl (by kernel_rfl) (by kernel_rfl) (by kernel_rfl) (fun _ _ _ h => h) (Or.inl ⟨by rfl, ?_⟩) hS ?_
      · intro W' hSw; (try dsimp only at hSw); obtain ⟨s0, s1, s2, s3, s4, s5⟩ := hSw; go_simp
      try simp only [Act.put, List.setIfInBounds_toArray, List.set_cons_zero, List.set_cons_succ]
      refine wpAnyH_take (i := 14) (oi := ⟨some 90, Op.binOp BinOp.eql 3 (Operand.tmp 87) (Operand.tmp 89) 3, _, _, _, _⟩) (v := .bool true) rfl (by kernel_rfl) (by kernel_rfl) (by kernel_rfl) (fun _ _ _ h => h) (Or.inl ⟨by rfl, ?_⟩) hS ?_
      · intro W' hSw; (try dsimp only at hSw); obtain ⟨s0, s1, s2, s3, s4, s5⟩ := hSw; go_simp
      try simp only [Act.put, List.setIfInBounds_toArray, List.set_cons_zero, List.set_cons_succ]
      refine wpAnyH_take (i := 15) (oi := ⟨some 91, Op.pick (Operand.tmp 82) (Operand.tmp 90) (Operand.const (Value.bool false)), _, _, _, _⟩) (v := .bool true) rfl (by kernel_rfl) (by kernel_rfl) (by kernel_rfl) (fun _ _ _ h => h) (Or.inl ⟨by rfl, ?_⟩) hS ?_
      · intro W' hSw; (try dsimp only at hSw); obtain ⟨s0, s1, s2, s3, s4, s5⟩ := hSw; go_simp
      try simp only [Act.put, List.setIfInBounds_toArray, List.set_cons_zero, List.set_cons_succ]
      refine wpAnyH_take (i := 16) (oi := ⟨some 92, Op.move (Operand.tmp 91), _, _, _, _⟩) (v := .bool true) rfl (by kernel_rfl) (by kernel_rfl) (by kernel_rfl) (fun _ _ _ h => h) (Or.inl ⟨by rfl, ?_⟩) hS ?_
      · intro W' hSw; (try dsimp only at hSw); obtain ⟨s0, s1, s2, s3, s4, s5⟩ := hSw; go_simp
      try simp only [Act.put, List.setIfInBounds_toArray, List.set_cons_zero, List.set_cons_succ]
      refine wpAnyH_take (i := 17) (oi := ⟨some 93, Op.fieldAddr 41 (Operand.tmp 10) 1, _, _, _, _⟩) (v := .pointer (some ⟨B0, 1, none⟩)) rfl (by kernel_rfl) (by kernel_rfl) (by kernel_rfl) (fun _ _ _ h => h) (Or.inl ⟨by rfl, ?_⟩) hS ?_
      · intro W' hSw; (try dsimp only at hSw); obtain ⟨s0, s1, s2, s3, s4, s5⟩ := hSw; go_simp
      try simp only [Act.put, List.setIfInBounds_toArray, List.set_cons_zero, List.set_cons_succ]
      refine wpAnyH_take (i := 18) (oi := ⟨some 94, Op.load 3 (Operand.tmp 93), _, _, _, _⟩) (v := .int .i64 a1) rfl (by kernel_rfl) (by kernel_rfl) (by kernel_rfl) (fun _ _ _ h => h) (Or.inl ⟨by rfl, ?_⟩) hS ?_
      · intro W' hSw; (try dsimp only at hSw); obtain ⟨s0, s1, s2, s3, s4, s5⟩ := hSw; go_simp
      try simp only [Act.put, List.setIfInBounds_toArray, List.set_cons_zero, List.set_cons_succ]
      refine wpAnyH_take (i := 19) (oi := ⟨some 95, Op.fieldAddr 41 (Operand.tmp 12) 0, _, _, _, _⟩) (v := .pointer (some ⟨B1, 0, none⟩)) rfl (by kernel_rfl) (by kernel_rfl) (by kernel_rfl) (fun _ _ _ h => h) (Or.inl ⟨by rfl, ?_⟩) hS ?_
      · intro W' hSw; (try dsimp only at hSw); obtain ⟨s0, s1, s2, s3, s4, s5⟩ := hSw; go_simp
      try simp only [Act.put, List.setIfInBounds_toArray, List.set_cons_zero, List.set_cons_succ]
      refine wpAnyH_take (i := 20) (oi := ⟨some 96, Op.load 3 (Operand.tmp 95), _, _, _, _⟩) (v := .int .i64 b0) rfl (by kernel_rfl) (by kernel_rfl) (by kernel_rfl) (fun _ _ _ h => h) (Or.inl ⟨by rfl, ?_⟩) hS ?_
      · intro W' hSw; (try dsimp only at hSw); obtain ⟨s0, s1, s2, s3, s4, s5⟩ := hSw; go_simp
      try simp only [Act.put, List.setIfInBounds_toArray, List.set_cons_zero, List.set_cons_succ]
      refine wpAnyH_take (i := 21) (oi := ⟨some 97, Op.binOp BinOp.add 3 (Operand.tmp 94) (Operand.tmp 96) 3, _, _, _, _⟩) (v := .int .i64 k) rfl (by kernel_rfl) (by kernel_rfl) (by kernel_rfl) (fun _ _ _ h => h) (Or.inl ⟨by rfl, ?_⟩) hS ?_
      · intro W' hSw; (try dsimp only at hSw); obtain ⟨s0, s1, s2, s3, s4, s5⟩ := hSw; go_simp
      try simp only [Act.put, List.setIfInBounds_toArray, List.set_cons_zero, List.set_cons_succ]
      refine wpAnyH_take (i := 22) (oi := ⟨some 98, Op.move (Operand.tmp 7), _, _, _, _⟩) (v := .slice av k ac) rfl (by kernel_rfl) (by kernel_rfl) (by kernel_rfl) (fun _ _ _ h => h) (Or.inl ⟨by rfl, ?_⟩) hS ?_
      · intro W' hSw; (try dsimp only at hSw); obtain ⟨s0, s1, s2, s3, s4, s5⟩ := hSw; go_simp
      try simp only [Act.put, List.setIfInBounds_toArray, List.set_cons_zero, List.set_cons_succ]
      refine wpAnyH_take (i := 23) (oi := ⟨some 99, Op.call { callee := Callee.builtin Builtin.len, args := #[Operand.tmp 98], argTypes := #[22] }, _, _, _, _⟩) (v := .int .i64 k) rfl (by kernel_rfl) (by kernel_rfl) (by kernel_rfl) (fun _ _ _ h => h) (Or.inl ⟨by rfl, ?_⟩) hS ?_
      · intro W' hSw; (try dsimp only at hSw); obtain ⟨s0, s1, s2, s3, s4, s5⟩ := hSw; go_simp
      try simp only [Act.put, List.setIfInBounds_toArray, List.set_cons_zero, List.set_cons_succ]
      refine wpAnyH_take (i := 24) (oi := ⟨some 100, Op.binOp BinOp.eql 3 (Operand.tmp 97) (Operand.tmp 99) 3, _, _, _, _⟩) (v := .bool true) rfl (by kernel_rfl) (by kernel_rfl) (by kernel_rfl) (fun _ _ _ h => h) (Or.inl ⟨by rfl, ?_⟩) hS ?_
      · intro W' hSw; (try dsimp only at hSw); obtain ⟨s0, s1, s2, s3, s4, s5⟩ := hSw; go_simp
      try simp only [Act.put, List.setIfInBounds_toArray, List.set_cons_zero, List.set_cons_succ]
      refine wpAnyH_take (i := 25) (oi := ⟨some 101, Op.pick (Operand.tmp 92) (Operand.tmp 100) (Operand.const (Value.bool false)), _, _, _, _⟩) (v := .bool true) rfl (by kernel_rfl) (by kernel_rfl) (by kernel_rfl) (fun _ _ _ h => h) (Or.inl ⟨by rfl, ?_⟩) hS ?_
      · intro W' hSw; (try dsimp only at hSw); obtain ⟨s0, s1, s2, s3, s4, s5⟩ := hSw; go_simp
      try simp only [Act.put, List.setIfInBounds_toArray, List.set_cons_zero, List.set_cons_succ]
      refine wpAnyH_take (i := 26) (oi := ⟨some 102, Op.move (Operand.tmp 101), _, _, _, _⟩) (v := .bool true) rfl (by kernel_rfl) (by kernel_rfl) (by kernel_rfl) (fun _ _ _ h => h) (Or.inl ⟨by rfl, ?_⟩) hS ?_
      · intro W' hSw; (try dsimp only at hSw); obtain ⟨s0, s1, s2, s3, s4, s5⟩ := hSw; go_simp
      try simp only [Act.put, List.setIfInBounds_toArray, List.set_cons_zero, List.set_cons_succ]
      refine wpAnyH_take (i := 27) (oi := ⟨some 103, Op.move (Operand.tmp 15), _, _, _, _⟩) (v := .int .i64 0) rfl (by kernel_rfl) (by kernel_rfl) (by kernel_rfl) (fun _ _ _ h => h) (Or.inl ⟨by rfl, ?_⟩) hS ?_
      · intro W' hSw; (try dsimp only at hSw); obtain ⟨s0, s1, s2, s3, s4, s5⟩ := hSw; go_simp
      try simp only [Act.put, List.setIfInBounds_toArray, List.set_cons_zero, List.set_cons_succ]
      refine wpAnyH_take (i := 28) (oi := ⟨some 104, Op.binOp BinOp.eql 24 (Operand.tmp 103) (Operand.const (Value.int IntKind.i64 0)) 24, _, _, _, _⟩) (v := .bool true) rfl (by kernel_rfl) (by kernel_rfl) (by kernel_rfl) (fun _ _ _ h => h) (Or.inl ⟨by rfl, ?_⟩) hS ?_
      · intro W' hSw; (try dsimp only at hSw); obtain ⟨s0, s1, s2, s3, s4, s5⟩ := hSw; go_simp
      try simp only [Act.put, List.setIfInBounds_toArray, List.set_cons_zero, List.set_cons_succ]
      refine wpAnyH_take (i := 29) (oi := ⟨some 105, Op.pick (Operand.tmp 102) (Operand.tmp 104) (Operand.const (Value.bool false)), _, _, _, _⟩) (v := .bool true) rfl (by kernel_rfl) (by kernel_rfl) (by kernel_rfl) (fun _ _ _ h => h) (Or.inl ⟨by rfl, ?_⟩) hS ?_
      · intro W' hSw; (try dsimp only at hSw); obtain ⟨s0, s1, s2, s3, s4, s5⟩ := hSw; go_simp
      try simp only [Act.put, List.setIfInBounds_toArray, List.set_cons_zero, List.set_cons_succ]
      refine wpAnyH_take (i := 30) (oi := ⟨some 106, Op.move (Operand.tmp 105), _, _, _, _⟩) (v := .bool true) rfl (by kernel_rfl) (by kernel_rfl) (by kernel_rfl) (fun _ _ _ h => h) (Or.inl ⟨by rfl, ?_⟩) hS ?_
      · intro W' hSw; (try dsimp only at hSw); obtain ⟨s0, s1, s2, s3, s4, s5⟩ := hSw; go_simp
      try simp only [Act.put, List.setIfInBounds_toArray, List.set_cons_zero, List.set_cons_succ]
      refine wpAnyH_take (i := 31) (oi := ⟨some 107, Op.load 41 (Operand.tmp 14), _, _, _, _⟩) (v := .agg #[.int .i64 k, .int .i64 k]) rfl (by kernel_rfl) (by kernel_rfl) (by kernel_rfl) (fun _ _ _ h => h) (Or.inl ⟨by rfl, ?_⟩) hS ?_
      · intro W' hSw; (try dsimp only at hSw); obtain ⟨s0, s1, s2, s3, s4, s5⟩ := hSw; go_simp
      try simp only [Act.put, List.setIfInBounds_toArray, List.set_cons_zero, List.set_cons_succ]
      refine wpAnyH_take (i := 32) (oi := ⟨some 108, Op.move (Operand.tmp 7), _, _, _, _⟩) (v := .slice av k ac) rfl (by kernel_rfl) (by kernel_rfl) (by kernel_rfl) (fun _ _ _ h => h) (Or.inl ⟨by rfl, ?_⟩) hS ?_
      · intro W' hSw; (try dsimp only at hSw); obtain ⟨s0, s1, s2, s3, s4, s5⟩ := hSw; go_simp
      try simp only [Act.put, List.setIfInBounds_toArray, List.set_cons_zero, List.set_cons_succ]
      refine wpAnyH_take (i := 33) (oi := ⟨some 109, Op.call { callee := Callee.builtin Builtin.len, args := #[Operand.tmp 108], argTypes := #[22] }, _, _, _, _⟩) (v := .int .i64 k) rfl (by kernel_rfl) (by kernel_rfl) (by kernel_rfl) (fun _ _ _ h => h) (Or.inl ⟨by rfl, ?_⟩) hS ?_
      · intro W' hSw; (try dsimp only at hSw); obtain ⟨s0, s1, s2, s3, s4, s5⟩ := hSw; go_simp
      try simp only [Act.put, List.setIfInBounds_toArray, List.set_cons_zero, List.set_cons_succ]
      refine wpAnyH_take (i := 34) (oi := ⟨some 110, Op.move (Operand.tmp 7), _, _, _, _⟩) (v := .slice av k ac) rfl (by kernel_rfl) (by kernel_rfl) (by kernel_rfl) (fun _ _ _ h => h) (Or.inl ⟨by rfl, ?_⟩) hS ?_
      · intro W' hSw; (try dsimp only at hSw); obtain ⟨s0, s1, s2, s3, s4, s5⟩ := hSw; go_simp
      try simp only [Act.put, List.setIfInBounds_toArray, List.set_cons_zero, List.set_cons_succ]
      refine wpAnyH_take (i := 35) (oi := ⟨some 111, Op.call { callee := Callee.builtin Builtin.len, args := #[Operand.tmp 110], argTypes := #[22] }, _, _, _, _⟩) (v := .int .i64 k) rfl (by kernel_rfl) (by kernel_rfl) (by kernel_rfl) (fun _ _ _ h => h) (Or.inl ⟨by rfl, ?_⟩) hS ?_
      · intro W' hSw; (try dsimp only at hSw); obtain ⟨s0, s1, s2, s3, s4, s5⟩ := hSw; go_simp
      try simp only [Act.put, List.setIfInBounds_toArray, List.set_cons_zero, List.set_cons_succ]
      refine wpAnyH_ready (rs := [36]) (by kernel_rfl) (by simp) ?_
      refine AllReadyH.cons (o := ⟨some 112, Op.call { callee := Callee.value (Operand.func 41), args := #[Operand.tmp 109, Operand.tmp 111], argTypes := #[3, 3] }, _, _, _, _⟩) rfl (fun K hK => ?_) ?_
      ·
        go_simp
        refine (between_any k k X).mono ?_
        rintro _ X0 ⟨rfl, hx0⟩
        (try go_wp2_with fail)
        have HM0 := Lib.hid (below_step HM.out hx0)
        refine hK.out _ _ (HCELL.out _ HM0.out) (fun hS => ?_)
        clear hK K
        try simp only [Act.put, List.setIfInBounds_toArray, List.set_cons_zero, List.set_cons_succ]
        clear hx0
        refine wpAnyH_take (i := 37) (oi := ⟨some 113, Op.binOp BinOp.eql 41 (Operand.tmp 107) (Operand.tmp 112) 41, _, _, _, _⟩) (v := .bool true) rfl (by kernel_rfl) (by kernel_rfl) (by kernel_rfl) (fun _ _ _ h => h) (Or.inl ⟨by rfl, ?_⟩) hS ?_
        · intro W' hSw; have heq := HEQ.out W'; go_simp
        try simp only [Act.put, List.setIfInBounds_toArray, List.set_cons_zero, List.set_cons_succ]
        refine wpAnyH_take (i := 38) (oi := ⟨some 114, Op.pick (Operand.tmp 106) (Operand.tmp 113) (Operand.const (Value.bool false)), _, _, _, _⟩) (v := .bool true) rfl (by kernel_rfl) (by kernel_rfl) (by kernel_rfl) (fun _ _ _ h => h) (Or.inl ⟨by rfl, ?_⟩) hS ?_
        · intro W' hSw; (try dsimp only at hSw); obtain ⟨s0, s1, s2, s3, s4, s5⟩ := hSw; go_simp
        try simp only [Act.put, List.setIfInBounds_toArray, List.set_cons_zero, List.set_cons_succ]
        refine wpAnyH_take (i := 39) (oi := ⟨some 115, Op.move (Operand.tmp 114), _, _, _, _⟩) (v := .bool true) rfl (by kernel_rfl) (by kernel_rfl) (by kernel_rfl) (fun _ _ _ h => h) (Or.inl ⟨by rfl, ?_⟩) hS ?_
        · intro W' hSw; (try dsimp only at hSw); obtain ⟨s0, s1, s2, s3, s4, s5⟩ := hSw; go_simp
        try simp only [Act.put, List.setIfInBounds_toArray, List.set_cons_zero, List.set_cons_succ]
        refine wpAnyH_ready (rs := [40]) (by kernel_rfl) (by simp) ?_
        refine AllReadyH.cons (o := ⟨some 116, Op.call { callee := Callee.value (Operand.func 20), args := #[], argTypes := #[] }, _, _, _, _⟩) rfl (fun K hK => ?_) ?_
        ·
          go_simp
          refine (HAW.out X0).mono ?_
          rintro _ X1 ⟨rfl, hx1⟩
          (try go_wp2_with fail)
          have HM1 := Lib.hid (below_step HM0.out hx1)
          refine hK.out _ _ (HCELL.out _ HM1.out) (fun hS => ?_)
          clear hK K
          try simp only [Act.put, List.setIfInBounds_toArray, List.set_cons_zero, List.set_cons_succ]
          clear hx1
          refine wpAnyH_take (i := 41) (oi := ⟨some 117, Op.pick (Operand.tmp 115) (Operand.tmp 116) (Operand.const (Value.bool false)), _, _, _, _⟩) (v := .bool true) rfl (by kernel_rfl) (by kernel_rfl) (by kernel_rfl) (fun _ _ _ h => h) (Or.inl ⟨by rfl, ?_⟩) hS ?_
          · intro W' hSw; (try dsimp only at hSw); obtain ⟨s0, s1, s2, s3, s4, s5⟩ := hSw; go_simp
          try simp only [Act.put, List.setIfInBounds_toArray, List.set_cons_zero, List.set_cons_succ]
          refine wpAnyH_take (i := 42) (oi := ⟨some 6, Op.assign (Operand.tmp 117), _, _, _, _⟩) (v := .bool true) rfl (by kernel_rfl) (by kernel_rfl) (by kernel_rfl) (fun _ _ _ h => h) (Or.inl ⟨by rfl, ?_⟩) hS ?_
          · intro W' hSw; (try dsimp only at hSw); obtain ⟨s0, s1, s2, s3, s4, s5⟩ := hSw; go_simp
          try simp only [Act.put, List.setIfInBounds_toArray, List.set_cons_zero, List.set_cons_succ]
          refine wpAnyH_done (by kernel_rfl) ?_ _
          go_wp2_with fail
          go_ret
          exact ⟨rfl, HBZ.out.trans (HM1.out.mono HBZ.out.size)⟩
        exact AllReadyH.nil
      exact AllReadyH.nil
end Go.Proofs.Ytagfcfojfjkmbaa
