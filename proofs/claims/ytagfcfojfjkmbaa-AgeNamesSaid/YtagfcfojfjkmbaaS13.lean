/- AgeNames: the walk. -/
import Derived.Test.YtagfcfojfjkmbaaS12
import Derived.Test.YtagfcfojfjkmbaaV1
namespace Go.Proofs.Ytagfcfojfjkmbaa
open Go.RowKit Go.Shelf

theorem ints_of3 {W : World} {B : Nat} (h : W.heap[B]? = some (.cells #[.int .i64 20, .int .i64 25, .int .i64 30] 3 (0, 0))) : IntsAt W (.slice (some ⟨B, 0, none⟩) 3 3) 3 (fun j => [20, 25, 30].getD j 0) := by
  refine .inr ⟨B, 0, 3, rfl, (Array.getElem?_eq_some_iff.1 h).1, fun j hj => ?_⟩
  match j, hj with
  | 0, _ => exact cell_of_row _ _ 0 _ _ _ h
  | 1, _ => exact cell_of_row _ _ 1 _ _ _ h
  | 2, _ => exact cell_of_row _ _ 2 _ _ _ h
  | j + 3, h => omega
theorem ints_of1 {W : World} {B : Nat} (h : W.heap[B]? = some (.cells #[.int .i64 24] 3 (0, 0))) : IntsAt W (.slice (some ⟨B, 0, none⟩) 1 1) 1 (fun j => [24].getD j 0) := by
  refine .inr ⟨B, 0, 1, rfl, (Array.getElem?_eq_some_iff.1 h).1, fun j hj => ?_⟩
  obtain rfl : j = 0 := by omega
  exact cell_of_row _ _ 0 _ _ _ h

attribute [local go_sem ↓] Go.wp_at_zero Go.wp_at_succ
set_option maxRecDepth 100000 in
set_option maxHeartbeats 32000000 in
theorem ageNames_walk (w : World) : Calls Try.prog 19 #[] w fun r w' => r = .returned (.bool true) ∧ Below w.heap.size w w' := by
  have HAW := Lib.hid awake_any
  obtain ⟨ag0, ag1, ag2, ag3, ag4, ag5⟩ := nm_ages
  have HA1 := Lib.hid (fun W => age_any 100 829 W)
  have HA2 := Lib.hid (fun W => age_any 100 830 W)
  have HA3 := Lib.hid (fun W => age_any 5 4 W)
  rw [ag0, ag1] at HA1
  rw [ag2, ag3] at HA2
  rw [ag4, ag5] at HA3
  obtain ⟨wg0, wg1, wg2, wg3, wg4, wg5⟩ := nm_writes
  have HW1 := Lib.hid (fun W => writeF_any 20 5 1 1 19 W)
  have HW2 := Lib.hid (fun W => writeF_any 20 5 1 1 23 W)
  have HW3 := Lib.hid (fun W => writeF_any 20 5 1 1 126 W)
  rw [wg0, wg1] at HW1
  rw [wg2, wg3] at HW2
  rw [wg4, wg5] at HW3
  have HC1 := Lib.hid (fun W B h => count_any 20 5 1 1 20 25 _ 3 _ W (ints_of3 (W := W) (B := B) h) (by omega))
  have HC2 := Lib.hid (fun W B h => count_any 20 5 1 1 20 25 _ 1 _ W (ints_of1 (W := W) (B := B) h) (by omega))
  rw [nm_cnt1] at HC1
  rw [nm_cnt2] at HC2
  have HT := Lib.hid (fun W => true_ok 20 5 1 1 24 W (by decide) (by decide))
  rw [nm_true] at HT
  unfold ruleV at HT
  obtain ⟨hg0, hg1, hg2, hg3, hg4, hg5⟩ := nm_heap
  have HH1 := Lib.hid (fun W => heaping_any (.slice none 0 0) 0 (fun _ => 0) 5 W (.inl ⟨rfl, rfl⟩) (by omega))
  have HH2 := Lib.hid (fun W => heaping_any (.slice none 0 0) 0 (fun _ => 0) 13 W (.inl ⟨rfl, rfl⟩) (by omega))
  have HH3 := Lib.hid (fun v W h => heaping_any v 201 (fun _ => 0) 13 W h (by omega))
  rw [hg0, hg3] at HH1
  rw [hg1, hg4] at HH2
  rw [hg2, hg5] at HH3
  clear hg0 hg1 hg2 hg3 hg4 hg5
  clear ag0 ag1 ag2 ag3 ag4 ag5 wg0 wg1 wg2 wg3 wg4 wg5
  have HB : Hid (Below w.heap.size w w) := Below.refl _ _
  go_enter Try.func19, Try.ntmps19
  go_wp2_with fail
  refine (HA1.out _).mono ?_
  rintro _ _ ⟨rfl, rfl⟩
  go_wp2_with fail
  refine (HA2.out _).mono ?_
  rintro _ _ ⟨rfl, rfl⟩
  go_wp2_with fail
  refine (rules_any _).mono ?_
  rintro _ _ ⟨rfl, rfl⟩
  go_wp2_with fail
  refine (HW1.out _).mono ?_
  rintro _ x1 ⟨rfl, hb⟩
  have HB2 : Hid (Below w.heap.size w x1) := below_step HB.out (below_step (below_alloc w (.cells #[.int .i64 0, .int .i64 1, .int .i64 0, .int .i64 0, .int .i64 20, .int .i64 5, .int .i64 1, .int .i64 1] 80)) hb)
  clear hb
  go_wp2_with fail
  refine (rules_any _).mono ?_
  rintro _ _ ⟨rfl, rfl⟩
  go_wp2_with fail
  refine (HW2.out _).mono ?_
  rintro _ x3 ⟨rfl, hb⟩
  have HB4 : Hid (Below w.heap.size w x3) := below_step HB2.out (below_step (below_alloc x1 (.cells #[.int .i64 0, .int .i64 1, .int .i64 0, .int .i64 0, .int .i64 20, .int .i64 5, .int .i64 1, .int .i64 1] 80)) hb)
  clear hb
  go_wp2_with fail
  refine (somebody_nil _).mono ?_
  rintro _ x5 ⟨Ra, va, rfl, hRa, hr, hc, hb⟩
  obtain ⟨aa, ca, rfl⟩ : ∃ a c, va = .slice a 1 c := hc.at.slice
  have HRa := Lib.hid hr
  have HCa := Lib.hid hc
  have HPa := Lib.hid (someP_at hr hc)
  have HBLa := Lib.hid hb
  have HB6 : Hid (Below w.heap.size w x5) := below_step HB4.out (hb)
  clear hb hr hc
  go_wp2_with fail
  refine (Births_any _ (someP []) _ HPa.out (by decide) (by decide)).mono ?_
  rw [nm_born, nm_bErr]
  rintro _ x7 ⟨v4, rfl, hr4, hb⟩
  obtain ⟨g4, o4, c4, rfl, _, hg4, x41, x42, _⟩ := hr4.rg.cons
  have X4 : Hid (g4 < x7.heap.size ∧ x7.cell? ⟨g4, o4, none⟩ = some (.int .i64 0) ∧ x7.cell? ⟨g4, o4 + 1, none⟩ = some (.int .i64 1970)) := ⟨hg4, x41, x42⟩
  have HQ4 := Lib.hid hb
  clear hr4 hg4 x41 x42
  have HB8 : Hid (Below w.heap.size w x7) := below_step HB6.out (hb)
  clear hb HPa HCa HRa HBLa hRa
  go_upto_region 6 with fail
  go_cut [11, 12] (fun s11 s12 wx => ∃ B : Nat, s11 = .pointer (some ⟨B, 0, none⟩) ∧ s12 = .int .i64 0 ∧ wx.heap[B]? = some (.cells #[.int .i64 0, .int .i64 2] 41 (0, 0)) ∧ Below x7.heap.size x7 wx)
  case first => as_aux_lemma =>
    have HM : Hid (Below x7.heap.size x7 x7.drew) := (Below.refl _ _).drew
    refine wp_region_heldL (S := fun _ => True) 12 #[false, false, false, false, false, false, false, false, false, false, false, false] (by kernel_rfl) (by kernel_rfl) (by kernel_rfl) ?_
    have hS : True := trivial
    generalize World.drew x7 = X at *
    apply join
    · intro REST22
      apply join
      · intro REST21
        apply join
        · intro REST20
          apply join
          · intro REST19
            apply join
            · intro REST18
              apply join
              · intro REST17
                apply join
                · intro REST16
                  apply join
                  · intro REST15
                    apply join
                    · intro REST14
                      apply join
                      · intro REST13
                        apply join
                        · intro REST12
                          apply join
                          · intro REST11
                            apply join
                            · intro REST10
                              apply join
                              · intro REST9
                                apply join
                                · intro REST8
                                  apply join
                                  · intro REST7
                                    apply join
                                    · intro REST6
                                      apply join
                                      · intro REST5
                                        apply join
                                        · intro REST4
                                          apply join
                                          · intro REST3
                                            apply join
                                            · intro REST2
                                              apply join
                                              · intro REST1
                                                refine wpAnyH_ready (rs := [0, 3, 9]) (by kernel_rfl) (by simp) ?_
                                                refine AllReadyH.cons (o := ⟨some 58, Op.call { callee := Callee.value (Operand.func 60), args := #[], argTypes := #[] }, _, _, _, _⟩) rfl (fun K hK => ?_) ?_
                                                ·
                                                  go_simp
                                                  refine (rules_any X).mono ?_
                                                  rintro _ X0 ⟨rfl, hx0⟩
                                                  have hb0 : Below X.heap.size X X0 := by rw [hx0]; exact below_alloc _ _
                                                  have HR0 : Hid (X0.heap[X.heap.size]? = some (.cells #[.int .i64 0, .int .i64 1, .int .i64 0, .int .i64 0, .int .i64 20, .int .i64 5, .int .i64 1, .int .i64 1] 80 (0, 0))) := by rw [hx0]; exact heap_alloc_new _ _
                                                  clear hx0
                                                  (try go_wp2_with fail)
                                                  have HM0 : Hid (Below x7.heap.size x7 X0) := below_step HM.out hb0
                                                  refine hK.out _ _ (trivial) (fun hS => ?_)
                                                  clear hK K
                                                  (try simp only [Act.put]); (try simp only [List.setIfInBounds_toArray]); (try simp only [List.set_cons_succ]); (try simp only [List.set_cons_zero])
                                                  clear hb0
                                                  generalize X.heap.size = BR0 at HR0 ⊢
                                                  refine wpAnyH_take (i := 1) (oi := ⟨some 59, Op.indexAddr 42 (Operand.tmp 58) (Operand.const (Value.int IntKind.i64 1)), _, _, _, _⟩) (v := .pointer (some ⟨BR0, 4, none⟩)) rfl (by kernel_rfl) (by kernel_rfl) (by kernel_rfl) (fun _ _ _ h => h) (Or.inl ⟨by rfl, ?_⟩) hS ?_
                                                  · intro W' hSw; go_simp
                                                  (try simp only [Act.put]); (try simp only [List.setIfInBounds_toArray]); (try simp only [List.set_cons_succ]); (try simp only [List.set_cons_zero])
                                                  clear hS
                                                  revert HR0; revert HM0; revert BR0; revert X0
                                                  exact REST3
                                                refine AllReadyH.cons (o := ⟨some 61, Op.buildSlice 22 3 #[(0, Operand.const (Value.int IntKind.i64 20)), (1, Operand.const (Value.int IntKind.i64 25)), (2, Operand.const (Value.int IntKind.i64 30))], _, _, _, _⟩) rfl (fun K hK => ?_) ?_
                                                ·
                                                  go_simp
                                                  have HM1 : Hid (Below x7.heap.size x7 (X.alloc (.cells #[.int .i64 20, .int .i64 25, .int .i64 30] 3))) := below_step HM.out (below_alloc X (.cells #[.int .i64 20, .int .i64 25, .int .i64 30] 3))
                                                  have HI1 : Hid ((X.alloc (.cells #[.int .i64 20, .int .i64 25, .int .i64 30] 3)).heap[X.heap.size]? = some (.cells #[.int .i64 20, .int .i64 25, .int .i64 30] 3 (0, 0))) := heap_alloc_new _ _
                                                  refine hK.out _ _ (trivial) (fun hS => ?_)
                                                  clear hK K
                                                  (try simp only [Act.put]); (try simp only [List.setIfInBounds_toArray]); (try simp only [List.set_cons_succ]); (try simp only [List.set_cons_zero])
                                                  generalize X.heap.size = BI1 at HI1 ⊢
                                                  generalize X.alloc (.cells #[.int .i64 20, .int .i64 25, .int .i64 30] 3) = X1 at HI1 HM1  ⊢
                                                  clear hS
                                                  revert HI1; revert HM1; revert BI1; revert X1
                                                  exact REST1
                                                refine AllReadyH.cons (o := ⟨some 11, Op.alloc 41, _, _, _, _⟩) rfl (fun K hK => ?_) ?_
                                                ·
                                                  go_simp
                                                  have HG2 : Hid (x7.heap.size ≤ X.heap.size) := HM.out.size
                                                  have HM2 : Hid (Below x7.heap.size x7 (X.alloc (.cells #[.int .i64 0, .int .i64 0] 41))) := below_step HM.out (below_alloc X (.cells #[.int .i64 0, .int .i64 0] 41))
                                                  have HN2 : Hid ((X.alloc (.cells #[.int .i64 0, .int .i64 0] 41)).heap[X.heap.size]? = some (.cells #[.int .i64 0, .int .i64 0] 41 (0, 0))) := heap_alloc_new _ _
                                                  refine hK.out _ _ (trivial) (fun hS => ?_)
                                                  clear hK K
                                                  (try simp only [Act.put]); (try simp only [List.setIfInBounds_toArray]); (try simp only [List.set_cons_succ]); (try simp only [List.set_cons_zero])
                                                  generalize X.heap.size = BN2 at HN2 HG2 ⊢
                                                  generalize X.alloc (.cells #[.int .i64 0, .int .i64 0] 41) = X2 at HN2 HM2  ⊢
                                                  clear hS
                                                  revert HG2; revert HN2; revert HM2; revert BN2; revert X2
                                                  exact REST2
                                                exact AllReadyH.nil
                                              ·
                                                intro X BI HM HI
                                                have hS := trivial
                                                refine wpAnyH_ready (rs := [0, 9]) (by kernel_rfl) (by simp) ?_
                                                refine AllReadyH.cons (o := ⟨some 58, Op.call { callee := Callee.value (Operand.func 60), args := #[], argTypes := #[] }, _, _, _, _⟩) rfl (fun K hK => ?_) ?_
                                                ·
                                                  go_simp
                                                  refine (rules_any X).mono ?_
                                                  rintro _ X3 ⟨rfl, hx3⟩
                                                  have hb3 : Below X.heap.size X X3 := by rw [hx3]; exact below_alloc _ _
                                                  have HR3 : Hid (X3.heap[X.heap.size]? = some (.cells #[.int .i64 0, .int .i64 1, .int .i64 0, .int .i64 0, .int .i64 20, .int .i64 5, .int .i64 1, .int .i64 1] 80 (0, 0))) := by rw [hx3]; exact heap_alloc_new _ _
                                                  clear hx3
                                                  (try go_wp2_with fail)
                                                  have HM3 : Hid (Below x7.heap.size x7 X3) := below_step HM.out hb3
                                                  have HI3 : Hid (X3.heap[BI]? = some (.cells #[.int .i64 20, .int .i64 25, .int .i64 30] 3 (0, 0))) := (hb3.block _ (Array.getElem?_eq_some_iff.1 HI.out).1).trans HI.out
                                                  refine hK.out _ _ (trivial) (fun hS => ?_)
                                                  clear hK K
                                                  (try simp only [Act.put]); (try simp only [List.setIfInBounds_toArray]); (try simp only [List.set_cons_succ]); (try simp only [List.set_cons_zero])
                                                  clear hb3
                                                  generalize X.heap.size = BR3 at HR3 ⊢
                                                  refine wpAnyH_take (i := 1) (oi := ⟨some 59, Op.indexAddr 42 (Operand.tmp 58) (Operand.const (Value.int IntKind.i64 1)), _, _, _, _⟩) (v := .pointer (some ⟨BR3, 4, none⟩)) rfl (by kernel_rfl) (by kernel_rfl) (by kernel_rfl) (fun _ _ _ h => h) (Or.inl ⟨by rfl, ?_⟩) hS ?_
                                                  · intro W' hSw; go_simp
                                                  (try simp only [Act.put]); (try simp only [List.setIfInBounds_toArray]); (try simp only [List.set_cons_succ]); (try simp only [List.set_cons_zero])
                                                  clear hS HM HI
                                                  revert HR3; revert HI3; revert HM3; revert BR3; revert BI; revert X3
                                                  exact REST6
                                                refine AllReadyH.cons (o := ⟨some 11, Op.alloc 41, _, _, _, _⟩) rfl (fun K hK => ?_) ?_
                                                ·
                                                  go_simp
                                                  have HG4 : Hid (x7.heap.size ≤ X.heap.size) := HM.out.size
                                                  have HM4 : Hid (Below x7.heap.size x7 (X.alloc (.cells #[.int .i64 0, .int .i64 0] 41))) := below_step HM.out (below_alloc X (.cells #[.int .i64 0, .int .i64 0] 41))
                                                  have HI4 : Hid ((X.alloc (.cells #[.int .i64 0, .int .i64 0] 41)).heap[BI]? = some (.cells #[.int .i64 20, .int .i64 25, .int .i64 30] 3 (0, 0))) := ((below_alloc X (.cells #[.int .i64 0, .int .i64 0] 41)).block _ (Array.getElem?_eq_some_iff.1 HI.out).1).trans HI.out
                                                  have HN4 : Hid ((X.alloc (.cells #[.int .i64 0, .int .i64 0] 41)).heap[X.heap.size]? = some (.cells #[.int .i64 0, .int .i64 0] 41 (0, 0))) := heap_alloc_new _ _
                                                  refine hK.out _ _ (trivial) (fun hS => ?_)
                                                  clear hK K
                                                  (try simp only [Act.put]); (try simp only [List.setIfInBounds_toArray]); (try simp only [List.set_cons_succ]); (try simp only [List.set_cons_zero])
                                                  generalize X.heap.size = BN4 at HN4 HG4 ⊢
                                                  generalize X.alloc (.cells #[.int .i64 0, .int .i64 0] 41) = X4 at HN4 HM4 HI4 ⊢
                                                  clear hS HM HI
                                                  revert HG4; revert HN4; revert HI4; revert HM4; revert BN4; revert BI; revert X4
                                                  exact REST4
                                                exact AllReadyH.nil
                                            ·
                                              intro X BN HM HN HG
                                              have hS := trivial
                                              refine wpAnyH_ready (rs := [0, 3]) (by kernel_rfl) (by simp) ?_
                                              refine AllReadyH.cons (o := ⟨some 58, Op.call { callee := Callee.value (Operand.func 60), args := #[], argTypes := #[] }, _, _, _, _⟩) rfl (fun K hK => ?_) ?_
                                              ·
                                                go_simp
                                                refine (rules_any X).mono ?_
                                                rintro _ X5 ⟨rfl, hx5⟩
                                                have hb5 : Below X.heap.size X X5 := by rw [hx5]; exact below_alloc _ _
                                                have HR5 : Hid (X5.heap[X.heap.size]? = some (.cells #[.int .i64 0, .int .i64 1, .int .i64 0, .int .i64 0, .int .i64 20, .int .i64 5, .int .i64 1, .int .i64 1] 80 (0, 0))) := by rw [hx5]; exact heap_alloc_new _ _
                                                clear hx5
                                                (try go_wp2_with fail)
                                                have HM5 : Hid (Below x7.heap.size x7 X5) := below_step HM.out hb5
                                                have HN5 : Hid (X5.heap[BN]? = some (.cells #[.int .i64 0, .int .i64 0] 41 (0, 0))) := (hb5.block _ (Array.getElem?_eq_some_iff.1 HN.out).1).trans HN.out
                                                refine hK.out _ _ (trivial) (fun hS => ?_)
                                                clear hK K
                                                (try simp only [Act.put]); (try simp only [List.setIfInBounds_toArray]); (try simp only [List.set_cons_succ]); (try simp only [List.set_cons_zero])
                                                clear hb5
                                                generalize X.heap.size = BR5 at HR5 ⊢
                                                refine wpAnyH_take (i := 1) (oi := ⟨some 59, Op.indexAddr 42 (Operand.tmp 58) (Operand.const (Value.int IntKind.i64 1)), _, _, _, _⟩) (v := .pointer (some ⟨BR5, 4, none⟩)) rfl (by kernel_rfl) (by kernel_rfl) (by kernel_rfl) (fun _ _ _ h => h) (Or.inl ⟨by rfl, ?_⟩) hS ?_
                                                · intro W' hSw; go_simp
                                                (try simp only [Act.put]); (try simp only [List.setIfInBounds_toArray]); (try simp only [List.set_cons_succ]); (try simp only [List.set_cons_zero])
                                                clear hS HM HN
                                                revert HG; revert HR5; revert HN5; revert HM5; revert BR5; revert BN; revert X5
                                                exact REST8
                                              refine AllReadyH.cons (o := ⟨some 61, Op.buildSlice 22 3 #[(0, Operand.const (Value.int IntKind.i64 20)), (1, Operand.const (Value.int IntKind.i64 25)), (2, Operand.const (Value.int IntKind.i64 30))], _, _, _, _⟩) rfl (fun K hK => ?_) ?_
                                              ·
                                                go_simp
                                                have HM6 : Hid (Below x7.heap.size x7 (X.alloc (.cells #[.int .i64 20, .int .i64 25, .int .i64 30] 3))) := below_step HM.out (below_alloc X (.cells #[.int .i64 20, .int .i64 25, .int .i64 30] 3))
                                                have HN6 : Hid ((X.alloc (.cells #[.int .i64 20, .int .i64 25, .int .i64 30] 3)).heap[BN]? = some (.cells #[.int .i64 0, .int .i64 0] 41 (0, 0))) := ((below_alloc X (.cells #[.int .i64 20, .int .i64 25, .int .i64 30] 3)).block _ (Array.getElem?_eq_some_iff.1 HN.out).1).trans HN.out
                                                have HI6 : Hid ((X.alloc (.cells #[.int .i64 20, .int .i64 25, .int .i64 30] 3)).heap[X.heap.size]? = some (.cells #[.int .i64 20, .int .i64 25, .int .i64 30] 3 (0, 0))) := heap_alloc_new _ _
                                                refine hK.out _ _ (trivial) (fun hS => ?_)
                                                clear hK K
                                                (try simp only [Act.put]); (try simp only [List.setIfInBounds_toArray]); (try simp only [List.set_cons_succ]); (try simp only [List.set_cons_zero])
                                                generalize X.heap.size = BI6 at HI6 ⊢
                                                generalize X.alloc (.cells #[.int .i64 20, .int .i64 25, .int .i64 30] 3) = X6 at HI6 HM6 HN6 ⊢
                                                clear hS HM HN
                                                revert HG; revert HN6; revert HI6; revert HM6; revert BN; revert BI6; revert X6
                                                exact REST4
                                              exact AllReadyH.nil
                                          ·
                                            intro X BR HM HR
                                            have hS := trivial
                                            refine wpAnyH_ready (rs := [2, 3, 4, 9]) (by kernel_rfl) (by simp) ?_
                                            refine AllReadyH.cons (o := ⟨some 60, Op.load 80 (Operand.tmp 59), _, _, _, _⟩) rfl (fun K hK => ?_) ?_
                                            ·
                                              have e4 : X.cell? ⟨BR, 4, none⟩ = some (.int .i64 20) := cell_of_row _ _ 4 _ _ _ HR.out
                                              have e5 : X.cell? ⟨BR, 5, none⟩ = some (.int .i64 5) := cell_of_row _ _ 5 _ _ _ HR.out
                                              have e6 : X.cell? ⟨BR, 6, none⟩ = some (.int .i64 1) := cell_of_row _ _ 6 _ _ _ HR.out
                                              have e7 : X.cell? ⟨BR, 7, none⟩ = some (.int .i64 1) := cell_of_row _ _ 7 _ _ _ HR.out
                                              go_simp
                                              clear e4 e5 e6 e7
                                              refine hK.out _ _ (trivial) (fun hS => ?_)
                                              clear hK K
                                              (try simp only [Act.put]); (try simp only [List.setIfInBounds_toArray]); (try simp only [List.set_cons_succ]); (try simp only [List.set_cons_zero])
                                              clear hS
                                              revert HR; revert HM; revert BR; revert X
                                              exact REST5
                                            refine AllReadyH.cons (o := ⟨some 61, Op.buildSlice 22 3 #[(0, Operand.const (Value.int IntKind.i64 20)), (1, Operand.const (Value.int IntKind.i64 25)), (2, Operand.const (Value.int IntKind.i64 30))], _, _, _, _⟩) rfl (fun K hK => ?_) ?_
                                            ·
                                              go_simp
                                              have HM8 : Hid (Below x7.heap.size x7 (X.alloc (.cells #[.int .i64 20, .int .i64 25, .int .i64 30] 3))) := below_step HM.out (below_alloc X (.cells #[.int .i64 20, .int .i64 25, .int .i64 30] 3))
                                              have HR8 : Hid ((X.alloc (.cells #[.int .i64 20, .int .i64 25, .int .i64 30] 3)).heap[BR]? = some (.cells #[.int .i64 0, .int .i64 1, .int .i64 0, .int .i64 0, .int .i64 20, .int .i64 5, .int .i64 1, .int .i64 1] 80 (0, 0))) := ((below_alloc X (.cells #[.int .i64 20, .int .i64 25, .int .i64 30] 3)).block _ (Array.getElem?_eq_some_iff.1 HR.out).1).trans HR.out
                                              have HI8 : Hid ((X.alloc (.cells #[.int .i64 20, .int .i64 25, .int .i64 30] 3)).heap[X.heap.size]? = some (.cells #[.int .i64 20, .int .i64 25, .int .i64 30] 3 (0, 0))) := heap_alloc_new _ _
                                              refine hK.out _ _ (trivial) (fun hS => ?_)
                                              clear hK K
                                              (try simp only [Act.put]); (try simp only [List.setIfInBounds_toArray]); (try simp only [List.set_cons_succ]); (try simp only [List.set_cons_zero])
                                              generalize X.heap.size = BI8 at HI8 ⊢
                                              generalize X.alloc (.cells #[.int .i64 20, .int .i64 25, .int .i64 30] 3) = X8 at HI8 HM8 HR8 ⊢
                                              clear hS HM HR
                                              revert HR8; revert HI8; revert HM8; revert BR; revert BI8; revert X8
                                              exact REST6
                                            refine AllReadyH.cons (o := ⟨some 62, Op.call { callee := Callee.value (Operand.func 41), args := #[Operand.const (Value.int IntKind.i64 20), Operand.const (Value.int IntKind.i64 25)], argTypes := #[3, 3] }, _, _, _, _⟩) rfl (fun K hK => ?_) ?_
                                            ·
                                              go_simp
                                              refine (between_any 20 25 X).mono ?_
                                              rintro _ X9 ⟨rfl, hx9⟩
                                              (try go_wp2_with fail)
                                              have HM9 : Hid (Below x7.heap.size x7 X9) := below_step HM.out hx9
                                              have HR9 : Hid (X9.heap[BR]? = some (.cells #[.int .i64 0, .int .i64 1, .int .i64 0, .int .i64 0, .int .i64 20, .int .i64 5, .int .i64 1, .int .i64 1] 80 (0, 0))) := (hx9.block _ (Array.getElem?_eq_some_iff.1 HR.out).1).trans HR.out
                                              refine hK.out _ _ (trivial) (fun hS => ?_)
                                              clear hK K
                                              (try simp only [Act.put]); (try simp only [List.setIfInBounds_toArray]); (try simp only [List.set_cons_succ]); (try simp only [List.set_cons_zero])
                                              clear hx9
                                              clear hS HM HR
                                              revert HR9; revert HM9; revert BR; revert X9
                                              exact REST7
                                            refine AllReadyH.cons (o := ⟨some 11, Op.alloc 41, _, _, _, _⟩) rfl (fun K hK => ?_) ?_
                                            ·
                                              go_simp
                                              have HG10 : Hid (x7.heap.size ≤ X.heap.size) := HM.out.size
                                              have HM10 : Hid (Below x7.heap.size x7 (X.alloc (.cells #[.int .i64 0, .int .i64 0] 41))) := below_step HM.out (below_alloc X (.cells #[.int .i64 0, .int .i64 0] 41))
                                              have HR10 : Hid ((X.alloc (.cells #[.int .i64 0, .int .i64 0] 41)).heap[BR]? = some (.cells #[.int .i64 0, .int .i64 1, .int .i64 0, .int .i64 0, .int .i64 20, .int .i64 5, .int .i64 1, .int .i64 1] 80 (0, 0))) := ((below_alloc X (.cells #[.int .i64 0, .int .i64 0] 41)).block _ (Array.getElem?_eq_some_iff.1 HR.out).1).trans HR.out
                                              have HN10 : Hid ((X.alloc (.cells #[.int .i64 0, .int .i64 0] 41)).heap[X.heap.size]? = some (.cells #[.int .i64 0, .int .i64 0] 41 (0, 0))) := heap_alloc_new _ _
                                              refine hK.out _ _ (trivial) (fun hS => ?_)
                                              clear hK K
                                              (try simp only [Act.put]); (try simp only [List.setIfInBounds_toArray]); (try simp only [List.set_cons_succ]); (try simp only [List.set_cons_zero])
                                              generalize X.heap.size = BN10 at HN10 HG10 ⊢
                                              generalize X.alloc (.cells #[.int .i64 0, .int .i64 0] 41) = X10 at HN10 HM10 HR10 ⊢
                                              clear hS HM HR
                                              revert HG10; revert HR10; revert HN10; revert HM10; revert BR; revert BN10; revert X10
                                              exact REST8
                                            exact AllReadyH.nil
                                        ·
                                          intro X BI BN HM HI HN HG
                                          have hS := trivial
                                          refine wpAnyH_ready (rs := [0]) (by kernel_rfl) (by simp) ?_
                                          refine AllReadyH.cons (o := ⟨some 58, Op.call { callee := Callee.value (Operand.func 60), args := #[], argTypes := #[] }, _, _, _, _⟩) rfl (fun K hK => ?_) ?_
                                          ·
                                            go_simp
                                            refine (rules_any X).mono ?_
                                            rintro _ X11 ⟨rfl, hx11⟩
                                            have hb11 : Below X.heap.size X X11 := by rw [hx11]; exact below_alloc _ _
                                            have HR11 : Hid (X11.heap[X.heap.size]? = some (.cells #[.int .i64 0, .int .i64 1, .int .i64 0, .int .i64 0, .int .i64 20, .int .i64 5, .int .i64 1, .int .i64 1] 80 (0, 0))) := by rw [hx11]; exact heap_alloc_new _ _
                                            clear hx11
                                            (try go_wp2_with fail)
                                            have HM11 : Hid (Below x7.heap.size x7 X11) := below_step HM.out hb11
                                            have HI11 : Hid (X11.heap[BI]? = some (.cells #[.int .i64 20, .int .i64 25, .int .i64 30] 3 (0, 0))) := (hb11.block _ (Array.getElem?_eq_some_iff.1 HI.out).1).trans HI.out
                                            have HN11 : Hid (X11.heap[BN]? = some (.cells #[.int .i64 0, .int .i64 0] 41 (0, 0))) := (hb11.block _ (Array.getElem?_eq_some_iff.1 HN.out).1).trans HN.out
                                            refine hK.out _ _ (trivial) (fun hS => ?_)
                                            clear hK K
                                            (try simp only [Act.put]); (try simp only [List.setIfInBounds_toArray]); (try simp only [List.set_cons_succ]); (try simp only [List.set_cons_zero])
                                            clear hb11
                                            generalize X.heap.size = BR11 at HR11 ⊢
                                            refine wpAnyH_take (i := 1) (oi := ⟨some 59, Op.indexAddr 42 (Operand.tmp 58) (Operand.const (Value.int IntKind.i64 1)), _, _, _, _⟩) (v := .pointer (some ⟨BR11, 4, none⟩)) rfl (by kernel_rfl) (by kernel_rfl) (by kernel_rfl) (fun _ _ _ h => h) (Or.inl ⟨by rfl, ?_⟩) hS ?_
                                            · intro W' hSw; go_simp
                                            (try simp only [Act.put]); (try simp only [List.setIfInBounds_toArray]); (try simp only [List.set_cons_succ]); (try simp only [List.set_cons_zero])
                                            clear hS HM HI HN
                                            revert HG; revert HR11; revert HN11; revert HI11; revert HM11; revert BR11; revert BN; revert BI; revert X11
                                            exact REST13
                                          exact AllReadyH.nil
                                      ·
                                        intro X BR HM HR
                                        have hS := trivial
                                        refine wpAnyH_ready (rs := [3, 4, 9]) (by kernel_rfl) (by simp) ?_
                                        refine AllReadyH.cons (o := ⟨some 61, Op.buildSlice 22 3 #[(0, Operand.const (Value.int IntKind.i64 20)), (1, Operand.const (Value.int IntKind.i64 25)), (2, Operand.const (Value.int IntKind.i64 30))], _, _, _, _⟩) rfl (fun K hK => ?_) ?_
                                        ·
                                          go_simp
                                          have HM12 : Hid (Below x7.heap.size x7 (X.alloc (.cells #[.int .i64 20, .int .i64 25, .int .i64 30] 3))) := below_step HM.out (below_alloc X (.cells #[.int .i64 20, .int .i64 25, .int .i64 30] 3))
                                          have HR12 : Hid ((X.alloc (.cells #[.int .i64 20, .int .i64 25, .int .i64 30] 3)).heap[BR]? = some (.cells #[.int .i64 0, .int .i64 1, .int .i64 0, .int .i64 0, .int .i64 20, .int .i64 5, .int .i64 1, .int .i64 1] 80 (0, 0))) := ((below_alloc X (.cells #[.int .i64 20, .int .i64 25, .int .i64 30] 3)).block _ (Array.getElem?_eq_some_iff.1 HR.out).1).trans HR.out
                                          have HI12 : Hid ((X.alloc (.cells #[.int .i64 20, .int .i64 25, .int .i64 30] 3)).heap[X.heap.size]? = some (.cells #[.int .i64 20, .int .i64 25, .int .i64 30] 3 (0, 0))) := heap_alloc_new _ _
                                          refine hK.out _ _ (trivial) (fun hS => ?_)
                                          clear hK K
                                          (try simp only [Act.put]); (try simp only [List.setIfInBounds_toArray]); (try simp only [List.set_cons_succ]); (try simp only [List.set_cons_zero])
                                          generalize X.heap.size = BI12 at HI12 ⊢
                                          generalize X.alloc (.cells #[.int .i64 20, .int .i64 25, .int .i64 30] 3) = X12 at HI12 HM12 HR12 ⊢
                                          clear hS HM HR
                                          revert HR12; revert HI12; revert HM12; revert BR; revert BI12; revert X12
                                          exact REST9
                                        refine AllReadyH.cons (o := ⟨some 62, Op.call { callee := Callee.value (Operand.func 41), args := #[Operand.const (Value.int IntKind.i64 20), Operand.const (Value.int IntKind.i64 25)], argTypes := #[3, 3] }, _, _, _, _⟩) rfl (fun K hK => ?_) ?_
                                        ·
                                          go_simp
                                          refine (between_any 20 25 X).mono ?_
                                          rintro _ X13 ⟨rfl, hx13⟩
                                          (try go_wp2_with fail)
                                          have HM13 : Hid (Below x7.heap.size x7 X13) := below_step HM.out hx13
                                          have HR13 : Hid (X13.heap[BR]? = some (.cells #[.int .i64 0, .int .i64 1, .int .i64 0, .int .i64 0, .int .i64 20, .int .i64 5, .int .i64 1, .int .i64 1] 80 (0, 0))) := (hx13.block _ (Array.getElem?_eq_some_iff.1 HR.out).1).trans HR.out
                                          refine hK.out _ _ (trivial) (fun hS => ?_)
                                          clear hK K
                                          (try simp only [Act.put]); (try simp only [List.setIfInBounds_toArray]); (try simp only [List.set_cons_succ]); (try simp only [List.set_cons_zero])
                                          clear hx13
                                          clear hS HM HR
                                          revert HR13; revert HM13; revert BR; revert X13
                                          exact REST10
                                        refine AllReadyH.cons (o := ⟨some 11, Op.alloc 41, _, _, _, _⟩) rfl (fun K hK => ?_) ?_
                                        ·
                                          go_simp
                                          have HG14 : Hid (x7.heap.size ≤ X.heap.size) := HM.out.size
                                          have HM14 : Hid (Below x7.heap.size x7 (X.alloc (.cells #[.int .i64 0, .int .i64 0] 41))) := below_step HM.out (below_alloc X (.cells #[.int .i64 0, .int .i64 0] 41))
                                          have HR14 : Hid ((X.alloc (.cells #[.int .i64 0, .int .i64 0] 41)).heap[BR]? = some (.cells #[.int .i64 0, .int .i64 1, .int .i64 0, .int .i64 0, .int .i64 20, .int .i64 5, .int .i64 1, .int .i64 1] 80 (0, 0))) := ((below_alloc X (.cells #[.int .i64 0, .int .i64 0] 41)).block _ (Array.getElem?_eq_some_iff.1 HR.out).1).trans HR.out
                                          have HN14 : Hid ((X.alloc (.cells #[.int .i64 0, .int .i64 0] 41)).heap[X.heap.size]? = some (.cells #[.int .i64 0, .int .i64 0] 41 (0, 0))) := heap_alloc_new _ _
                                          refine hK.out _ _ (trivial) (fun hS => ?_)
                                          clear hK K
                                          (try simp only [Act.put]); (try simp only [List.setIfInBounds_toArray]); (try simp only [List.set_cons_succ]); (try simp only [List.set_cons_zero])
                                          generalize X.heap.size = BN14 at HN14 HG14 ⊢
                                          generalize X.alloc (.cells #[.int .i64 0, .int .i64 0] 41) = X14 at HN14 HM14 HR14 ⊢
                                          clear hS HM HR
                                          revert HG14; revert HR14; revert HN14; revert HM14; revert BR; revert BN14; revert X14
                                          exact REST11
                                        exact AllReadyH.nil
                                    ·
                                      intro X BI BR HM HI HR
                                      have hS := trivial
                                      refine wpAnyH_ready (rs := [2, 4, 9]) (by kernel_rfl) (by simp) ?_
                                      refine AllReadyH.cons (o := ⟨some 60, Op.load 80 (Operand.tmp 59), _, _, _, _⟩) rfl (fun K hK => ?_) ?_
                                      ·
                                        have e4 : X.cell? ⟨BR, 4, none⟩ = some (.int .i64 20) := cell_of_row _ _ 4 _ _ _ HR.out
                                        have e5 : X.cell? ⟨BR, 5, none⟩ = some (.int .i64 5) := cell_of_row _ _ 5 _ _ _ HR.out
                                        have e6 : X.cell? ⟨BR, 6, none⟩ = some (.int .i64 1) := cell_of_row _ _ 6 _ _ _ HR.out
                                        have e7 : X.cell? ⟨BR, 7, none⟩ = some (.int .i64 1) := cell_of_row _ _ 7 _ _ _ HR.out
                                        go_simp
                                        clear e4 e5 e6 e7
                                        refine hK.out _ _ (trivial) (fun hS => ?_)
                                        clear hK K
                                        (try simp only [Act.put]); (try simp only [List.setIfInBounds_toArray]); (try simp only [List.set_cons_succ]); (try simp only [List.set_cons_zero])
                                        clear hS
                                        revert HR; revert HI; revert HM; revert BR; revert BI; revert X
                                        exact REST9
                                      refine AllReadyH.cons (o := ⟨some 62, Op.call { callee := Callee.value (Operand.func 41), args := #[Operand.const (Value.int IntKind.i64 20), Operand.const (Value.int IntKind.i64 25)], argTypes := #[3, 3] }, _, _, _, _⟩) rfl (fun K hK => ?_) ?_
                                      ·
                                        go_simp
                                        refine (between_any 20 25 X).mono ?_
                                        rintro _ X16 ⟨rfl, hx16⟩
                                        (try go_wp2_with fail)
                                        have HM16 : Hid (Below x7.heap.size x7 X16) := below_step HM.out hx16
                                        have HI16 : Hid (X16.heap[BI]? = some (.cells #[.int .i64 20, .int .i64 25, .int .i64 30] 3 (0, 0))) := (hx16.block _ (Array.getElem?_eq_some_iff.1 HI.out).1).trans HI.out
                                        have HR16 : Hid (X16.heap[BR]? = some (.cells #[.int .i64 0, .int .i64 1, .int .i64 0, .int .i64 0, .int .i64 20, .int .i64 5, .int .i64 1, .int .i64 1] 80 (0, 0))) := (hx16.block _ (Array.getElem?_eq_some_iff.1 HR.out).1).trans HR.out
                                        refine hK.out _ _ (trivial) (fun hS => ?_)
                                        clear hK K
                                        (try simp only [Act.put]); (try simp only [List.setIfInBounds_toArray]); (try simp only [List.set_cons_succ]); (try simp only [List.set_cons_zero])
                                        clear hx16
                                        clear hS HM HI HR
                                        revert HR16; revert HI16; revert HM16; revert BR; revert BI; revert X16
                                        exact REST12
                                      refine AllReadyH.cons (o := ⟨some 11, Op.alloc 41, _, _, _, _⟩) rfl (fun K hK => ?_) ?_
                                      ·
                                        go_simp
                                        have HG17 : Hid (x7.heap.size ≤ X.heap.size) := HM.out.size
                                        have HM17 : Hid (Below x7.heap.size x7 (X.alloc (.cells #[.int .i64 0, .int .i64 0] 41))) := below_step HM.out (below_alloc X (.cells #[.int .i64 0, .int .i64 0] 41))
                                        have HI17 : Hid ((X.alloc (.cells #[.int .i64 0, .int .i64 0] 41)).heap[BI]? = some (.cells #[.int .i64 20, .int .i64 25, .int .i64 30] 3 (0, 0))) := ((below_alloc X (.cells #[.int .i64 0, .int .i64 0] 41)).block _ (Array.getElem?_eq_some_iff.1 HI.out).1).trans HI.out
                                        have HR17 : Hid ((X.alloc (.cells #[.int .i64 0, .int .i64 0] 41)).heap[BR]? = some (.cells #[.int .i64 0, .int .i64 1, .int .i64 0, .int .i64 0, .int .i64 20, .int .i64 5, .int .i64 1, .int .i64 1] 80 (0, 0))) := ((below_alloc X (.cells #[.int .i64 0, .int .i64 0] 41)).block _ (Array.getElem?_eq_some_iff.1 HR.out).1).trans HR.out
                                        have HN17 : Hid ((X.alloc (.cells #[.int .i64 0, .int .i64 0] 41)).heap[X.heap.size]? = some (.cells #[.int .i64 0, .int .i64 0] 41 (0, 0))) := heap_alloc_new _ _
                                        refine hK.out _ _ (trivial) (fun hS => ?_)
                                        clear hK K
                                        (try simp only [Act.put]); (try simp only [List.setIfInBounds_toArray]); (try simp only [List.set_cons_succ]); (try simp only [List.set_cons_zero])
                                        generalize X.heap.size = BN17 at HN17 HG17 ⊢
                                        generalize X.alloc (.cells #[.int .i64 0, .int .i64 0] 41) = X17 at HN17 HM17 HI17 HR17 ⊢
                                        clear hS HM HI HR
                                        revert HG17; revert HR17; revert HN17; revert HI17; revert HM17; revert BR; revert BN17; revert BI; revert X17
                                        exact REST13
                                      exact AllReadyH.nil
                                  ·
                                    intro X BR HM HR
                                    have hS := trivial
                                    refine wpAnyH_ready (rs := [2, 3, 9]) (by kernel_rfl) (by simp) ?_
                                    refine AllReadyH.cons (o := ⟨some 60, Op.load 80 (Operand.tmp 59), _, _, _, _⟩) rfl (fun K hK => ?_) ?_
                                    ·
                                      have e4 : X.cell? ⟨BR, 4, none⟩ = some (.int .i64 20) := cell_of_row _ _ 4 _ _ _ HR.out
                                      have e5 : X.cell? ⟨BR, 5, none⟩ = some (.int .i64 5) := cell_of_row _ _ 5 _ _ _ HR.out
                                      have e6 : X.cell? ⟨BR, 6, none⟩ = some (.int .i64 1) := cell_of_row _ _ 6 _ _ _ HR.out
                                      have e7 : X.cell? ⟨BR, 7, none⟩ = some (.int .i64 1) := cell_of_row _ _ 7 _ _ _ HR.out
                                      go_simp
                                      clear e4 e5 e6 e7
                                      refine hK.out _ _ (trivial) (fun hS => ?_)
                                      clear hK K
                                      (try simp only [Act.put]); (try simp only [List.setIfInBounds_toArray]); (try simp only [List.set_cons_succ]); (try simp only [List.set_cons_zero])
                                      clear hS
                                      revert HR; revert HM; revert BR; revert X
                                      exact REST10
                                    refine AllReadyH.cons (o := ⟨some 61, Op.buildSlice 22 3 #[(0, Operand.const (Value.int IntKind.i64 20)), (1, Operand.const (Value.int IntKind.i64 25)), (2, Operand.const (Value.int IntKind.i64 30))], _, _, _, _⟩) rfl (fun K hK => ?_) ?_
                                    ·
                                      go_simp
                                      have HM19 : Hid (Below x7.heap.size x7 (X.alloc (.cells #[.int .i64 20, .int .i64 25, .int .i64 30] 3))) := below_step HM.out (below_alloc X (.cells #[.int .i64 20, .int .i64 25, .int .i64 30] 3))
                                      have HR19 : Hid ((X.alloc (.cells #[.int .i64 20, .int .i64 25, .int .i64 30] 3)).heap[BR]? = some (.cells #[.int .i64 0, .int .i64 1, .int .i64 0, .int .i64 0, .int .i64 20, .int .i64 5, .int .i64 1, .int .i64 1] 80 (0, 0))) := ((below_alloc X (.cells #[.int .i64 20, .int .i64 25, .int .i64 30] 3)).block _ (Array.getElem?_eq_some_iff.1 HR.out).1).trans HR.out
                                      have HI19 : Hid ((X.alloc (.cells #[.int .i64 20, .int .i64 25, .int .i64 30] 3)).heap[X.heap.size]? = some (.cells #[.int .i64 20, .int .i64 25, .int .i64 30] 3 (0, 0))) := heap_alloc_new _ _
                                      refine hK.out _ _ (trivial) (fun hS => ?_)
                                      clear hK K
                                      (try simp only [Act.put]); (try simp only [List.setIfInBounds_toArray]); (try simp only [List.set_cons_succ]); (try simp only [List.set_cons_zero])
                                      generalize X.heap.size = BI19 at HI19 ⊢
                                      generalize X.alloc (.cells #[.int .i64 20, .int .i64 25, .int .i64 30] 3) = X19 at HI19 HM19 HR19 ⊢
                                      clear hS HM HR
                                      revert HR19; revert HI19; revert HM19; revert BR; revert BI19; revert X19
                                      exact REST12
                                    refine AllReadyH.cons (o := ⟨some 11, Op.alloc 41, _, _, _, _⟩) rfl (fun K hK => ?_) ?_
                                    ·
                                      go_simp
                                      have HG20 : Hid (x7.heap.size ≤ X.heap.size) := HM.out.size
                                      have HM20 : Hid (Below x7.heap.size x7 (X.alloc (.cells #[.int .i64 0, .int .i64 0] 41))) := below_step HM.out (below_alloc X (.cells #[.int .i64 0, .int .i64 0] 41))
                                      have HR20 : Hid ((X.alloc (.cells #[.int .i64 0, .int .i64 0] 41)).heap[BR]? = some (.cells #[.int .i64 0, .int .i64 1, .int .i64 0, .int .i64 0, .int .i64 20, .int .i64 5, .int .i64 1, .int .i64 1] 80 (0, 0))) := ((below_alloc X (.cells #[.int .i64 0, .int .i64 0] 41)).block _ (Array.getElem?_eq_some_iff.1 HR.out).1).trans HR.out
                                      have HN20 : Hid ((X.alloc (.cells #[.int .i64 0, .int .i64 0] 41)).heap[X.heap.size]? = some (.cells #[.int .i64 0, .int .i64 0] 41 (0, 0))) := heap_alloc_new _ _
                                      refine hK.out _ _ (trivial) (fun hS => ?_)
                                      clear hK K
                                      (try simp only [Act.put]); (try simp only [List.setIfInBounds_toArray]); (try simp only [List.set_cons_succ]); (try simp only [List.set_cons_zero])
                                      generalize X.heap.size = BN20 at HN20 HG20 ⊢
                                      generalize X.alloc (.cells #[.int .i64 0, .int .i64 0] 41) = X20 at HN20 HM20 HR20 ⊢
                                      clear hS HM HR
                                      revert HG20; revert HR20; revert HN20; revert HM20; revert BR; revert BN20; revert X20
                                      exact REST14
                                    exact AllReadyH.nil
                                ·
                                  intro X BN BR HM HN HR HG
                                  have hS := trivial
                                  refine wpAnyH_ready (rs := [2, 3, 4]) (by kernel_rfl) (by simp) ?_
                                  refine AllReadyH.cons (o := ⟨some 60, Op.load 80 (Operand.tmp 59), _, _, _, _⟩) rfl (fun K hK => ?_) ?_
                                  ·
                                    have e4 : X.cell? ⟨BR, 4, none⟩ = some (.int .i64 20) := cell_of_row _ _ 4 _ _ _ HR.out
                                    have e5 : X.cell? ⟨BR, 5, none⟩ = some (.int .i64 5) := cell_of_row _ _ 5 _ _ _ HR.out
                                    have e6 : X.cell? ⟨BR, 6, none⟩ = some (.int .i64 1) := cell_of_row _ _ 6 _ _ _ HR.out
                                    have e7 : X.cell? ⟨BR, 7, none⟩ = some (.int .i64 1) := cell_of_row _ _ 7 _ _ _ HR.out
                                    go_simp
                                    clear e4 e5 e6 e7
                                    refine hK.out _ _ (trivial) (fun hS => ?_)
                                    clear hK K
                                    (try simp only [Act.put]); (try simp only [List.setIfInBounds_toArray]); (try simp only [List.set_cons_succ]); (try simp only [List.set_cons_zero])
                                    clear hS
                                    revert HG; revert HR; revert HN; revert HM; revert BR; revert BN; revert X
                                    exact REST11
                                  refine AllReadyH.cons (o := ⟨some 61, Op.buildSlice 22 3 #[(0, Operand.const (Value.int IntKind.i64 20)), (1, Operand.const (Value.int IntKind.i64 25)), (2, Operand.const (Value.int IntKind.i64 30))], _, _, _, _⟩) rfl (fun K hK => ?_) ?_
                                  ·
                                    go_simp
                                    have HM22 : Hid (Below x7.heap.size x7 (X.alloc (.cells #[.int .i64 20, .int .i64 25, .int .i64 30] 3))) := below_step HM.out (below_alloc X (.cells #[.int .i64 20, .int .i64 25, .int .i64 30] 3))
                                    have HN22 : Hid ((X.alloc (.cells #[.int .i64 20, .int .i64 25, .int .i64 30] 3)).heap[BN]? = some (.cells #[.int .i64 0, .int .i64 0] 41 (0, 0))) := ((below_alloc X (.cells #[.int .i64 20, .int .i64 25, .int .i64 30] 3)).block _ (Array.getElem?_eq_some_iff.1 HN.out).1).trans HN.out
                                    have HR22 : Hid ((X.alloc (.cells #[.int .i64 20, .int .i64 25, .int .i64 30] 3)).heap[BR]? = some (.cells #[.int .i64 0, .int .i64 1, .int .i64 0, .int .i64 0, .int .i64 20, .int .i64 5, .int .i64 1, .int .i64 1] 80 (0, 0))) := ((below_alloc X (.cells #[.int .i64 20, .int .i64 25, .int .i64 30] 3)).block _ (Array.getElem?_eq_some_iff.1 HR.out).1).trans HR.out
                                    have HI22 : Hid ((X.alloc (.cells #[.int .i64 20, .int .i64 25, .int .i64 30] 3)).heap[X.heap.size]? = some (.cells #[.int .i64 20, .int .i64 25, .int .i64 30] 3 (0, 0))) := heap_alloc_new _ _
                                    refine hK.out _ _ (trivial) (fun hS => ?_)
                                    clear hK K
                                    (try simp only [Act.put]); (try simp only [List.setIfInBounds_toArray]); (try simp only [List.set_cons_succ]); (try simp only [List.set_cons_zero])
                                    generalize X.heap.size = BI22 at HI22 ⊢
                                    generalize X.alloc (.cells #[.int .i64 20, .int .i64 25, .int .i64 30] 3) = X22 at HI22 HM22 HN22 HR22 ⊢
                                    clear hS HM HN HR
                                    revert HG; revert HR22; revert HN22; revert HI22; revert HM22; revert BR; revert BN; revert BI22; revert X22
                                    exact REST13
                                  refine AllReadyH.cons (o := ⟨some 62, Op.call { callee := Callee.value (Operand.func 41), args := #[Operand.const (Value.int IntKind.i64 20), Operand.const (Value.int IntKind.i64 25)], argTypes := #[3, 3] }, _, _, _, _⟩) rfl (fun K hK => ?_) ?_
                                  ·
                                    go_simp
                                    refine (between_any 20 25 X).mono ?_
                                    rintro _ X23 ⟨rfl, hx23⟩
                                    (try go_wp2_with fail)
                                    have HM23 : Hid (Below x7.heap.size x7 X23) := below_step HM.out hx23
                                    have HN23 : Hid (X23.heap[BN]? = some (.cells #[.int .i64 0, .int .i64 0] 41 (0, 0))) := (hx23.block _ (Array.getElem?_eq_some_iff.1 HN.out).1).trans HN.out
                                    have HR23 : Hid (X23.heap[BR]? = some (.cells #[.int .i64 0, .int .i64 1, .int .i64 0, .int .i64 0, .int .i64 20, .int .i64 5, .int .i64 1, .int .i64 1] 80 (0, 0))) := (hx23.block _ (Array.getElem?_eq_some_iff.1 HR.out).1).trans HR.out
                                    refine hK.out _ _ (trivial) (fun hS => ?_)
                                    clear hK K
                                    (try simp only [Act.put]); (try simp only [List.setIfInBounds_toArray]); (try simp only [List.set_cons_succ]); (try simp only [List.set_cons_zero])
                                    clear hx23
                                    clear hS HM HN HR
                                    revert HG; revert HR23; revert HN23; revert HM23; revert BR; revert BN; revert X23
                                    exact REST14
                                  exact AllReadyH.nil
                              ·
                                intro X BI BR HM HI HR
                                have hS := trivial
                                refine wpAnyH_ready (rs := [4, 9]) (by kernel_rfl) (by simp) ?_
                                refine AllReadyH.cons (o := ⟨some 62, Op.call { callee := Callee.value (Operand.func 41), args := #[Operand.const (Value.int IntKind.i64 20), Operand.const (Value.int IntKind.i64 25)], argTypes := #[3, 3] }, _, _, _, _⟩) rfl (fun K hK => ?_) ?_
                                ·
                                  go_simp
                                  refine (between_any 20 25 X).mono ?_
                                  rintro _ X24 ⟨rfl, hx24⟩
                                  (try go_wp2_with fail)
                                  have HM24 : Hid (Below x7.heap.size x7 X24) := below_step HM.out hx24
                                  have HR24 : Hid (X24.heap[BR]? = some (.cells #[.int .i64 0, .int .i64 1, .int .i64 0, .int .i64 0, .int .i64 20, .int .i64 5, .int .i64 1, .int .i64 1] 80 (0, 0))) := (hx24.block _ (Array.getElem?_eq_some_iff.1 HR.out).1).trans HR.out
                                  have HI24 : Hid (X24.heap[BI]? = some (.cells #[.int .i64 20, .int .i64 25, .int .i64 30] 3 (0, 0))) := (hx24.block _ (Array.getElem?_eq_some_iff.1 HI.out).1).trans HI.out
                                  refine hK.out _ _ (trivial) (fun hS => ?_)
                                  clear hK K
                                  (try simp only [Act.put]); (try simp only [List.setIfInBounds_toArray]); (try simp only [List.set_cons_succ]); (try simp only [List.set_cons_zero])
                                  clear hx24
                                  clear hS HM HI HR
                                  revert HR24; revert HI24; revert HM24; revert BR; revert BI; revert X24
                                  exact REST15
                                refine AllReadyH.cons (o := ⟨some 11, Op.alloc 41, _, _, _, _⟩) rfl (fun K hK => ?_) ?_
                                ·
                                  go_simp
                                  have HG25 : Hid (x7.heap.size ≤ X.heap.size) := HM.out.size
                                  have HM25 : Hid (Below x7.heap.size x7 (X.alloc (.cells #[.int .i64 0, .int .i64 0] 41))) := below_step HM.out (below_alloc X (.cells #[.int .i64 0, .int .i64 0] 41))
                                  have HR25 : Hid ((X.alloc (.cells #[.int .i64 0, .int .i64 0] 41)).heap[BR]? = some (.cells #[.int .i64 0, .int .i64 1, .int .i64 0, .int .i64 0, .int .i64 20, .int .i64 5, .int .i64 1, .int .i64 1] 80 (0, 0))) := ((below_alloc X (.cells #[.int .i64 0, .int .i64 0] 41)).block _ (Array.getElem?_eq_some_iff.1 HR.out).1).trans HR.out
                                  have HI25 : Hid ((X.alloc (.cells #[.int .i64 0, .int .i64 0] 41)).heap[BI]? = some (.cells #[.int .i64 20, .int .i64 25, .int .i64 30] 3 (0, 0))) := ((below_alloc X (.cells #[.int .i64 0, .int .i64 0] 41)).block _ (Array.getElem?_eq_some_iff.1 HI.out).1).trans HI.out
                                  have HN25 : Hid ((X.alloc (.cells #[.int .i64 0, .int .i64 0] 41)).heap[X.heap.size]? = some (.cells #[.int .i64 0, .int .i64 0] 41 (0, 0))) := heap_alloc_new _ _
                                  refine hK.out _ _ (trivial) (fun hS => ?_)
                                  clear hK K
                                  (try simp only [Act.put]); (try simp only [List.setIfInBounds_toArray]); (try simp only [List.set_cons_succ]); (try simp only [List.set_cons_zero])
                                  generalize X.heap.size = BN25 at HN25 HG25 ⊢
                                  generalize X.alloc (.cells #[.int .i64 0, .int .i64 0] 41) = X25 at HN25 HM25 HR25 HI25 ⊢
                                  clear hS HM HI HR
                                  revert HG25; revert HR25; revert HN25; revert HI25; revert HM25; revert BR; revert BN25; revert BI; revert X25
                                  exact REST16
                                exact AllReadyH.nil
                            ·
                              intro X BR HM HR
                              have hS := trivial
                              refine wpAnyH_ready (rs := [3, 9]) (by kernel_rfl) (by simp) ?_
                              refine AllReadyH.cons (o := ⟨some 61, Op.buildSlice 22 3 #[(0, Operand.const (Value.int IntKind.i64 20)), (1, Operand.const (Value.int IntKind.i64 25)), (2, Operand.const (Value.int IntKind.i64 30))], _, _, _, _⟩) rfl (fun K hK => ?_) ?_
                              ·
                                go_simp
                                have HM26 : Hid (Below x7.heap.size x7 (X.alloc (.cells #[.int .i64 20, .int .i64 25, .int .i64 30] 3))) := below_step HM.out (below_alloc X (.cells #[.int .i64 20, .int .i64 25, .int .i64 30] 3))
                                have HR26 : Hid ((X.alloc (.cells #[.int .i64 20, .int .i64 25, .int .i64 30] 3)).heap[BR]? = some (.cells #[.int .i64 0, .int .i64 1, .int .i64 0, .int .i64 0, .int .i64 20, .int .i64 5, .int .i64 1, .int .i64 1] 80 (0, 0))) := ((below_alloc X (.cells #[.int .i64 20, .int .i64 25, .int .i64 30] 3)).block _ (Array.getElem?_eq_some_iff.1 HR.out).1).trans HR.out
                                have HI26 : Hid ((X.alloc (.cells #[.int .i64 20, .int .i64 25, .int .i64 30] 3)).heap[X.heap.size]? = some (.cells #[.int .i64 20, .int .i64 25, .int .i64 30] 3 (0, 0))) := heap_alloc_new _ _
                                refine hK.out _ _ (trivial) (fun hS => ?_)
                                clear hK K
                                (try simp only [Act.put]); (try simp only [List.setIfInBounds_toArray]); (try simp only [List.set_cons_succ]); (try simp only [List.set_cons_zero])
                                generalize X.heap.size = BI26 at HI26 ⊢
                                generalize X.alloc (.cells #[.int .i64 20, .int .i64 25, .int .i64 30] 3) = X26 at HI26 HM26 HR26 ⊢
                                clear hS HM HR
                                revert HR26; revert HI26; revert HM26; revert BR; revert BI26; revert X26
                                exact REST15
                              refine AllReadyH.cons (o := ⟨some 11, Op.alloc 41, _, _, _, _⟩) rfl (fun K hK => ?_) ?_
                              ·
                                go_simp
                                have HG27 : Hid (x7.heap.size ≤ X.heap.size) := HM.out.size
                                have HM27 : Hid (Below x7.heap.size x7 (X.alloc (.cells #[.int .i64 0, .int .i64 0] 41))) := below_step HM.out (below_alloc X (.cells #[.int .i64 0, .int .i64 0] 41))
                                have HR27 : Hid ((X.alloc (.cells #[.int .i64 0, .int .i64 0] 41)).heap[BR]? = some (.cells #[.int .i64 0, .int .i64 1, .int .i64 0, .int .i64 0, .int .i64 20, .int .i64 5, .int .i64 1, .int .i64 1] 80 (0, 0))) := ((below_alloc X (.cells #[.int .i64 0, .int .i64 0] 41)).block _ (Array.getElem?_eq_some_iff.1 HR.out).1).trans HR.out
                                have HN27 : Hid ((X.alloc (.cells #[.int .i64 0, .int .i64 0] 41)).heap[X.heap.size]? = some (.cells #[.int .i64 0, .int .i64 0] 41 (0, 0))) := heap_alloc_new _ _
                                refine hK.out _ _ (trivial) (fun hS => ?_)
                                clear hK K
                                (try simp only [Act.put]); (try simp only [List.setIfInBounds_toArray]); (try simp only [List.set_cons_succ]); (try simp only [List.set_cons_zero])
                                generalize X.heap.size = BN27 at HN27 HG27 ⊢
                                generalize X.alloc (.cells #[.int .i64 0, .int .i64 0] 41) = X27 at HN27 HM27 HR27 ⊢
                                clear hS HM HR
                                revert HG27; revert HR27; revert HN27; revert HM27; revert BR; revert BN27; revert X27
                                exact REST17
                              exact AllReadyH.nil
                          ·
                            intro X BN BR HM HN HR HG
                            have hS := trivial
                            refine wpAnyH_ready (rs := [3, 4]) (by kernel_rfl) (by simp) ?_
                            refine AllReadyH.cons (o := ⟨some 61, Op.buildSlice 22 3 #[(0, Operand.const (Value.int IntKind.i64 20)), (1, Operand.const (Value.int IntKind.i64 25)), (2, Operand.const (Value.int IntKind.i64 30))], _, _, _, _⟩) rfl (fun K hK => ?_) ?_
                            ·
                              go_simp
                              have HM28 : Hid (Below x7.heap.size x7 (X.alloc (.cells #[.int .i64 20, .int .i64 25, .int .i64 30] 3))) := below_step HM.out (below_alloc X (.cells #[.int .i64 20, .int .i64 25, .int .i64 30] 3))
                              have HR28 : Hid ((X.alloc (.cells #[.int .i64 20, .int .i64 25, .int .i64 30] 3)).heap[BR]? = some (.cells #[.int .i64 0, .int .i64 1, .int .i64 0, .int .i64 0, .int .i64 20, .int .i64 5, .int .i64 1, .int .i64 1] 80 (0, 0))) := ((below_alloc X (.cells #[.int .i64 20, .int .i64 25, .int .i64 30] 3)).block _ (Array.getElem?_eq_some_iff.1 HR.out).1).trans HR.out
                              have HN28 : Hid ((X.alloc (.cells #[.int .i64 20, .int .i64 25, .int .i64 30] 3)).heap[BN]? = some (.cells #[.int .i64 0, .int .i64 0] 41 (0, 0))) := ((below_alloc X (.cells #[.int .i64 20, .int .i64 25, .int .i64 30] 3)).block _ (Array.getElem?_eq_some_iff.1 HN.out).1).trans HN.out
                              have HI28 : Hid ((X.alloc (.cells #[.int .i64 20, .int .i64 25, .int .i64 30] 3)).heap[X.heap.size]? = some (.cells #[.int .i64 20, .int .i64 25, .int .i64 30] 3 (0, 0))) := heap_alloc_new _ _
                              refine hK.out _ _ (trivial) (fun hS => ?_)
                              clear hK K
                              (try simp only [Act.put]); (try simp only [List.setIfInBounds_toArray]); (try simp only [List.set_cons_succ]); (try simp only [List.set_cons_zero])
                              generalize X.heap.size = BI28 at HI28 ⊢
                              generalize X.alloc (.cells #[.int .i64 20, .int .i64 25, .int .i64 30] 3) = X28 at HI28 HM28 HR28 HN28 ⊢
                              clear hS HM HN HR
                              revert HG; revert HR28; revert HN28; revert HI28; revert HM28; revert BR; revert BN; revert BI28; revert X28
                              exact REST16
                            refine AllReadyH.cons (o := ⟨some 62, Op.call { callee := Callee.value (Operand.func 41), args := #[Operand.const (Value.int IntKind.i64 20), Operand.const (Value.int IntKind.i64 25)], argTypes := #[3, 3] }, _, _, _, _⟩) rfl (fun K hK => ?_) ?_
                            ·
                              go_simp
                              refine (between_any 20 25 X).mono ?_
                              rintro _ X29 ⟨rfl, hx29⟩
                              (try go_wp2_with fail)
                              have HM29 : Hid (Below x7.heap.size x7 X29) := below_step HM.out hx29
                              have HR29 : Hid (X29.heap[BR]? = some (.cells #[.int .i64 0, .int .i64 1, .int .i64 0, .int .i64 0, .int .i64 20, .int .i64 5, .int .i64 1, .int .i64 1] 80 (0, 0))) := (hx29.block _ (Array.getElem?_eq_some_iff.1 HR.out).1).trans HR.out
                              have HN29 : Hid (X29.heap[BN]? = some (.cells #[.int .i64 0, .int .i64 0] 41 (0, 0))) := (hx29.block _ (Array.getElem?_eq_some_iff.1 HN.out).1).trans HN.out
                              refine hK.out _ _ (trivial) (fun hS => ?_)
                              clear hK K
                              (try simp only [Act.put]); (try simp only [List.setIfInBounds_toArray]); (try simp only [List.set_cons_succ]); (try simp only [List.set_cons_zero])
                              clear hx29
                              clear hS HM HN HR
                              revert HG; revert HR29; revert HN29; revert HM29; revert BR; revert BN; revert X29
                              exact REST17
                            exact AllReadyH.nil
                        ·
                          intro X BI BR HM HI HR
                          have hS := trivial
                          refine wpAnyH_ready (rs := [2, 9]) (by kernel_rfl) (by simp) ?_
                          refine AllReadyH.cons (o := ⟨some 60, Op.load 80 (Operand.tmp 59), _, _, _, _⟩) rfl (fun K hK => ?_) ?_
                          ·
                            have e4 : X.cell? ⟨BR, 4, none⟩ = some (.int .i64 20) := cell_of_row _ _ 4 _ _ _ HR.out
                            have e5 : X.cell? ⟨BR, 5, none⟩ = some (.int .i64 5) := cell_of_row _ _ 5 _ _ _ HR.out
                            have e6 : X.cell? ⟨BR, 6, none⟩ = some (.int .i64 1) := cell_of_row _ _ 6 _ _ _ HR.out
                            have e7 : X.cell? ⟨BR, 7, none⟩ = some (.int .i64 1) := cell_of_row _ _ 7 _ _ _ HR.out
                            go_simp
                            clear e4 e5 e6 e7
                            refine hK.out _ _ (trivial) (fun hS => ?_)
                            clear hK K
                            (try simp only [Act.put]); (try simp only [List.setIfInBounds_toArray]); (try simp only [List.set_cons_succ]); (try simp only [List.set_cons_zero])
                            clear hS
                            revert HR; revert HI; revert HM; revert BR; revert BI; revert X
                            exact REST15
                          refine AllReadyH.cons (o := ⟨some 11, Op.alloc 41, _, _, _, _⟩) rfl (fun K hK => ?_) ?_
                          ·
                            go_simp
                            have HG31 : Hid (x7.heap.size ≤ X.heap.size) := HM.out.size
                            have HM31 : Hid (Below x7.heap.size x7 (X.alloc (.cells #[.int .i64 0, .int .i64 0] 41))) := below_step HM.out (below_alloc X (.cells #[.int .i64 0, .int .i64 0] 41))
                            have HI31 : Hid ((X.alloc (.cells #[.int .i64 0, .int .i64 0] 41)).heap[BI]? = some (.cells #[.int .i64 20, .int .i64 25, .int .i64 30] 3 (0, 0))) := ((below_alloc X (.cells #[.int .i64 0, .int .i64 0] 41)).block _ (Array.getElem?_eq_some_iff.1 HI.out).1).trans HI.out
                            have HR31 : Hid ((X.alloc (.cells #[.int .i64 0, .int .i64 0] 41)).heap[BR]? = some (.cells #[.int .i64 0, .int .i64 1, .int .i64 0, .int .i64 0, .int .i64 20, .int .i64 5, .int .i64 1, .int .i64 1] 80 (0, 0))) := ((below_alloc X (.cells #[.int .i64 0, .int .i64 0] 41)).block _ (Array.getElem?_eq_some_iff.1 HR.out).1).trans HR.out
                            have HN31 : Hid ((X.alloc (.cells #[.int .i64 0, .int .i64 0] 41)).heap[X.heap.size]? = some (.cells #[.int .i64 0, .int .i64 0] 41 (0, 0))) := heap_alloc_new _ _
                            refine hK.out _ _ (trivial) (fun hS => ?_)
                            clear hK K
                            (try simp only [Act.put]); (try simp only [List.setIfInBounds_toArray]); (try simp only [List.set_cons_succ]); (try simp only [List.set_cons_zero])
                            generalize X.heap.size = BN31 at HN31 HG31 ⊢
                            generalize X.alloc (.cells #[.int .i64 0, .int .i64 0] 41) = X31 at HN31 HM31 HI31 HR31 ⊢
                            clear hS HM HI HR
                            revert HG31; revert HR31; revert HN31; revert HI31; revert HM31; revert BR; revert BN31; revert BI; revert X31
                            exact REST18
                          exact AllReadyH.nil
                      ·
                        intro X BI BN BR HM HI HN HR HG
                        have hS := trivial
                        refine wpAnyH_ready (rs := [2, 4]) (by kernel_rfl) (by simp) ?_
                        refine AllReadyH.cons (o := ⟨some 60, Op.load 80 (Operand.tmp 59), _, _, _, _⟩) rfl (fun K hK => ?_) ?_
                        ·
                          have e4 : X.cell? ⟨BR, 4, none⟩ = some (.int .i64 20) := cell_of_row _ _ 4 _ _ _ HR.out
                          have e5 : X.cell? ⟨BR, 5, none⟩ = some (.int .i64 5) := cell_of_row _ _ 5 _ _ _ HR.out
                          have e6 : X.cell? ⟨BR, 6, none⟩ = some (.int .i64 1) := cell_of_row _ _ 6 _ _ _ HR.out
                          have e7 : X.cell? ⟨BR, 7, none⟩ = some (.int .i64 1) := cell_of_row _ _ 7 _ _ _ HR.out
                          go_simp
                          clear e4 e5 e6 e7
                          refine hK.out _ _ (trivial) (fun hS => ?_)
                          clear hK K
                          (try simp only [Act.put]); (try simp only [List.setIfInBounds_toArray]); (try simp only [List.set_cons_succ]); (try simp only [List.set_cons_zero])
                          clear hS
                          revert HG; revert HR; revert HN; revert HI; revert HM; revert BR; revert BN; revert BI; revert X
                          exact REST16
                        refine AllReadyH.cons (o := ⟨some 62, Op.call { callee := Callee.value (Operand.func 41), args := #[Operand.const (Value.int IntKind.i64 20), Operand.const (Value.int IntKind.i64 25)], argTypes := #[3, 3] }, _, _, _, _⟩) rfl (fun K hK => ?_) ?_
                        ·
                          go_simp
                          refine (between_any 20 25 X).mono ?_
                          rintro _ X33 ⟨rfl, hx33⟩
                          (try go_wp2_with fail)
                          have HM33 : Hid (Below x7.heap.size x7 X33) := below_step HM.out hx33
                          have HI33 : Hid (X33.heap[BI]? = some (.cells #[.int .i64 20, .int .i64 25, .int .i64 30] 3 (0, 0))) := (hx33.block _ (Array.getElem?_eq_some_iff.1 HI.out).1).trans HI.out
                          have HN33 : Hid (X33.heap[BN]? = some (.cells #[.int .i64 0, .int .i64 0] 41 (0, 0))) := (hx33.block _ (Array.getElem?_eq_some_iff.1 HN.out).1).trans HN.out
                          have HR33 : Hid (X33.heap[BR]? = some (.cells #[.int .i64 0, .int .i64 1, .int .i64 0, .int .i64 0, .int .i64 20, .int .i64 5, .int .i64 1, .int .i64 1] 80 (0, 0))) := (hx33.block _ (Array.getElem?_eq_some_iff.1 HR.out).1).trans HR.out
                          refine hK.out _ _ (trivial) (fun hS => ?_)
                          clear hK K
                          (try simp only [Act.put]); (try simp only [List.setIfInBounds_toArray]); (try simp only [List.set_cons_succ]); (try simp only [List.set_cons_zero])
                          clear hx33
                          clear hS HM HI HN HR
                          revert HG; revert HR33; revert HN33; revert HI33; revert HM33; revert BR; revert BN; revert BI; revert X33
                          exact REST18
                        exact AllReadyH.nil
                    ·
                      intro X BN BR HM HN HR HG
                      have hS := trivial
                      refine wpAnyH_ready (rs := [2, 3]) (by kernel_rfl) (by simp) ?_
                      refine AllReadyH.cons (o := ⟨some 60, Op.load 80 (Operand.tmp 59), _, _, _, _⟩) rfl (fun K hK => ?_) ?_
                      ·
                        have e4 : X.cell? ⟨BR, 4, none⟩ = some (.int .i64 20) := cell_of_row _ _ 4 _ _ _ HR.out
                        have e5 : X.cell? ⟨BR, 5, none⟩ = some (.int .i64 5) := cell_of_row _ _ 5 _ _ _ HR.out
                        have e6 : X.cell? ⟨BR, 6, none⟩ = some (.int .i64 1) := cell_of_row _ _ 6 _ _ _ HR.out
                        have e7 : X.cell? ⟨BR, 7, none⟩ = some (.int .i64 1) := cell_of_row _ _ 7 _ _ _ HR.out
                        go_simp
                        clear e4 e5 e6 e7
                        refine hK.out _ _ (trivial) (fun hS => ?_)
                        clear hK K
                        (try simp only [Act.put]); (try simp only [List.setIfInBounds_toArray]); (try simp only [List.set_cons_succ]); (try simp only [List.set_cons_zero])
                        clear hS
                        revert HG; revert HR; revert HN; revert HM; revert BR; revert BN; revert X
                        exact REST17
                      refine AllReadyH.cons (o := ⟨some 61, Op.buildSlice 22 3 #[(0, Operand.const (Value.int IntKind.i64 20)), (1, Operand.const (Value.int IntKind.i64 25)), (2, Operand.const (Value.int IntKind.i64 30))], _, _, _, _⟩) rfl (fun K hK => ?_) ?_
                      ·
                        go_simp
                        have HM35 : Hid (Below x7.heap.size x7 (X.alloc (.cells #[.int .i64 20, .int .i64 25, .int .i64 30] 3))) := below_step HM.out (below_alloc X (.cells #[.int .i64 20, .int .i64 25, .int .i64 30] 3))
                        have HR35 : Hid ((X.alloc (.cells #[.int .i64 20, .int .i64 25, .int .i64 30] 3)).heap[BR]? = some (.cells #[.int .i64 0, .int .i64 1, .int .i64 0, .int .i64 0, .int .i64 20, .int .i64 5, .int .i64 1, .int .i64 1] 80 (0, 0))) := ((below_alloc X (.cells #[.int .i64 20, .int .i64 25, .int .i64 30] 3)).block _ (Array.getElem?_eq_some_iff.1 HR.out).1).trans HR.out
                        have HN35 : Hid ((X.alloc (.cells #[.int .i64 20, .int .i64 25, .int .i64 30] 3)).heap[BN]? = some (.cells #[.int .i64 0, .int .i64 0] 41 (0, 0))) := ((below_alloc X (.cells #[.int .i64 20, .int .i64 25, .int .i64 30] 3)).block _ (Array.getElem?_eq_some_iff.1 HN.out).1).trans HN.out
                        have HI35 : Hid ((X.alloc (.cells #[.int .i64 20, .int .i64 25, .int .i64 30] 3)).heap[X.heap.size]? = some (.cells #[.int .i64 20, .int .i64 25, .int .i64 30] 3 (0, 0))) := heap_alloc_new _ _
                        refine hK.out _ _ (trivial) (fun hS => ?_)
                        clear hK K
                        (try simp only [Act.put]); (try simp only [List.setIfInBounds_toArray]); (try simp only [List.set_cons_succ]); (try simp only [List.set_cons_zero])
                        generalize X.heap.size = BI35 at HI35 ⊢
                        generalize X.alloc (.cells #[.int .i64 20, .int .i64 25, .int .i64 30] 3) = X35 at HI35 HM35 HR35 HN35 ⊢
                        clear hS HM HN HR
                        revert HG; revert HR35; revert HN35; revert HI35; revert HM35; revert BR; revert BN; revert BI35; revert X35
                        exact REST18
                      exact AllReadyH.nil
                  ·
                    intro X BI BR HM HI HR
                    have hS := trivial
                    refine wpAnyH_ready (rs := [5, 9]) (by kernel_rfl) (by simp) ?_
                    refine AllReadyH.cons (o := ⟨some 63, Op.call { callee := Callee.value (Operand.func 59), args := #[Operand.tmp 60, Operand.tmp 61, Operand.tmp 62], argTypes := #[80, 22, 41] }, _, _, _, _⟩) rfl (fun K hK => ?_) ?_
                    ·
                      go_simp
                      refine (HC1.out X BI HI.out).mono ?_
                      rintro _ X36 ⟨rfl, hx36⟩
                      (try go_wp2_with fail)
                      have HM36 : Hid (Below x7.heap.size x7 X36) := below_step HM.out hx36
                      have HR36 : Hid (X36.heap[BR]? = some (.cells #[.int .i64 0, .int .i64 1, .int .i64 0, .int .i64 0, .int .i64 20, .int .i64 5, .int .i64 1, .int .i64 1] 80 (0, 0))) := (hx36.block _ (Array.getElem?_eq_some_iff.1 HR.out).1).trans HR.out
                      have HI36 : Hid (X36.heap[BI]? = some (.cells #[.int .i64 20, .int .i64 25, .int .i64 30] 3 (0, 0))) := (hx36.block _ (Array.getElem?_eq_some_iff.1 HI.out).1).trans HI.out
                      refine hK.out _ _ (trivial) (fun hS => ?_)
                      clear hK K
                      (try simp only [Act.put]); (try simp only [List.setIfInBounds_toArray]); (try simp only [List.set_cons_succ]); (try simp only [List.set_cons_zero])
                      clear hx36
                      refine wpAnyH_take (i := 6) (oi := ⟨some 57, Op.move (Operand.tmp 63), _, _, _, _⟩) (v := .tuple #[.agg #[.int .i64 0, .int .i64 2], .int .i64 0]) rfl (by kernel_rfl) (by kernel_rfl) (by kernel_rfl) (fun _ _ _ h => h) (Or.inl ⟨by rfl, ?_⟩) hS ?_
                      · intro W' hSw; go_simp
                      (try simp only [Act.put]); (try simp only [List.setIfInBounds_toArray]); (try simp only [List.set_cons_succ]); (try simp only [List.set_cons_zero])
                      refine wpAnyH_take (i := 7) (oi := ⟨some 64, Op.extract (Operand.tmp 57) 0, _, _, _, _⟩) (v := .agg #[.int .i64 0, .int .i64 2]) rfl (by kernel_rfl) (by kernel_rfl) (by kernel_rfl) (fun _ _ _ h => h) (Or.inl ⟨by rfl, ?_⟩) hS ?_
                      · intro W' hSw; go_simp
                      (try simp only [Act.put]); (try simp only [List.setIfInBounds_toArray]); (try simp only [List.set_cons_succ]); (try simp only [List.set_cons_zero])
                      refine wpAnyH_take (i := 8) (oi := ⟨some 65, Op.extract (Operand.tmp 57) 1, _, _, _, _⟩) (v := .int .i64 0) rfl (by kernel_rfl) (by kernel_rfl) (by kernel_rfl) (fun _ _ _ h => h) (Or.inl ⟨by rfl, ?_⟩) hS ?_
                      · intro W' hSw; go_simp
                      (try simp only [Act.put]); (try simp only [List.setIfInBounds_toArray]); (try simp only [List.set_cons_succ]); (try simp only [List.set_cons_zero])
                      clear hS HM HI HR
                      revert HR36; revert HI36; revert HM36; revert BR; revert BI; revert X36
                      exact REST20
                    refine AllReadyH.cons (o := ⟨some 11, Op.alloc 41, _, _, _, _⟩) rfl (fun K hK => ?_) ?_
                    ·
                      go_simp
                      have HG37 : Hid (x7.heap.size ≤ X.heap.size) := HM.out.size
                      have HM37 : Hid (Below x7.heap.size x7 (X.alloc (.cells #[.int .i64 0, .int .i64 0] 41))) := below_step HM.out (below_alloc X (.cells #[.int .i64 0, .int .i64 0] 41))
                      have HR37 : Hid ((X.alloc (.cells #[.int .i64 0, .int .i64 0] 41)).heap[BR]? = some (.cells #[.int .i64 0, .int .i64 1, .int .i64 0, .int .i64 0, .int .i64 20, .int .i64 5, .int .i64 1, .int .i64 1] 80 (0, 0))) := ((below_alloc X (.cells #[.int .i64 0, .int .i64 0] 41)).block _ (Array.getElem?_eq_some_iff.1 HR.out).1).trans HR.out
                      have HI37 : Hid ((X.alloc (.cells #[.int .i64 0, .int .i64 0] 41)).heap[BI]? = some (.cells #[.int .i64 20, .int .i64 25, .int .i64 30] 3 (0, 0))) := ((below_alloc X (.cells #[.int .i64 0, .int .i64 0] 41)).block _ (Array.getElem?_eq_some_iff.1 HI.out).1).trans HI.out
                      have HN37 : Hid ((X.alloc (.cells #[.int .i64 0, .int .i64 0] 41)).heap[X.heap.size]? = some (.cells #[.int .i64 0, .int .i64 0] 41 (0, 0))) := heap_alloc_new _ _
                      refine hK.out _ _ (trivial) (fun hS => ?_)
                      clear hK K
                      (try simp only [Act.put]); (try simp only [List.setIfInBounds_toArray]); (try simp only [List.set_cons_succ]); (try simp only [List.set_cons_zero])
                      generalize X.heap.size = BN37 at HN37 HG37 ⊢
                      generalize X.alloc (.cells #[.int .i64 0, .int .i64 0] 41) = X37 at HN37 HM37 HR37 HI37 ⊢
                      clear hS HM HI HR
                      revert HG37; revert HR37; revert HN37; revert HI37; revert HM37; revert BR; revert BN37; revert BI; revert X37
                      exact REST19
                    exact AllReadyH.nil
                ·
                  intro X BI BN BR HM HI HN HR HG
                  have hS := trivial
                  refine wpAnyH_ready (rs := [4]) (by kernel_rfl) (by simp) ?_
                  refine AllReadyH.cons (o := ⟨some 62, Op.call { callee := Callee.value (Operand.func 41), args := #[Operand.const (Value.int IntKind.i64 20), Operand.const (Value.int IntKind.i64 25)], argTypes := #[3, 3] }, _, _, _, _⟩) rfl (fun K hK => ?_) ?_
                  ·
                    go_simp
                    refine (between_any 20 25 X).mono ?_
                    rintro _ X38 ⟨rfl, hx38⟩
                    (try go_wp2_with fail)
                    have HM38 : Hid (Below x7.heap.size x7 X38) := below_step HM.out hx38
                    have HR38 : Hid (X38.heap[BR]? = some (.cells #[.int .i64 0, .int .i64 1, .int .i64 0, .int .i64 0, .int .i64 20, .int .i64 5, .int .i64 1, .int .i64 1] 80 (0, 0))) := (hx38.block _ (Array.getElem?_eq_some_iff.1 HR.out).1).trans HR.out
                    have HI38 : Hid (X38.heap[BI]? = some (.cells #[.int .i64 20, .int .i64 25, .int .i64 30] 3 (0, 0))) := (hx38.block _ (Array.getElem?_eq_some_iff.1 HI.out).1).trans HI.out
                    have HN38 : Hid (X38.heap[BN]? = some (.cells #[.int .i64 0, .int .i64 0] 41 (0, 0))) := (hx38.block _ (Array.getElem?_eq_some_iff.1 HN.out).1).trans HN.out
                    refine hK.out _ _ (trivial) (fun hS => ?_)
                    clear hK K
                    (try simp only [Act.put]); (try simp only [List.setIfInBounds_toArray]); (try simp only [List.set_cons_succ]); (try simp only [List.set_cons_zero])
                    clear hx38
                    clear hS HM HI HN HR
                    revert HG; revert HR38; revert HN38; revert HI38; revert HM38; revert BR; revert BN; revert BI; revert X38
                    exact REST19
                  exact AllReadyH.nil
              ·
                intro X BN BR HM HN HR HG
                have hS := trivial
                refine wpAnyH_ready (rs := [3]) (by kernel_rfl) (by simp) ?_
                refine AllReadyH.cons (o := ⟨some 61, Op.buildSlice 22 3 #[(0, Operand.const (Value.int IntKind.i64 20)), (1, Operand.const (Value.int IntKind.i64 25)), (2, Operand.const (Value.int IntKind.i64 30))], _, _, _, _⟩) rfl (fun K hK => ?_) ?_
                ·
                  go_simp
                  have HM39 : Hid (Below x7.heap.size x7 (X.alloc (.cells #[.int .i64 20, .int .i64 25, .int .i64 30] 3))) := below_step HM.out (below_alloc X (.cells #[.int .i64 20, .int .i64 25, .int .i64 30] 3))
                  have HR39 : Hid ((X.alloc (.cells #[.int .i64 20, .int .i64 25, .int .i64 30] 3)).heap[BR]? = some (.cells #[.int .i64 0, .int .i64 1, .int .i64 0, .int .i64 0, .int .i64 20, .int .i64 5, .int .i64 1, .int .i64 1] 80 (0, 0))) := ((below_alloc X (.cells #[.int .i64 20, .int .i64 25, .int .i64 30] 3)).block _ (Array.getElem?_eq_some_iff.1 HR.out).1).trans HR.out
                  have HN39 : Hid ((X.alloc (.cells #[.int .i64 20, .int .i64 25, .int .i64 30] 3)).heap[BN]? = some (.cells #[.int .i64 0, .int .i64 0] 41 (0, 0))) := ((below_alloc X (.cells #[.int .i64 20, .int .i64 25, .int .i64 30] 3)).block _ (Array.getElem?_eq_some_iff.1 HN.out).1).trans HN.out
                  have HI39 : Hid ((X.alloc (.cells #[.int .i64 20, .int .i64 25, .int .i64 30] 3)).heap[X.heap.size]? = some (.cells #[.int .i64 20, .int .i64 25, .int .i64 30] 3 (0, 0))) := heap_alloc_new _ _
                  refine hK.out _ _ (trivial) (fun hS => ?_)
                  clear hK K
                  (try simp only [Act.put]); (try simp only [List.setIfInBounds_toArray]); (try simp only [List.set_cons_succ]); (try simp only [List.set_cons_zero])
                  generalize X.heap.size = BI39 at HI39 ⊢
                  generalize X.alloc (.cells #[.int .i64 20, .int .i64 25, .int .i64 30] 3) = X39 at HI39 HM39 HR39 HN39 ⊢
                  clear hS HM HN HR
                  revert HG; revert HR39; revert HN39; revert HI39; revert HM39; revert BR; revert BN; revert BI39; revert X39
                  exact REST19
                exact AllReadyH.nil
            ·
              intro X BI BN BR HM HI HN HR HG
              have hS := trivial
              refine wpAnyH_ready (rs := [2]) (by kernel_rfl) (by simp) ?_
              refine AllReadyH.cons (o := ⟨some 60, Op.load 80 (Operand.tmp 59), _, _, _, _⟩) rfl (fun K hK => ?_) ?_
              ·
                have e4 : X.cell? ⟨BR, 4, none⟩ = some (.int .i64 20) := cell_of_row _ _ 4 _ _ _ HR.out
                have e5 : X.cell? ⟨BR, 5, none⟩ = some (.int .i64 5) := cell_of_row _ _ 5 _ _ _ HR.out
                have e6 : X.cell? ⟨BR, 6, none⟩ = some (.int .i64 1) := cell_of_row _ _ 6 _ _ _ HR.out
                have e7 : X.cell? ⟨BR, 7, none⟩ = some (.int .i64 1) := cell_of_row _ _ 7 _ _ _ HR.out
                go_simp
                clear e4 e5 e6 e7
                refine hK.out _ _ (trivial) (fun hS => ?_)
                clear hK K
                (try simp only [Act.put]); (try simp only [List.setIfInBounds_toArray]); (try simp only [List.set_cons_succ]); (try simp only [List.set_cons_zero])
                clear hS
                revert HG; revert HR; revert HN; revert HI; revert HM; revert BR; revert BN; revert BI; revert X
                exact REST19
              exact AllReadyH.nil
          ·
            intro X BI BN BR HM HI HN HR HG
            have hS := trivial
            refine wpAnyH_ready (rs := [5]) (by kernel_rfl) (by simp) ?_
            refine AllReadyH.cons (o := ⟨some 63, Op.call { callee := Callee.value (Operand.func 59), args := #[Operand.tmp 60, Operand.tmp 61, Operand.tmp 62], argTypes := #[80, 22, 41] }, _, _, _, _⟩) rfl (fun K hK => ?_) ?_
            ·
              go_simp
              refine (HC1.out X BI HI.out).mono ?_
              rintro _ X41 ⟨rfl, hx41⟩
              (try go_wp2_with fail)
              have HM41 : Hid (Below x7.heap.size x7 X41) := below_step HM.out hx41
              have HR41 : Hid (X41.heap[BR]? = some (.cells #[.int .i64 0, .int .i64 1, .int .i64 0, .int .i64 0, .int .i64 20, .int .i64 5, .int .i64 1, .int .i64 1] 80 (0, 0))) := (hx41.block _ (Array.getElem?_eq_some_iff.1 HR.out).1).trans HR.out
              have HI41 : Hid (X41.heap[BI]? = some (.cells #[.int .i64 20, .int .i64 25, .int .i64 30] 3 (0, 0))) := (hx41.block _ (Array.getElem?_eq_some_iff.1 HI.out).1).trans HI.out
              have HN41 : Hid (X41.heap[BN]? = some (.cells #[.int .i64 0, .int .i64 0] 41 (0, 0))) := (hx41.block _ (Array.getElem?_eq_some_iff.1 HN.out).1).trans HN.out
              refine hK.out _ _ (trivial) (fun hS => ?_)
              clear hK K
              (try simp only [Act.put]); (try simp only [List.setIfInBounds_toArray]); (try simp only [List.set_cons_succ]); (try simp only [List.set_cons_zero])
              clear hx41
              refine wpAnyH_take (i := 6) (oi := ⟨some 57, Op.move (Operand.tmp 63), _, _, _, _⟩) (v := .tuple #[.agg #[.int .i64 0, .int .i64 2], .int .i64 0]) rfl (by kernel_rfl) (by kernel_rfl) (by kernel_rfl) (fun _ _ _ h => h) (Or.inl ⟨by rfl, ?_⟩) hS ?_
              · intro W' hSw; go_simp
              (try simp only [Act.put]); (try simp only [List.setIfInBounds_toArray]); (try simp only [List.set_cons_succ]); (try simp only [List.set_cons_zero])
              refine wpAnyH_take (i := 7) (oi := ⟨some 64, Op.extract (Operand.tmp 57) 0, _, _, _, _⟩) (v := .agg #[.int .i64 0, .int .i64 2]) rfl (by kernel_rfl) (by kernel_rfl) (by kernel_rfl) (fun _ _ _ h => h) (Or.inl ⟨by rfl, ?_⟩) hS ?_
              · intro W' hSw; go_simp
              (try simp only [Act.put]); (try simp only [List.setIfInBounds_toArray]); (try simp only [List.set_cons_succ]); (try simp only [List.set_cons_zero])
              refine wpAnyH_take (i := 8) (oi := ⟨some 65, Op.extract (Operand.tmp 57) 1, _, _, _, _⟩) (v := .int .i64 0) rfl (by kernel_rfl) (by kernel_rfl) (by kernel_rfl) (fun _ _ _ h => h) (Or.inl ⟨by rfl, ?_⟩) hS ?_
              · intro W' hSw; go_simp
              (try simp only [Act.put]); (try simp only [List.setIfInBounds_toArray]); (try simp only [List.set_cons_succ]); (try simp only [List.set_cons_zero])
              clear hS HM HI HN HR
              revert HG; revert HR41; revert HN41; revert HI41; revert HM41; revert BR; revert BN; revert BI; revert X41
              exact REST21
            exact AllReadyH.nil
        ·
          intro X BI BR HM HI HR
          have hS := trivial
          refine wpAnyH_ready (rs := [9]) (by kernel_rfl) (by simp) ?_
          refine AllReadyH.cons (o := ⟨some 11, Op.alloc 41, _, _, _, _⟩) rfl (fun K hK => ?_) ?_
          ·
            go_simp
            have HG42 : Hid (x7.heap.size ≤ X.heap.size) := HM.out.size
            have HM42 : Hid (Below x7.heap.size x7 (X.alloc (.cells #[.int .i64 0, .int .i64 0] 41))) := below_step HM.out (below_alloc X (.cells #[.int .i64 0, .int .i64 0] 41))
            have HR42 : Hid ((X.alloc (.cells #[.int .i64 0, .int .i64 0] 41)).heap[BR]? = some (.cells #[.int .i64 0, .int .i64 1, .int .i64 0, .int .i64 0, .int .i64 20, .int .i64 5, .int .i64 1, .int .i64 1] 80 (0, 0))) := ((below_alloc X (.cells #[.int .i64 0, .int .i64 0] 41)).block _ (Array.getElem?_eq_some_iff.1 HR.out).1).trans HR.out
            have HI42 : Hid ((X.alloc (.cells #[.int .i64 0, .int .i64 0] 41)).heap[BI]? = some (.cells #[.int .i64 20, .int .i64 25, .int .i64 30] 3 (0, 0))) := ((below_alloc X (.cells #[.int .i64 0, .int .i64 0] 41)).block _ (Array.getElem?_eq_some_iff.1 HI.out).1).trans HI.out
            have HN42 : Hid ((X.alloc (.cells #[.int .i64 0, .int .i64 0] 41)).heap[X.heap.size]? = some (.cells #[.int .i64 0, .int .i64 0] 41 (0, 0))) := heap_alloc_new _ _
            refine hK.out _ _ (trivial) (fun hS => ?_)
            clear hK K
            (try simp only [Act.put]); (try simp only [List.setIfInBounds_toArray]); (try simp only [List.set_cons_succ]); (try simp only [List.set_cons_zero])
            generalize X.heap.size = BN42 at HN42 HG42 ⊢
            generalize X.alloc (.cells #[.int .i64 0, .int .i64 0] 41) = X42 at HN42 HM42 HR42 HI42 ⊢
            clear hS HM HI HR
            revert HG42; revert HR42; revert HN42; revert HI42; revert HM42; revert BR; revert BN42; revert BI; revert X42
            exact REST21
          exact AllReadyH.nil
      ·
        intro X BI BN BR HM HI HN HR HG
        have hS := trivial
        refine wpAnyH_ready (rs := [10]) (by kernel_rfl) (by simp) ?_
        refine AllReadyH.cons (o := ⟨none, Op.store 41 (Operand.tmp 11) (Operand.tmp 64), _, _, _, _⟩) rfl (fun K hK => ?_) ?_
        ·
          have eb := HN.out
          have e0 := cell_of_row _ _ 0 _ _ _ eb
          have e1 := cell_of_row _ _ 1 _ _ _ eb
          have f0 := frozen_of_row _ _ 0 _ _ eb
          have f1 := frozen_of_row _ _ 1 _ _ eb
          have HM43 : Hid (Below x7.heap.size x7 ((X.setCell ⟨BN, 0, none⟩ (.int .i64 0)).setCell ⟨BN, 1, none⟩ (.int .i64 2))) := (HM.out.setCell HG.out _).setCell HG.out _
          have HN43 : Hid (((X.setCell ⟨BN, 0, none⟩ (.int .i64 0)).setCell ⟨BN, 1, none⟩ (.int .i64 2)).heap[BN]? = some (.cells #[.int .i64 0, .int .i64 2] 41 (0, 0))) := by unfold Hid; simp [World.setCell, Array.getElem?_modify, eb]
          clear eb
          go_simp
          refine hK.out _ _ (trivial) (fun hS => ?_)
          clear hK K
          (try simp only [Act.put]); (try simp only [List.setIfInBounds_toArray]); (try simp only [List.set_cons_succ]); (try simp only [List.set_cons_zero])
          clear e0 e1 f0 f1
          refine wpAnyH_take (i := 11) (oi := ⟨some 12, Op.assign (Operand.tmp 65), _, _, _, _⟩) (v := .int .i64 0) rfl (by kernel_rfl) (by kernel_rfl) (by kernel_rfl) (fun _ _ _ h => h) (Or.inl ⟨by rfl, ?_⟩) hS ?_
          · intro W' hSw; go_simp
          (try simp only [Act.put]); (try simp only [List.setIfInBounds_toArray]); (try simp only [List.set_cons_succ]); (try simp only [List.set_cons_zero])
          clear hS HM HN
          revert HG; revert HR; revert HN43; revert HI; revert HM43; revert BR; revert BN; revert BI; revert X
          exact REST22
        exact AllReadyH.nil
    ·
      intro X BI BN BR HM HI HN HR HG
      have hS := trivial
      refine wpAnyH_done (by kernel_rfl) ?_ _
      go_wp2_with fail
      go_meet
      exact ⟨BN, rfl, rfl, HN.out, HM.out⟩
  case rest => as_aux_lemma =>
    obtain ⟨B1, rfl, rfl, hb1, hbx⟩ := hcut
    obtain ⟨z1, rfl⟩ : ∃ z1, z1 = wc := ⟨_, rfl⟩
    have HN1 := Lib.hid hb1
    have HZ1 := Lib.hid hbx
    clear hb1 hbx
    have HB9 : Hid (Below w.heap.size w z1) := below_step HB8.out (HZ1.out)
    go_wp2_with fail
    refine (rules_any _).mono ?_
    rintro _ _ ⟨rfl, rfl⟩
    go_wp2_with fail
    refine (HT.out _).mono ?_
    rintro _ x10 ⟨v5, rfl, hr5, hb⟩
    obtain ⟨a5, c5, rfl⟩ := hr5.rg.slice
    have HL := Lib.hid (below_step (below_alloc z1 (.cells #[.int .i64 0, .int .i64 1, .int .i64 0, .int .i64 0, .int .i64 20, .int .i64 5, .int .i64 1, .int .i64 1] 80)) hb)
    clear hr5 hb
    have HB11 : Hid (Below w.heap.size w x10) := below_step HB9.out (HL.out)
    have HCE : Hid (∀ X : World, Below x10.heap.size x10 X → X.cell? ⟨g4, o4, none⟩ = some (.int .i64 0) ∧ X.cell? ⟨g4, o4 + 1, none⟩ = some (.int .i64 1970) ∧ X.cell? ⟨B1, 0, none⟩ = some (.int .i64 0) ∧ X.cell? ⟨B1, 1, none⟩ = some (.int .i64 2)) := fun X hX => by
      have h4 := below_step (below_step HZ1.out HL.out) hX
      have h1 := below_step HL.out hX
      have k1 := (h1.block _ (Array.getElem?_eq_some_iff.1 HN1.out).1).trans HN1.out
      exact ⟨kept h4 X4.out.1 X4.out.2.1, kept h4 X4.out.1 X4.out.2.2, cell_of_row _ _ 0 _ _ _ k1, cell_of_row _ _ 1 _ _ _ k1⟩
    have HE1 : Hid (∀ W, (binOp .neq 41 (.agg #[.int .i64 0, .int .i64 1970]) (.agg #[.int .i64 0, .int .i64 1970])).run Try.prog W = .ok (.bool false) W) := fun W => by rw [neq_range]; rfl
    have HE2 : Hid (∀ W, (binOp .neq 41 (.agg #[.int .i64 0, .int .i64 2]) (.agg #[.int .i64 0, .int .i64 2])).run Try.prog W = .ok (.bool false) W) := fun W => by rw [neq_range]; rfl
    go_upto_region 8 with fail
    have HM : Hid (Below x10.heap.size x10 x10.drew) := (Below.refl _ _).drew
    refine wp_region_pre 73 (by kernel_rfl) (by kernel_rfl) ?_
    generalize World.drew x10 = X at *
    refine wpAny_seg 0 40 33 73 (by kernel_rfl) (by kernel_rfl) (by kernel_rfl) (by omega) ?_
    simp only [List.drop_zero]
    go_wp2
    refine wpAny_take (i := 40) (oi := ⟨some 113, Op.move (Operand.tmp 9), _, _, _, _⟩) (v := .slice (some ⟨g4, o4, none⟩) 1 c4) rfl (by kernel_rfl) (by kernel_rfl) (by kernel_rfl) (fun _ _ _ h => h) (Or.inl ⟨by rfl, fun W' => ?_⟩) ?_
    · go_simp
    try simp only [Act.put, List.setIfInBounds_toArray, List.set_cons_zero, List.set_cons_succ]
    refine wpAny_take (i := 41) (oi := ⟨some 114, Op.indexAddr 38 (Operand.tmp 113) (Operand.const (Value.int IntKind.i64 0)), _, _, _, _⟩) (v := .pointer (some ⟨g4, o4, none⟩)) rfl (by kernel_rfl) (by kernel_rfl) (by kernel_rfl) (fun _ _ _ h => h) (Or.inl ⟨by rfl, fun W' => ?_⟩) ?_
    · go_simp
    try simp only [Act.put, List.setIfInBounds_toArray, List.set_cons_zero, List.set_cons_succ]
    refine wpAny_pair 42 43 (oi := ⟨some 115, Op.load 41 (Operand.tmp 114), _, _, _, _⟩) (oj := ⟨some 116, Op.call { callee := Callee.value (Operand.func 41), args := #[Operand.const (Value.int IntKind.i64 0), Operand.const (Value.int IntKind.i64 1970)], argTypes := #[3, 3] }, _, _, _, _⟩) (v := .agg #[.int .i64 0, .int .i64 1970]) (S := fun X => X.cell? ⟨g4, o4, none⟩ = some (.int .i64 0) ∧ X.cell? ⟨g4, o4 + 1, none⟩ = some (.int .i64 1970) ∧ X.cell? ⟨B1, 0, none⟩ = some (.int .i64 0) ∧ X.cell? ⟨B1, 1, none⟩ = some (.int .i64 2)) (preB 44 73) rfl rfl (by kernel_rfl) (by kernel_rfl) (by kernel_rfl) (by kernel_rfl) (by kernel_rfl) (by kernel_rfl) (by kernel_rfl) (fun _ _ _ h => h) (Or.inl ⟨by rfl, ?_⟩) (HCE.out _ HM.out) (fun K hK => ?_)
    · intro W' hSw; (try dsimp only at hSw); obtain ⟨s0, s1, s2, s3⟩ := hSw; go_simp
    try simp only [Act.put, List.setIfInBounds_toArray, List.set_cons_zero, List.set_cons_succ]
    go_simp
    refine (between_any 0 1970 _).mono ?_
    rintro _ Y1 ⟨rfl, hx⟩
    (try go_wp2_with fail)
    have HY1 : Hid (Below x10.heap.size x10 Y1) := below_step HM.out hx
    refine hK.out _ _ (HCE.out _ HY1.out) (fun hS => ?_)
    clear hK K hx hS
    try simp only [Act.put, List.setIfInBounds_toArray, List.set_cons_zero, List.set_cons_succ]
    refine wpAny_seg 44 7 22 73 (by kernel_rfl) (by kernel_rfl) (by kernel_rfl) (by omega) ?_
    simp only [List.drop_succ_cons, List.drop_zero, List.take_succ_cons, List.take_zero]
    have q1 := HE1.out Y1
    go_wp2
    clear q1
    refine wpAny_pair 51 52 (oi := ⟨some 124, Op.load 41 (Operand.tmp 11), _, _, _, _⟩) (oj := ⟨some 125, Op.call { callee := Callee.value (Operand.func 41), args := #[Operand.const (Value.int IntKind.i64 0), Operand.const (Value.int IntKind.i64 2)], argTypes := #[3, 3] }, _, _, _, _⟩) (v := .agg #[.int .i64 0, .int .i64 2]) (S := fun X => X.cell? ⟨g4, o4, none⟩ = some (.int .i64 0) ∧ X.cell? ⟨g4, o4 + 1, none⟩ = some (.int .i64 1970) ∧ X.cell? ⟨B1, 0, none⟩ = some (.int .i64 0) ∧ X.cell? ⟨B1, 1, none⟩ = some (.int .i64 2)) (preB 53 73) rfl rfl (by kernel_rfl) (by kernel_rfl) (by kernel_rfl) (by kernel_rfl) (by kernel_rfl) (by kernel_rfl) (by kernel_rfl) (fun _ _ _ h => h) (Or.inl ⟨by rfl, ?_⟩) (HCE.out _ HY1.out) (fun K hK => ?_)
    · intro W' hSw; (try dsimp only at hSw); obtain ⟨s0, s1, s2, s3⟩ := hSw; go_simp
    try simp only [Act.put, List.setIfInBounds_toArray, List.set_cons_zero, List.set_cons_succ]
    go_simp
    refine (between_any 0 2 _).mono ?_
    rintro _ Y2 ⟨rfl, hx⟩
    (try go_wp2_with fail)
    have HY2 : Hid (Below x10.heap.size x10 Y2) := below_step HY1.out hx
    refine hK.out _ _ (HCE.out _ HY2.out) (fun hS => ?_)
    clear hK K hx hS
    try simp only [Act.put, List.setIfInBounds_toArray, List.set_cons_zero, List.set_cons_succ]
    refine wpAny_end 53 20 73 (by kernel_rfl) (by kernel_rfl) (by kernel_rfl) (by kernel_rfl) ?_
    simp only [List.drop_succ_cons, List.drop_zero, List.take_succ_cons, List.take_zero]
    have q2 := HE2.out Y2
    have HB12 : Hid (Below w.heap.size w Y2) := below_step HB11.out (HY2.out)
    go_wp2_with fail
    refine (somebody_nil _).mono ?_
    rintro _ x13 ⟨Rb, vb, rfl, hRb, hr, hc, hb⟩
    obtain ⟨ab, cb, rfl⟩ : ∃ a c, vb = .slice a 1 c := hc.at.slice
    have HRb := Lib.hid hr
    have HCb := Lib.hid hc
    have HPb := Lib.hid (someP_at hr hc)
    have HBLb := Lib.hid hb
    have HB14 : Hid (Below w.heap.size w x13) := below_step HB12.out (hb)
    clear hb hr hc
    clear q2
    go_wp2_with fail
    refine (prove_any _ (someP []) 1970 _ HPb.out (by decide) (by decide)).mono ?_
    rw [nm_born, show hasR [(0, 1970)] 1970 = true from by decide]
    rintro _ x15 ⟨rfl, hb⟩
    have HB16 : Hid (Below w.heap.size w x15) := below_step HB14.out (hb)
    clear hb HPb HCb HRb HBLb hRb
    go_wp2_with fail
    refine (somebody_nil _).mono ?_
    rintro _ x17 ⟨Rc, vc, rfl, hRc, hr, hc, hb⟩
    obtain ⟨ac, cc, rfl⟩ : ∃ a c, vc = .slice a 1 c := hc.at.slice
    have HRc := Lib.hid hr
    have HCc := Lib.hid hc
    have HPc := Lib.hid (someP_at hr hc)
    have HBLc := Lib.hid hb
    have HB18 : Hid (Below w.heap.size w x17) := below_step HB16.out (hb)
    clear hb hr hc
    go_wp2_with fail
    refine (prove_any _ (someP []) 1971 _ HPc.out (by decide) (by decide)).mono ?_
    rw [nm_born, show hasR [(0, 1970)] 1971 = false from by decide]
    rintro _ x19 ⟨rfl, hb⟩
    have HB20 : Hid (Below w.heap.size w x19) := below_step HB18.out (hb)
    clear hb HPc HCc HRc HBLc hRc
    clear HCE HE1 HE2 HL X4 HN1 HZ1 HQ4 HM HY1 HY2
    go_wp2_with fail
    refine (somebody_nil _).mono ?_
    rintro _ x21 ⟨Rd, vd, rfl, hRd, hr, hc, hb⟩
    obtain ⟨ad, cd, rfl⟩ : ∃ a c, vd = .slice a 1 c := hc.at.slice
    have HRd := Lib.hid hr
    have HCd := Lib.hid hc
    have HPd := Lib.hid (someP_at hr hc)
    have HBLd := Lib.hid hb
    have HB22 : Hid (Below w.heap.size w x21) := below_step HB20.out (hb)
    clear hb hr hc
    go_wp2_with fail
    refine (somebody_any x21.heap.size 1 (exC 30) _ rfl (by omega) (by omega) (heap_alloc_new x21 (.cells #[.int .i64 12000, .int .i64 0, .int .i64 30] 109))).mono ?_
    rintro _ x23 ⟨vsd, rfl, hp, hb⟩
    have HPsd := Lib.hid hp
    have HBLsd := Lib.hid (below_step (below_alloc x21 (.cells #[.int .i64 12000, .int .i64 0, .int .i64 30] 109)) hb)
    clear hb hp
    have HB24 : Hid (Below w.heap.size w x23) := below_step HB22.out (HBLsd.out)
    go_wp2_with fail
    refine (same_any _ _ (someP []) (someP (exC 30)) _ (HPd.out.below HBLsd.out) HPsd.out (by decide) (by decide) (by decide) (by decide)).mono ?_
    rw [nm_shared30, nm_sharedE30]
    rintro _ x25 ⟨rfl, hb⟩
    have HB26 : Hid (Below w.heap.size w x25) := below_step HB24.out (hb)
    clear hb HPsd HBLsd HPd HCd HRd HBLd hRd
    go_wp2_with fail
    refine (somebody_nil _).mono ?_
    rintro _ x27 ⟨Re, ve, rfl, hRe, hr, hc, hb⟩
    obtain ⟨ae, ce, rfl⟩ : ∃ a c, ve = .slice a 1 c := hc.at.slice
    have HRe := Lib.hid hr
    have HCe := Lib.hid hc
    have HPe := Lib.hid (someP_at hr hc)
    have HBLe := Lib.hid hb
    have HB28 : Hid (Below w.heap.size w x27) := below_step HB26.out (hb)
    clear hb hr hc
    go_wp2_with fail
    refine (somebody_any x27.heap.size 1 (exC 40) _ rfl (by omega) (by omega) (heap_alloc_new x27 (.cells #[.int .i64 12000, .int .i64 0, .int .i64 40] 109))).mono ?_
    rintro _ x29 ⟨vse, rfl, hp, hb⟩
    have HPse := Lib.hid hp
    have HBLse := Lib.hid (below_step (below_alloc x27 (.cells #[.int .i64 12000, .int .i64 0, .int .i64 40] 109)) hb)
    clear hb hp
    have HB30 : Hid (Below w.heap.size w x29) := below_step HB28.out (HBLse.out)
    go_wp2_with fail
    refine (same_any _ _ (someP []) (someP (exC 40)) _ (HPe.out.below HBLse.out) HPse.out (by decide) (by decide) (by decide) (by decide)).mono ?_
    rw [nm_shared40, nm_sharedE40]
    rintro _ x31 ⟨rfl, hb⟩
    have HB32 : Hid (Below w.heap.size w x31) := below_step HB30.out (hb)
    clear hb HPse HBLse HPe HCe HRe HBLe hRe
    go_wp2_with fail
    refine (somebody_nil _).mono ?_
    rintro _ x33 ⟨Rf, vf, rfl, hRf, hr, hc, hb⟩
    obtain ⟨af, cf, rfl⟩ : ∃ a c, vf = .slice a 1 c := hc.at.slice
    have HRf := Lib.hid hr
    have HCf := Lib.hid hc
    have HPf := Lib.hid (someP_at hr hc)
    have HBLf := Lib.hid hb
    have HB34 : Hid (Below w.heap.size w x33) := below_step HB32.out (hb)
    clear hb hr hc
    go_wp2_with fail
    refine (somebody_any x33.heap.size 1 (exC 40) _ rfl (by omega) (by omega) (heap_alloc_new x33 (.cells #[.int .i64 12000, .int .i64 0, .int .i64 40] 109))).mono ?_
    rintro _ x35 ⟨vsf, rfl, hp, hb⟩
    have HPsf := Lib.hid hp
    have HBLsf := Lib.hid (below_step (below_alloc x33 (.cells #[.int .i64 12000, .int .i64 0, .int .i64 40] 109)) hb)
    clear hb hp
    have HB36 : Hid (Below w.heap.size w x35) := below_step HB34.out (HBLsf.out)
    go_wp2_with fail
    refine (together_any _ _ (someP []) (someP (exC 40)) _ (HPf.out.below HBLsf.out) HPsf.out (by decide) (by decide) (by decide) (by decide)).mono ?_
    rw [nm_tog40]
    rintro _ x37 ⟨w1v, rfl, _, hb⟩
    have HB38 : Hid (Below w.heap.size w x37) := below_step HB36.out (hb)
    clear hb HPsf HBLsf HPf HCf HRf HBLf hRf
    go_wp2_with fail
    refine (somebody_any x37.heap.size 1 (exC 40) _ rfl (by omega) (by omega) (heap_alloc_new x37 (.cells #[.int .i64 12000, .int .i64 0, .int .i64 40] 109))).mono ?_
    rintro _ x39 ⟨vg, rfl, hp, hb⟩
    have HPg := Lib.hid hp
    have HBLg := Lib.hid (below_step (below_alloc x37 (.cells #[.int .i64 12000, .int .i64 0, .int .i64 40] 109)) hb)
    clear hb hp
    have HB40 : Hid (Below w.heap.size w x39) := below_step HB38.out (HBLg.out)
    go_wp2_with fail
    refine (Births_any _ (someP (exC 40)) _ HPg.out (by decide) (by decide)).mono ?_
    rw [nm_bErr40]
    rintro _ x41 ⟨w2v, rfl, _, hb⟩
    have HB42 : Hid (Below w.heap.size w x41) := below_step HB40.out (hb)
    clear hb HPg HBLg
    go_wp2_with fail
    refine (somebody_nil _).mono ?_
    rintro _ x43 ⟨Rh, vh, rfl, hRh, hr, hc, hb⟩
    obtain ⟨ah, ch, rfl⟩ : ∃ a c, vh = .slice a 1 c := hc.at.slice
    have HRh := Lib.hid hr
    have HCh := Lib.hid hc
    have HPh := Lib.hid (someP_at hr hc)
    have HBLh := Lib.hid hb
    have HB44 : Hid (Below w.heap.size w x43) := below_step HB42.out (hb)
    clear hb hr hc
    go_wp2_with fail
    refine (on_any _ (someP []) (-5) _ HPh.out (by decide) (by decide)).mono ?_
    rw [nm_on1]
    rintro _ x45 ⟨oh, rfl, _, hb⟩
    have HB46 : Hid (Below w.heap.size w x45) := below_step HB44.out (hb)
    clear hb HPh HCh HRh HBLh hRh
    go_wp2_with fail
    refine (somebody_nil _).mono ?_
    rintro _ x47 ⟨Ri, vi, rfl, hRi, hr, hc, hb⟩
    obtain ⟨ai, ci, rfl⟩ : ∃ a c, vi = .slice a 1 c := hc.at.slice
    have HRi := Lib.hid hr
    have HCi := Lib.hid hc
    have HPi := Lib.hid (someP_at hr hc)
    have HBLi := Lib.hid hb
    have HB48 : Hid (Below w.heap.size w x47) := below_step HB46.out (hb)
    clear hb hr hc
    go_wp2_with fail
    refine (on_any _ (someP []) (50001) _ HPi.out (by decide) (by decide)).mono ?_
    rw [nm_on2]
    rintro _ x49 ⟨oi, rfl, _, hb⟩
    have HB50 : Hid (Below w.heap.size w x49) := below_step HB48.out (hb)
    clear hb HPi HCi HRi HBLi hRi
    go_wp2_with fail
    refine (HA3.out _).mono ?_
    rintro _ _ ⟨rfl, rfl⟩
    go_wp2_with fail
    refine (rules_any _).mono ?_
    rintro _ _ ⟨rfl, rfl⟩
    go_wp2_with fail
    refine (HW3.out _).mono ?_
    rintro _ x51 ⟨rfl, hb⟩
    have HB52 : Hid (Below w.heap.size w x51) := below_step HB50.out (below_step (below_alloc x49 (.cells #[.int .i64 0, .int .i64 1, .int .i64 0, .int .i64 0, .int .i64 20, .int .i64 5, .int .i64 1, .int .i64 1] 80)) hb)
    clear hb
    go_upto_region 18 with fail
    go_cut [19, 20] (fun s19 s20 wx => ∃ B : Nat, s19 = .pointer (some ⟨B, 0, none⟩) ∧ s20 = .int .i64 9 ∧ wx.heap[B]? = some (.cells #[.int .i64 0, .int .i64 0] 41 (0, 0)) ∧ Below x51.heap.size x51 wx)
    case first => as_aux_lemma =>
      have HM : Hid (Below x51.heap.size x51 x51.drew) := (Below.refl _ _).drew
      refine wp_region_heldL (S := fun _ => True) 12 #[false, false, false, false, false, false, false, false, false, false, false, false] (by kernel_rfl) (by kernel_rfl) (by kernel_rfl) ?_
      have hS : True := trivial
      generalize World.drew x51 = X at *
      apply join
      · intro REST22
        apply join
        · intro REST21
          apply join
          · intro REST20
            apply join
            · intro REST19
              apply join
              · intro REST18
                apply join
                · intro REST17
                  apply join
                  · intro REST16
                    apply join
                    · intro REST15
                      apply join
                      · intro REST14
                        apply join
                        · intro REST13
                          apply join
                          · intro REST12
                            apply join
                            · intro REST11
                              apply join
                              · intro REST10
                                apply join
                                · intro REST9
                                  apply join
                                  · intro REST8
                                    apply join
                                    · intro REST7
                                      apply join
                                      · intro REST6
                                        apply join
                                        · intro REST5
                                          apply join
                                          · intro REST4
                                            apply join
                                            · intro REST3
                                              apply join
                                              · intro REST2
                                                apply join
                                                · intro REST1
                                                  refine wpAnyH_ready (rs := [0, 3, 9]) (by kernel_rfl) (by simp) ?_
                                                  refine AllReadyH.cons (o := ⟨some 199, Op.call { callee := Callee.value (Operand.func 60), args := #[], argTypes := #[] }, _, _, _, _⟩) rfl (fun K hK => ?_) ?_
                                                  ·
                                                    go_simp
                                                    refine (rules_any X).mono ?_
                                                    rintro _ X0 ⟨rfl, hx0⟩
                                                    have hb0 : Below X.heap.size X X0 := by rw [hx0]; exact below_alloc _ _
                                                    have HR0 : Hid (X0.heap[X.heap.size]? = some (.cells #[.int .i64 0, .int .i64 1, .int .i64 0, .int .i64 0, .int .i64 20, .int .i64 5, .int .i64 1, .int .i64 1] 80 (0, 0))) := by rw [hx0]; exact heap_alloc_new _ _
                                                    clear hx0
                                                    (try go_wp2_with fail)
                                                    have HM0 : Hid (Below x51.heap.size x51 X0) := below_step HM.out hb0
                                                    refine hK.out _ _ (trivial) (fun hS => ?_)
                                                    clear hK K
                                                    (try simp only [Act.put]); (try simp only [List.setIfInBounds_toArray]); (try simp only [List.set_cons_succ]); (try simp only [List.set_cons_zero])
                                                    clear hb0
                                                    generalize X.heap.size = BR0 at HR0 ⊢
                                                    refine wpAnyH_take (i := 1) (oi := ⟨some 200, Op.indexAddr 42 (Operand.tmp 199) (Operand.const (Value.int IntKind.i64 1)), _, _, _, _⟩) (v := .pointer (some ⟨BR0, 4, none⟩)) rfl (by kernel_rfl) (by kernel_rfl) (by kernel_rfl) (fun _ _ _ h => h) (Or.inl ⟨by rfl, ?_⟩) hS ?_
                                                    · intro W' hSw; go_simp
                                                    (try simp only [Act.put]); (try simp only [List.setIfInBounds_toArray]); (try simp only [List.set_cons_succ]); (try simp only [List.set_cons_zero])
                                                    clear hS
                                                    revert HR0; revert HM0; revert BR0; revert X0
                                                    exact REST3
                                                  refine AllReadyH.cons (o := ⟨some 202, Op.buildSlice 22 1 #[(0, Operand.const (Value.int IntKind.i64 24))], _, _, _, _⟩) rfl (fun K hK => ?_) ?_
                                                  ·
                                                    go_simp
                                                    have HM1 : Hid (Below x51.heap.size x51 (X.alloc (.cells #[.int .i64 24] 3))) := below_step HM.out (below_alloc X (.cells #[.int .i64 24] 3))
                                                    have HI1 : Hid ((X.alloc (.cells #[.int .i64 24] 3)).heap[X.heap.size]? = some (.cells #[.int .i64 24] 3 (0, 0))) := heap_alloc_new _ _
                                                    refine hK.out _ _ (trivial) (fun hS => ?_)
                                                    clear hK K
                                                    (try simp only [Act.put]); (try simp only [List.setIfInBounds_toArray]); (try simp only [List.set_cons_succ]); (try simp only [List.set_cons_zero])
                                                    generalize X.heap.size = BI1 at HI1 ⊢
                                                    generalize X.alloc (.cells #[.int .i64 24] 3) = X1 at HI1 HM1  ⊢
                                                    clear hS
                                                    revert HI1; revert HM1; revert BI1; revert X1
                                                    exact REST1
                                                  refine AllReadyH.cons (o := ⟨some 19, Op.alloc 41, _, _, _, _⟩) rfl (fun K hK => ?_) ?_
                                                  ·
                                                    go_simp
                                                    have HG2 : Hid (x51.heap.size ≤ X.heap.size) := HM.out.size
                                                    have HM2 : Hid (Below x51.heap.size x51 (X.alloc (.cells #[.int .i64 0, .int .i64 0] 41))) := below_step HM.out (below_alloc X (.cells #[.int .i64 0, .int .i64 0] 41))
                                                    have HN2 : Hid ((X.alloc (.cells #[.int .i64 0, .int .i64 0] 41)).heap[X.heap.size]? = some (.cells #[.int .i64 0, .int .i64 0] 41 (0, 0))) := heap_alloc_new _ _
                                                    refine hK.out _ _ (trivial) (fun hS => ?_)
                                                    clear hK K
                                                    (try simp only [Act.put]); (try simp only [List.setIfInBounds_toArray]); (try simp only [List.set_cons_succ]); (try simp only [List.set_cons_zero])
                                                    generalize X.heap.size = BN2 at HN2 HG2 ⊢
                                                    generalize X.alloc (.cells #[.int .i64 0, .int .i64 0] 41) = X2 at HN2 HM2  ⊢
                                                    clear hS
                                                    revert HG2; revert HN2; revert HM2; revert BN2; revert X2
                                                    exact REST2
                                                  exact AllReadyH.nil
                                                ·
                                                  intro X BI HM HI
                                                  have hS := trivial
                                                  refine wpAnyH_ready (rs := [0, 9]) (by kernel_rfl) (by simp) ?_
                                                  refine AllReadyH.cons (o := ⟨some 199, Op.call { callee := Callee.value (Operand.func 60), args := #[], argTypes := #[] }, _, _, _, _⟩) rfl (fun K hK => ?_) ?_
                                                  ·
                                                    go_simp
                                                    refine (rules_any X).mono ?_
                                                    rintro _ X3 ⟨rfl, hx3⟩
                                                    have hb3 : Below X.heap.size X X3 := by rw [hx3]; exact below_alloc _ _
                                                    have HR3 : Hid (X3.heap[X.heap.size]? = some (.cells #[.int .i64 0, .int .i64 1, .int .i64 0, .int .i64 0, .int .i64 20, .int .i64 5, .int .i64 1, .int .i64 1] 80 (0, 0))) := by rw [hx3]; exact heap_alloc_new _ _
                                                    clear hx3
                                                    (try go_wp2_with fail)
                                                    have HM3 : Hid (Below x51.heap.size x51 X3) := below_step HM.out hb3
                                                    have HI3 : Hid (X3.heap[BI]? = some (.cells #[.int .i64 24] 3 (0, 0))) := (hb3.block _ (Array.getElem?_eq_some_iff.1 HI.out).1).trans HI.out
                                                    refine hK.out _ _ (trivial) (fun hS => ?_)
                                                    clear hK K
                                                    (try simp only [Act.put]); (try simp only [List.setIfInBounds_toArray]); (try simp only [List.set_cons_succ]); (try simp only [List.set_cons_zero])
                                                    clear hb3
                                                    generalize X.heap.size = BR3 at HR3 ⊢
                                                    refine wpAnyH_take (i := 1) (oi := ⟨some 200, Op.indexAddr 42 (Operand.tmp 199) (Operand.const (Value.int IntKind.i64 1)), _, _, _, _⟩) (v := .pointer (some ⟨BR3, 4, none⟩)) rfl (by kernel_rfl) (by kernel_rfl) (by kernel_rfl) (fun _ _ _ h => h) (Or.inl ⟨by rfl, ?_⟩) hS ?_
                                                    · intro W' hSw; go_simp
                                                    (try simp only [Act.put]); (try simp only [List.setIfInBounds_toArray]); (try simp only [List.set_cons_succ]); (try simp only [List.set_cons_zero])
                                                    clear hS HM HI
                                                    revert HR3; revert HI3; revert HM3; revert BR3; revert BI; revert X3
                                                    exact REST6
                                                  refine AllReadyH.cons (o := ⟨some 19, Op.alloc 41, _, _, _, _⟩) rfl (fun K hK => ?_) ?_
                                                  ·
                                                    go_simp
                                                    have HG4 : Hid (x51.heap.size ≤ X.heap.size) := HM.out.size
                                                    have HM4 : Hid (Below x51.heap.size x51 (X.alloc (.cells #[.int .i64 0, .int .i64 0] 41))) := below_step HM.out (below_alloc X (.cells #[.int .i64 0, .int .i64 0] 41))
                                                    have HI4 : Hid ((X.alloc (.cells #[.int .i64 0, .int .i64 0] 41)).heap[BI]? = some (.cells #[.int .i64 24] 3 (0, 0))) := ((below_alloc X (.cells #[.int .i64 0, .int .i64 0] 41)).block _ (Array.getElem?_eq_some_iff.1 HI.out).1).trans HI.out
                                                    have HN4 : Hid ((X.alloc (.cells #[.int .i64 0, .int .i64 0] 41)).heap[X.heap.size]? = some (.cells #[.int .i64 0, .int .i64 0] 41 (0, 0))) := heap_alloc_new _ _
                                                    refine hK.out _ _ (trivial) (fun hS => ?_)
                                                    clear hK K
                                                    (try simp only [Act.put]); (try simp only [List.setIfInBounds_toArray]); (try simp only [List.set_cons_succ]); (try simp only [List.set_cons_zero])
                                                    generalize X.heap.size = BN4 at HN4 HG4 ⊢
                                                    generalize X.alloc (.cells #[.int .i64 0, .int .i64 0] 41) = X4 at HN4 HM4 HI4 ⊢
                                                    clear hS HM HI
                                                    revert HG4; revert HN4; revert HI4; revert HM4; revert BN4; revert BI; revert X4
                                                    exact REST4
                                                  exact AllReadyH.nil
                                              ·
                                                intro X BN HM HN HG
                                                have hS := trivial
                                                refine wpAnyH_ready (rs := [0, 3]) (by kernel_rfl) (by simp) ?_
                                                refine AllReadyH.cons (o := ⟨some 199, Op.call { callee := Callee.value (Operand.func 60), args := #[], argTypes := #[] }, _, _, _, _⟩) rfl (fun K hK => ?_) ?_
                                                ·
                                                  go_simp
                                                  refine (rules_any X).mono ?_
                                                  rintro _ X5 ⟨rfl, hx5⟩
                                                  have hb5 : Below X.heap.size X X5 := by rw [hx5]; exact below_alloc _ _
                                                  have HR5 : Hid (X5.heap[X.heap.size]? = some (.cells #[.int .i64 0, .int .i64 1, .int .i64 0, .int .i64 0, .int .i64 20, .int .i64 5, .int .i64 1, .int .i64 1] 80 (0, 0))) := by rw [hx5]; exact heap_alloc_new _ _
                                                  clear hx5
                                                  (try go_wp2_with fail)
                                                  have HM5 : Hid (Below x51.heap.size x51 X5) := below_step HM.out hb5
                                                  have HN5 : Hid (X5.heap[BN]? = some (.cells #[.int .i64 0, .int .i64 0] 41 (0, 0))) := (hb5.block _ (Array.getElem?_eq_some_iff.1 HN.out).1).trans HN.out
                                                  refine hK.out _ _ (trivial) (fun hS => ?_)
                                                  clear hK K
                                                  (try simp only [Act.put]); (try simp only [List.setIfInBounds_toArray]); (try simp only [List.set_cons_succ]); (try simp only [List.set_cons_zero])
                                                  clear hb5
                                                  generalize X.heap.size = BR5 at HR5 ⊢
                                                  refine wpAnyH_take (i := 1) (oi := ⟨some 200, Op.indexAddr 42 (Operand.tmp 199) (Operand.const (Value.int IntKind.i64 1)), _, _, _, _⟩) (v := .pointer (some ⟨BR5, 4, none⟩)) rfl (by kernel_rfl) (by kernel_rfl) (by kernel_rfl) (fun _ _ _ h => h) (Or.inl ⟨by rfl, ?_⟩) hS ?_
                                                  · intro W' hSw; go_simp
                                                  (try simp only [Act.put]); (try simp only [List.setIfInBounds_toArray]); (try simp only [List.set_cons_succ]); (try simp only [List.set_cons_zero])
                                                  clear hS HM HN
                                                  revert HG; revert HR5; revert HN5; revert HM5; revert BR5; revert BN; revert X5
                                                  exact REST8
                                                refine AllReadyH.cons (o := ⟨some 202, Op.buildSlice 22 1 #[(0, Operand.const (Value.int IntKind.i64 24))], _, _, _, _⟩) rfl (fun K hK => ?_) ?_
                                                ·
                                                  go_simp
                                                  have HM6 : Hid (Below x51.heap.size x51 (X.alloc (.cells #[.int .i64 24] 3))) := below_step HM.out (below_alloc X (.cells #[.int .i64 24] 3))
                                                  have HN6 : Hid ((X.alloc (.cells #[.int .i64 24] 3)).heap[BN]? = some (.cells #[.int .i64 0, .int .i64 0] 41 (0, 0))) := ((below_alloc X (.cells #[.int .i64 24] 3)).block _ (Array.getElem?_eq_some_iff.1 HN.out).1).trans HN.out
                                                  have HI6 : Hid ((X.alloc (.cells #[.int .i64 24] 3)).heap[X.heap.size]? = some (.cells #[.int .i64 24] 3 (0, 0))) := heap_alloc_new _ _
                                                  refine hK.out _ _ (trivial) (fun hS => ?_)
                                                  clear hK K
                                                  (try simp only [Act.put]); (try simp only [List.setIfInBounds_toArray]); (try simp only [List.set_cons_succ]); (try simp only [List.set_cons_zero])
                                                  generalize X.heap.size = BI6 at HI6 ⊢
                                                  generalize X.alloc (.cells #[.int .i64 24] 3) = X6 at HI6 HM6 HN6 ⊢
                                                  clear hS HM HN
                                                  revert HG; revert HN6; revert HI6; revert HM6; revert BN; revert BI6; revert X6
                                                  exact REST4
                                                exact AllReadyH.nil
                                            ·
                                              intro X BR HM HR
                                              have hS := trivial
                                              refine wpAnyH_ready (rs := [2, 3, 4, 9]) (by kernel_rfl) (by simp) ?_
                                              refine AllReadyH.cons (o := ⟨some 201, Op.load 80 (Operand.tmp 200), _, _, _, _⟩) rfl (fun K hK => ?_) ?_
                                              ·
                                                have e4 : X.cell? ⟨BR, 4, none⟩ = some (.int .i64 20) := cell_of_row _ _ 4 _ _ _ HR.out
                                                have e5 : X.cell? ⟨BR, 5, none⟩ = some (.int .i64 5) := cell_of_row _ _ 5 _ _ _ HR.out
                                                have e6 : X.cell? ⟨BR, 6, none⟩ = some (.int .i64 1) := cell_of_row _ _ 6 _ _ _ HR.out
                                                have e7 : X.cell? ⟨BR, 7, none⟩ = some (.int .i64 1) := cell_of_row _ _ 7 _ _ _ HR.out
                                                go_simp
                                                clear e4 e5 e6 e7
                                                refine hK.out _ _ (trivial) (fun hS => ?_)
                                                clear hK K
                                                (try simp only [Act.put]); (try simp only [List.setIfInBounds_toArray]); (try simp only [List.set_cons_succ]); (try simp only [List.set_cons_zero])
                                                clear hS
                                                revert HR; revert HM; revert BR; revert X
                                                exact REST5
                                              refine AllReadyH.cons (o := ⟨some 202, Op.buildSlice 22 1 #[(0, Operand.const (Value.int IntKind.i64 24))], _, _, _, _⟩) rfl (fun K hK => ?_) ?_
                                              ·
                                                go_simp
                                                have HM8 : Hid (Below x51.heap.size x51 (X.alloc (.cells #[.int .i64 24] 3))) := below_step HM.out (below_alloc X (.cells #[.int .i64 24] 3))
                                                have HR8 : Hid ((X.alloc (.cells #[.int .i64 24] 3)).heap[BR]? = some (.cells #[.int .i64 0, .int .i64 1, .int .i64 0, .int .i64 0, .int .i64 20, .int .i64 5, .int .i64 1, .int .i64 1] 80 (0, 0))) := ((below_alloc X (.cells #[.int .i64 24] 3)).block _ (Array.getElem?_eq_some_iff.1 HR.out).1).trans HR.out
                                                have HI8 : Hid ((X.alloc (.cells #[.int .i64 24] 3)).heap[X.heap.size]? = some (.cells #[.int .i64 24] 3 (0, 0))) := heap_alloc_new _ _
                                                refine hK.out _ _ (trivial) (fun hS => ?_)
                                                clear hK K
                                                (try simp only [Act.put]); (try simp only [List.setIfInBounds_toArray]); (try simp only [List.set_cons_succ]); (try simp only [List.set_cons_zero])
                                                generalize X.heap.size = BI8 at HI8 ⊢
                                                generalize X.alloc (.cells #[.int .i64 24] 3) = X8 at HI8 HM8 HR8 ⊢
                                                clear hS HM HR
                                                revert HR8; revert HI8; revert HM8; revert BR; revert BI8; revert X8
                                                exact REST6
                                              refine AllReadyH.cons (o := ⟨some 203, Op.call { callee := Callee.value (Operand.func 41), args := #[Operand.const (Value.int IntKind.i64 20), Operand.const (Value.int IntKind.i64 25)], argTypes := #[3, 3] }, _, _, _, _⟩) rfl (fun K hK => ?_) ?_
                                              ·
                                                go_simp
                                                refine (between_any 20 25 X).mono ?_
                                                rintro _ X9 ⟨rfl, hx9⟩
                                                (try go_wp2_with fail)
                                                have HM9 : Hid (Below x51.heap.size x51 X9) := below_step HM.out hx9
                                                have HR9 : Hid (X9.heap[BR]? = some (.cells #[.int .i64 0, .int .i64 1, .int .i64 0, .int .i64 0, .int .i64 20, .int .i64 5, .int .i64 1, .int .i64 1] 80 (0, 0))) := (hx9.block _ (Array.getElem?_eq_some_iff.1 HR.out).1).trans HR.out
                                                refine hK.out _ _ (trivial) (fun hS => ?_)
                                                clear hK K
                                                (try simp only [Act.put]); (try simp only [List.setIfInBounds_toArray]); (try simp only [List.set_cons_succ]); (try simp only [List.set_cons_zero])
                                                clear hx9
                                                clear hS HM HR
                                                revert HR9; revert HM9; revert BR; revert X9
                                                exact REST7
                                              refine AllReadyH.cons (o := ⟨some 19, Op.alloc 41, _, _, _, _⟩) rfl (fun K hK => ?_) ?_
                                              ·
                                                go_simp
                                                have HG10 : Hid (x51.heap.size ≤ X.heap.size) := HM.out.size
                                                have HM10 : Hid (Below x51.heap.size x51 (X.alloc (.cells #[.int .i64 0, .int .i64 0] 41))) := below_step HM.out (below_alloc X (.cells #[.int .i64 0, .int .i64 0] 41))
                                                have HR10 : Hid ((X.alloc (.cells #[.int .i64 0, .int .i64 0] 41)).heap[BR]? = some (.cells #[.int .i64 0, .int .i64 1, .int .i64 0, .int .i64 0, .int .i64 20, .int .i64 5, .int .i64 1, .int .i64 1] 80 (0, 0))) := ((below_alloc X (.cells #[.int .i64 0, .int .i64 0] 41)).block _ (Array.getElem?_eq_some_iff.1 HR.out).1).trans HR.out
                                                have HN10 : Hid ((X.alloc (.cells #[.int .i64 0, .int .i64 0] 41)).heap[X.heap.size]? = some (.cells #[.int .i64 0, .int .i64 0] 41 (0, 0))) := heap_alloc_new _ _
                                                refine hK.out _ _ (trivial) (fun hS => ?_)
                                                clear hK K
                                                (try simp only [Act.put]); (try simp only [List.setIfInBounds_toArray]); (try simp only [List.set_cons_succ]); (try simp only [List.set_cons_zero])
                                                generalize X.heap.size = BN10 at HN10 HG10 ⊢
                                                generalize X.alloc (.cells #[.int .i64 0, .int .i64 0] 41) = X10 at HN10 HM10 HR10 ⊢
                                                clear hS HM HR
                                                revert HG10; revert HR10; revert HN10; revert HM10; revert BR; revert BN10; revert X10
                                                exact REST8
                                              exact AllReadyH.nil
                                          ·
                                            intro X BI BN HM HI HN HG
                                            have hS := trivial
                                            refine wpAnyH_ready (rs := [0]) (by kernel_rfl) (by simp) ?_
                                            refine AllReadyH.cons (o := ⟨some 199, Op.call { callee := Callee.value (Operand.func 60), args := #[], argTypes := #[] }, _, _, _, _⟩) rfl (fun K hK => ?_) ?_
                                            ·
                                              go_simp
                                              refine (rules_any X).mono ?_
                                              rintro _ X11 ⟨rfl, hx11⟩
                                              have hb11 : Below X.heap.size X X11 := by rw [hx11]; exact below_alloc _ _
                                              have HR11 : Hid (X11.heap[X.heap.size]? = some (.cells #[.int .i64 0, .int .i64 1, .int .i64 0, .int .i64 0, .int .i64 20, .int .i64 5, .int .i64 1, .int .i64 1] 80 (0, 0))) := by rw [hx11]; exact heap_alloc_new _ _
                                              clear hx11
                                              (try go_wp2_with fail)
                                              have HM11 : Hid (Below x51.heap.size x51 X11) := below_step HM.out hb11
                                              have HI11 : Hid (X11.heap[BI]? = some (.cells #[.int .i64 24] 3 (0, 0))) := (hb11.block _ (Array.getElem?_eq_some_iff.1 HI.out).1).trans HI.out
                                              have HN11 : Hid (X11.heap[BN]? = some (.cells #[.int .i64 0, .int .i64 0] 41 (0, 0))) := (hb11.block _ (Array.getElem?_eq_some_iff.1 HN.out).1).trans HN.out
                                              refine hK.out _ _ (trivial) (fun hS => ?_)
                                              clear hK K
                                              (try simp only [Act.put]); (try simp only [List.setIfInBounds_toArray]); (try simp only [List.set_cons_succ]); (try simp only [List.set_cons_zero])
                                              clear hb11
                                              generalize X.heap.size = BR11 at HR11 ⊢
                                              refine wpAnyH_take (i := 1) (oi := ⟨some 200, Op.indexAddr 42 (Operand.tmp 199) (Operand.const (Value.int IntKind.i64 1)), _, _, _, _⟩) (v := .pointer (some ⟨BR11, 4, none⟩)) rfl (by kernel_rfl) (by kernel_rfl) (by kernel_rfl) (fun _ _ _ h => h) (Or.inl ⟨by rfl, ?_⟩) hS ?_
                                              · intro W' hSw; go_simp
                                              (try simp only [Act.put]); (try simp only [List.setIfInBounds_toArray]); (try simp only [List.set_cons_succ]); (try simp only [List.set_cons_zero])
                                              clear hS HM HI HN
                                              revert HG; revert HR11; revert HN11; revert HI11; revert HM11; revert BR11; revert BN; revert BI; revert X11
                                              exact REST13
                                            exact AllReadyH.nil
                                        ·
                                          intro X BR HM HR
                                          have hS := trivial
                                          refine wpAnyH_ready (rs := [3, 4, 9]) (by kernel_rfl) (by simp) ?_
                                          refine AllReadyH.cons (o := ⟨some 202, Op.buildSlice 22 1 #[(0, Operand.const (Value.int IntKind.i64 24))], _, _, _, _⟩) rfl (fun K hK => ?_) ?_
                                          ·
                                            go_simp
                                            have HM12 : Hid (Below x51.heap.size x51 (X.alloc (.cells #[.int .i64 24] 3))) := below_step HM.out (below_alloc X (.cells #[.int .i64 24] 3))
                                            have HR12 : Hid ((X.alloc (.cells #[.int .i64 24] 3)).heap[BR]? = some (.cells #[.int .i64 0, .int .i64 1, .int .i64 0, .int .i64 0, .int .i64 20, .int .i64 5, .int .i64 1, .int .i64 1] 80 (0, 0))) := ((below_alloc X (.cells #[.int .i64 24] 3)).block _ (Array.getElem?_eq_some_iff.1 HR.out).1).trans HR.out
                                            have HI12 : Hid ((X.alloc (.cells #[.int .i64 24] 3)).heap[X.heap.size]? = some (.cells #[.int .i64 24] 3 (0, 0))) := heap_alloc_new _ _
                                            refine hK.out _ _ (trivial) (fun hS => ?_)
                                            clear hK K
                                            (try simp only [Act.put]); (try simp only [List.setIfInBounds_toArray]); (try simp only [List.set_cons_succ]); (try simp only [List.set_cons_zero])
                                            generalize X.heap.size = BI12 at HI12 ⊢
                                            generalize X.alloc (.cells #[.int .i64 24] 3) = X12 at HI12 HM12 HR12 ⊢
                                            clear hS HM HR
                                            revert HR12; revert HI12; revert HM12; revert BR; revert BI12; revert X12
                                            exact REST9
                                          refine AllReadyH.cons (o := ⟨some 203, Op.call { callee := Callee.value (Operand.func 41), args := #[Operand.const (Value.int IntKind.i64 20), Operand.const (Value.int IntKind.i64 25)], argTypes := #[3, 3] }, _, _, _, _⟩) rfl (fun K hK => ?_) ?_
                                          ·
                                            go_simp
                                            refine (between_any 20 25 X).mono ?_
                                            rintro _ X13 ⟨rfl, hx13⟩
                                            (try go_wp2_with fail)
                                            have HM13 : Hid (Below x51.heap.size x51 X13) := below_step HM.out hx13
                                            have HR13 : Hid (X13.heap[BR]? = some (.cells #[.int .i64 0, .int .i64 1, .int .i64 0, .int .i64 0, .int .i64 20, .int .i64 5, .int .i64 1, .int .i64 1] 80 (0, 0))) := (hx13.block _ (Array.getElem?_eq_some_iff.1 HR.out).1).trans HR.out
                                            refine hK.out _ _ (trivial) (fun hS => ?_)
                                            clear hK K
                                            (try simp only [Act.put]); (try simp only [List.setIfInBounds_toArray]); (try simp only [List.set_cons_succ]); (try simp only [List.set_cons_zero])
                                            clear hx13
                                            clear hS HM HR
                                            revert HR13; revert HM13; revert BR; revert X13
                                            exact REST10
                                          refine AllReadyH.cons (o := ⟨some 19, Op.alloc 41, _, _, _, _⟩) rfl (fun K hK => ?_) ?_
                                          ·
                                            go_simp
                                            have HG14 : Hid (x51.heap.size ≤ X.heap.size) := HM.out.size
                                            have HM14 : Hid (Below x51.heap.size x51 (X.alloc (.cells #[.int .i64 0, .int .i64 0] 41))) := below_step HM.out (below_alloc X (.cells #[.int .i64 0, .int .i64 0] 41))
                                            have HR14 : Hid ((X.alloc (.cells #[.int .i64 0, .int .i64 0] 41)).heap[BR]? = some (.cells #[.int .i64 0, .int .i64 1, .int .i64 0, .int .i64 0, .int .i64 20, .int .i64 5, .int .i64 1, .int .i64 1] 80 (0, 0))) := ((below_alloc X (.cells #[.int .i64 0, .int .i64 0] 41)).block _ (Array.getElem?_eq_some_iff.1 HR.out).1).trans HR.out
                                            have HN14 : Hid ((X.alloc (.cells #[.int .i64 0, .int .i64 0] 41)).heap[X.heap.size]? = some (.cells #[.int .i64 0, .int .i64 0] 41 (0, 0))) := heap_alloc_new _ _
                                            refine hK.out _ _ (trivial) (fun hS => ?_)
                                            clear hK K
                                            (try simp only [Act.put]); (try simp only [List.setIfInBounds_toArray]); (try simp only [List.set_cons_succ]); (try simp only [List.set_cons_zero])
                                            generalize X.heap.size = BN14 at HN14 HG14 ⊢
                                            generalize X.alloc (.cells #[.int .i64 0, .int .i64 0] 41) = X14 at HN14 HM14 HR14 ⊢
                                            clear hS HM HR
                                            revert HG14; revert HR14; revert HN14; revert HM14; revert BR; revert BN14; revert X14
                                            exact REST11
                                          exact AllReadyH.nil
                                      ·
                                        intro X BI BR HM HI HR
                                        have hS := trivial
                                        refine wpAnyH_ready (rs := [2, 4, 9]) (by kernel_rfl) (by simp) ?_
                                        refine AllReadyH.cons (o := ⟨some 201, Op.load 80 (Operand.tmp 200), _, _, _, _⟩) rfl (fun K hK => ?_) ?_
                                        ·
                                          have e4 : X.cell? ⟨BR, 4, none⟩ = some (.int .i64 20) := cell_of_row _ _ 4 _ _ _ HR.out
                                          have e5 : X.cell? ⟨BR, 5, none⟩ = some (.int .i64 5) := cell_of_row _ _ 5 _ _ _ HR.out
                                          have e6 : X.cell? ⟨BR, 6, none⟩ = some (.int .i64 1) := cell_of_row _ _ 6 _ _ _ HR.out
                                          have e7 : X.cell? ⟨BR, 7, none⟩ = some (.int .i64 1) := cell_of_row _ _ 7 _ _ _ HR.out
                                          go_simp
                                          clear e4 e5 e6 e7
                                          refine hK.out _ _ (trivial) (fun hS => ?_)
                                          clear hK K
                                          (try simp only [Act.put]); (try simp only [List.setIfInBounds_toArray]); (try simp only [List.set_cons_succ]); (try simp only [List.set_cons_zero])
                                          clear hS
                                          revert HR; revert HI; revert HM; revert BR; revert BI; revert X
                                          exact REST9
                                        refine AllReadyH.cons (o := ⟨some 203, Op.call { callee := Callee.value (Operand.func 41), args := #[Operand.const (Value.int IntKind.i64 20), Operand.const (Value.int IntKind.i64 25)], argTypes := #[3, 3] }, _, _, _, _⟩) rfl (fun K hK => ?_) ?_
                                        ·
                                          go_simp
                                          refine (between_any 20 25 X).mono ?_
                                          rintro _ X16 ⟨rfl, hx16⟩
                                          (try go_wp2_with fail)
                                          have HM16 : Hid (Below x51.heap.size x51 X16) := below_step HM.out hx16
                                          have HI16 : Hid (X16.heap[BI]? = some (.cells #[.int .i64 24] 3 (0, 0))) := (hx16.block _ (Array.getElem?_eq_some_iff.1 HI.out).1).trans HI.out
                                          have HR16 : Hid (X16.heap[BR]? = some (.cells #[.int .i64 0, .int .i64 1, .int .i64 0, .int .i64 0, .int .i64 20, .int .i64 5, .int .i64 1, .int .i64 1] 80 (0, 0))) := (hx16.block _ (Array.getElem?_eq_some_iff.1 HR.out).1).trans HR.out
                                          refine hK.out _ _ (trivial) (fun hS => ?_)
                                          clear hK K
                                          (try simp only [Act.put]); (try simp only [List.setIfInBounds_toArray]); (try simp only [List.set_cons_succ]); (try simp only [List.set_cons_zero])
                                          clear hx16
                                          clear hS HM HI HR
                                          revert HR16; revert HI16; revert HM16; revert BR; revert BI; revert X16
                                          exact REST12
                                        refine AllReadyH.cons (o := ⟨some 19, Op.alloc 41, _, _, _, _⟩) rfl (fun K hK => ?_) ?_
                                        ·
                                          go_simp
                                          have HG17 : Hid (x51.heap.size ≤ X.heap.size) := HM.out.size
                                          have HM17 : Hid (Below x51.heap.size x51 (X.alloc (.cells #[.int .i64 0, .int .i64 0] 41))) := below_step HM.out (below_alloc X (.cells #[.int .i64 0, .int .i64 0] 41))
                                          have HI17 : Hid ((X.alloc (.cells #[.int .i64 0, .int .i64 0] 41)).heap[BI]? = some (.cells #[.int .i64 24] 3 (0, 0))) := ((below_alloc X (.cells #[.int .i64 0, .int .i64 0] 41)).block _ (Array.getElem?_eq_some_iff.1 HI.out).1).trans HI.out
                                          have HR17 : Hid ((X.alloc (.cells #[.int .i64 0, .int .i64 0] 41)).heap[BR]? = some (.cells #[.int .i64 0, .int .i64 1, .int .i64 0, .int .i64 0, .int .i64 20, .int .i64 5, .int .i64 1, .int .i64 1] 80 (0, 0))) := ((below_alloc X (.cells #[.int .i64 0, .int .i64 0] 41)).block _ (Array.getElem?_eq_some_iff.1 HR.out).1).trans HR.out
                                          have HN17 : Hid ((X.alloc (.cells #[.int .i64 0, .int .i64 0] 41)).heap[X.heap.size]? = some (.cells #[.int .i64 0, .int .i64 0] 41 (0, 0))) := heap_alloc_new _ _
                                          refine hK.out _ _ (trivial) (fun hS => ?_)
                                          clear hK K
                                          (try simp only [Act.put]); (try simp only [List.setIfInBounds_toArray]); (try simp only [List.set_cons_succ]); (try simp only [List.set_cons_zero])
                                          generalize X.heap.size = BN17 at HN17 HG17 ⊢
                                          generalize X.alloc (.cells #[.int .i64 0, .int .i64 0] 41) = X17 at HN17 HM17 HI17 HR17 ⊢
                                          clear hS HM HI HR
                                          revert HG17; revert HR17; revert HN17; revert HI17; revert HM17; revert BR; revert BN17; revert BI; revert X17
                                          exact REST13
                                        exact AllReadyH.nil
                                    ·
                                      intro X BR HM HR
                                      have hS := trivial
                                      refine wpAnyH_ready (rs := [2, 3, 9]) (by kernel_rfl) (by simp) ?_
                                      refine AllReadyH.cons (o := ⟨some 201, Op.load 80 (Operand.tmp 200), _, _, _, _⟩) rfl (fun K hK => ?_) ?_
                                      ·
                                        have e4 : X.cell? ⟨BR, 4, none⟩ = some (.int .i64 20) := cell_of_row _ _ 4 _ _ _ HR.out
                                        have e5 : X.cell? ⟨BR, 5, none⟩ = some (.int .i64 5) := cell_of_row _ _ 5 _ _ _ HR.out
                                        have e6 : X.cell? ⟨BR, 6, none⟩ = some (.int .i64 1) := cell_of_row _ _ 6 _ _ _ HR.out
                                        have e7 : X.cell? ⟨BR, 7, none⟩ = some (.int .i64 1) := cell_of_row _ _ 7 _ _ _ HR.out
                                        go_simp
                                        clear e4 e5 e6 e7
                                        refine hK.out _ _ (trivial) (fun hS => ?_)
                                        clear hK K
                                        (try simp only [Act.put]); (try simp only [List.setIfInBounds_toArray]); (try simp only [List.set_cons_succ]); (try simp only [List.set_cons_zero])
                                        clear hS
                                        revert HR; revert HM; revert BR; revert X
                                        exact REST10
                                      refine AllReadyH.cons (o := ⟨some 202, Op.buildSlice 22 1 #[(0, Operand.const (Value.int IntKind.i64 24))], _, _, _, _⟩) rfl (fun K hK => ?_) ?_
                                      ·
                                        go_simp
                                        have HM19 : Hid (Below x51.heap.size x51 (X.alloc (.cells #[.int .i64 24] 3))) := below_step HM.out (below_alloc X (.cells #[.int .i64 24] 3))
                                        have HR19 : Hid ((X.alloc (.cells #[.int .i64 24] 3)).heap[BR]? = some (.cells #[.int .i64 0, .int .i64 1, .int .i64 0, .int .i64 0, .int .i64 20, .int .i64 5, .int .i64 1, .int .i64 1] 80 (0, 0))) := ((below_alloc X (.cells #[.int .i64 24] 3)).block _ (Array.getElem?_eq_some_iff.1 HR.out).1).trans HR.out
                                        have HI19 : Hid ((X.alloc (.cells #[.int .i64 24] 3)).heap[X.heap.size]? = some (.cells #[.int .i64 24] 3 (0, 0))) := heap_alloc_new _ _
                                        refine hK.out _ _ (trivial) (fun hS => ?_)
                                        clear hK K
                                        (try simp only [Act.put]); (try simp only [List.setIfInBounds_toArray]); (try simp only [List.set_cons_succ]); (try simp only [List.set_cons_zero])
                                        generalize X.heap.size = BI19 at HI19 ⊢
                                        generalize X.alloc (.cells #[.int .i64 24] 3) = X19 at HI19 HM19 HR19 ⊢
                                        clear hS HM HR
                                        revert HR19; revert HI19; revert HM19; revert BR; revert BI19; revert X19
                                        exact REST12
                                      refine AllReadyH.cons (o := ⟨some 19, Op.alloc 41, _, _, _, _⟩) rfl (fun K hK => ?_) ?_
                                      ·
                                        go_simp
                                        have HG20 : Hid (x51.heap.size ≤ X.heap.size) := HM.out.size
                                        have HM20 : Hid (Below x51.heap.size x51 (X.alloc (.cells #[.int .i64 0, .int .i64 0] 41))) := below_step HM.out (below_alloc X (.cells #[.int .i64 0, .int .i64 0] 41))
                                        have HR20 : Hid ((X.alloc (.cells #[.int .i64 0, .int .i64 0] 41)).heap[BR]? = some (.cells #[.int .i64 0, .int .i64 1, .int .i64 0, .int .i64 0, .int .i64 20, .int .i64 5, .int .i64 1, .int .i64 1] 80 (0, 0))) := ((below_alloc X (.cells #[.int .i64 0, .int .i64 0] 41)).block _ (Array.getElem?_eq_some_iff.1 HR.out).1).trans HR.out
                                        have HN20 : Hid ((X.alloc (.cells #[.int .i64 0, .int .i64 0] 41)).heap[X.heap.size]? = some (.cells #[.int .i64 0, .int .i64 0] 41 (0, 0))) := heap_alloc_new _ _
                                        refine hK.out _ _ (trivial) (fun hS => ?_)
                                        clear hK K
                                        (try simp only [Act.put]); (try simp only [List.setIfInBounds_toArray]); (try simp only [List.set_cons_succ]); (try simp only [List.set_cons_zero])
                                        generalize X.heap.size = BN20 at HN20 HG20 ⊢
                                        generalize X.alloc (.cells #[.int .i64 0, .int .i64 0] 41) = X20 at HN20 HM20 HR20 ⊢
                                        clear hS HM HR
                                        revert HG20; revert HR20; revert HN20; revert HM20; revert BR; revert BN20; revert X20
                                        exact REST14
                                      exact AllReadyH.nil
                                  ·
                                    intro X BN BR HM HN HR HG
                                    have hS := trivial
                                    refine wpAnyH_ready (rs := [2, 3, 4]) (by kernel_rfl) (by simp) ?_
                                    refine AllReadyH.cons (o := ⟨some 201, Op.load 80 (Operand.tmp 200), _, _, _, _⟩) rfl (fun K hK => ?_) ?_
                                    ·
                                      have e4 : X.cell? ⟨BR, 4, none⟩ = some (.int .i64 20) := cell_of_row _ _ 4 _ _ _ HR.out
                                      have e5 : X.cell? ⟨BR, 5, none⟩ = some (.int .i64 5) := cell_of_row _ _ 5 _ _ _ HR.out
                                      have e6 : X.cell? ⟨BR, 6, none⟩ = some (.int .i64 1) := cell_of_row _ _ 6 _ _ _ HR.out
                                      have e7 : X.cell? ⟨BR, 7, none⟩ = some (.int .i64 1) := cell_of_row _ _ 7 _ _ _ HR.out
                                      go_simp
                                      clear e4 e5 e6 e7
                                      refine hK.out _ _ (trivial) (fun hS => ?_)
                                      clear hK K
                                      (try simp only [Act.put]); (try simp only [List.setIfInBounds_toArray]); (try simp only [List.set_cons_succ]); (try simp only [List.set_cons_zero])
                                      clear hS
                                      revert HG; revert HR; revert HN; revert HM; revert BR; revert BN; revert X
                                      exact REST11
                                    refine AllReadyH.cons (o := ⟨some 202, Op.buildSlice 22 1 #[(0, Operand.const (Value.int IntKind.i64 24))], _, _, _, _⟩) rfl (fun K hK => ?_) ?_
                                    ·
                                      go_simp
                                      have HM22 : Hid (Below x51.heap.size x51 (X.alloc (.cells #[.int .i64 24] 3))) := below_step HM.out (below_alloc X (.cells #[.int .i64 24] 3))
                                      have HN22 : Hid ((X.alloc (.cells #[.int .i64 24] 3)).heap[BN]? = some (.cells #[.int .i64 0, .int .i64 0] 41 (0, 0))) := ((below_alloc X (.cells #[.int .i64 24] 3)).block _ (Array.getElem?_eq_some_iff.1 HN.out).1).trans HN.out
                                      have HR22 : Hid ((X.alloc (.cells #[.int .i64 24] 3)).heap[BR]? = some (.cells #[.int .i64 0, .int .i64 1, .int .i64 0, .int .i64 0, .int .i64 20, .int .i64 5, .int .i64 1, .int .i64 1] 80 (0, 0))) := ((below_alloc X (.cells #[.int .i64 24] 3)).block _ (Array.getElem?_eq_some_iff.1 HR.out).1).trans HR.out
                                      have HI22 : Hid ((X.alloc (.cells #[.int .i64 24] 3)).heap[X.heap.size]? = some (.cells #[.int .i64 24] 3 (0, 0))) := heap_alloc_new _ _
                                      refine hK.out _ _ (trivial) (fun hS => ?_)
                                      clear hK K
                                      (try simp only [Act.put]); (try simp only [List.setIfInBounds_toArray]); (try simp only [List.set_cons_succ]); (try simp only [List.set_cons_zero])
                                      generalize X.heap.size = BI22 at HI22 ⊢
                                      generalize X.alloc (.cells #[.int .i64 24] 3) = X22 at HI22 HM22 HN22 HR22 ⊢
                                      clear hS HM HN HR
                                      revert HG; revert HR22; revert HN22; revert HI22; revert HM22; revert BR; revert BN; revert BI22; revert X22
                                      exact REST13
                                    refine AllReadyH.cons (o := ⟨some 203, Op.call { callee := Callee.value (Operand.func 41), args := #[Operand.const (Value.int IntKind.i64 20), Operand.const (Value.int IntKind.i64 25)], argTypes := #[3, 3] }, _, _, _, _⟩) rfl (fun K hK => ?_) ?_
                                    ·
                                      go_simp
                                      refine (between_any 20 25 X).mono ?_
                                      rintro _ X23 ⟨rfl, hx23⟩
                                      (try go_wp2_with fail)
                                      have HM23 : Hid (Below x51.heap.size x51 X23) := below_step HM.out hx23
                                      have HN23 : Hid (X23.heap[BN]? = some (.cells #[.int .i64 0, .int .i64 0] 41 (0, 0))) := (hx23.block _ (Array.getElem?_eq_some_iff.1 HN.out).1).trans HN.out
                                      have HR23 : Hid (X23.heap[BR]? = some (.cells #[.int .i64 0, .int .i64 1, .int .i64 0, .int .i64 0, .int .i64 20, .int .i64 5, .int .i64 1, .int .i64 1] 80 (0, 0))) := (hx23.block _ (Array.getElem?_eq_some_iff.1 HR.out).1).trans HR.out
                                      refine hK.out _ _ (trivial) (fun hS => ?_)
                                      clear hK K
                                      (try simp only [Act.put]); (try simp only [List.setIfInBounds_toArray]); (try simp only [List.set_cons_succ]); (try simp only [List.set_cons_zero])
                                      clear hx23
                                      clear hS HM HN HR
                                      revert HG; revert HR23; revert HN23; revert HM23; revert BR; revert BN; revert X23
                                      exact REST14
                                    exact AllReadyH.nil
                                ·
                                  intro X BI BR HM HI HR
                                  have hS := trivial
                                  refine wpAnyH_ready (rs := [4, 9]) (by kernel_rfl) (by simp) ?_
                                  refine AllReadyH.cons (o := ⟨some 203, Op.call { callee := Callee.value (Operand.func 41), args := #[Operand.const (Value.int IntKind.i64 20), Operand.const (Value.int IntKind.i64 25)], argTypes := #[3, 3] }, _, _, _, _⟩) rfl (fun K hK => ?_) ?_
                                  ·
                                    go_simp
                                    refine (between_any 20 25 X).mono ?_
                                    rintro _ X24 ⟨rfl, hx24⟩
                                    (try go_wp2_with fail)
                                    have HM24 : Hid (Below x51.heap.size x51 X24) := below_step HM.out hx24
                                    have HR24 : Hid (X24.heap[BR]? = some (.cells #[.int .i64 0, .int .i64 1, .int .i64 0, .int .i64 0, .int .i64 20, .int .i64 5, .int .i64 1, .int .i64 1] 80 (0, 0))) := (hx24.block _ (Array.getElem?_eq_some_iff.1 HR.out).1).trans HR.out
                                    have HI24 : Hid (X24.heap[BI]? = some (.cells #[.int .i64 24] 3 (0, 0))) := (hx24.block _ (Array.getElem?_eq_some_iff.1 HI.out).1).trans HI.out
                                    refine hK.out _ _ (trivial) (fun hS => ?_)
                                    clear hK K
                                    (try simp only [Act.put]); (try simp only [List.setIfInBounds_toArray]); (try simp only [List.set_cons_succ]); (try simp only [List.set_cons_zero])
                                    clear hx24
                                    clear hS HM HI HR
                                    revert HR24; revert HI24; revert HM24; revert BR; revert BI; revert X24
                                    exact REST15
                                  refine AllReadyH.cons (o := ⟨some 19, Op.alloc 41, _, _, _, _⟩) rfl (fun K hK => ?_) ?_
                                  ·
                                    go_simp
                                    have HG25 : Hid (x51.heap.size ≤ X.heap.size) := HM.out.size
                                    have HM25 : Hid (Below x51.heap.size x51 (X.alloc (.cells #[.int .i64 0, .int .i64 0] 41))) := below_step HM.out (below_alloc X (.cells #[.int .i64 0, .int .i64 0] 41))
                                    have HR25 : Hid ((X.alloc (.cells #[.int .i64 0, .int .i64 0] 41)).heap[BR]? = some (.cells #[.int .i64 0, .int .i64 1, .int .i64 0, .int .i64 0, .int .i64 20, .int .i64 5, .int .i64 1, .int .i64 1] 80 (0, 0))) := ((below_alloc X (.cells #[.int .i64 0, .int .i64 0] 41)).block _ (Array.getElem?_eq_some_iff.1 HR.out).1).trans HR.out
                                    have HI25 : Hid ((X.alloc (.cells #[.int .i64 0, .int .i64 0] 41)).heap[BI]? = some (.cells #[.int .i64 24] 3 (0, 0))) := ((below_alloc X (.cells #[.int .i64 0, .int .i64 0] 41)).block _ (Array.getElem?_eq_some_iff.1 HI.out).1).trans HI.out
                                    have HN25 : Hid ((X.alloc (.cells #[.int .i64 0, .int .i64 0] 41)).heap[X.heap.size]? = some (.cells #[.int .i64 0, .int .i64 0] 41 (0, 0))) := heap_alloc_new _ _
                                    refine hK.out _ _ (trivial) (fun hS => ?_)
                                    clear hK K
                                    (try simp only [Act.put]); (try simp only [List.setIfInBounds_toArray]); (try simp only [List.set_cons_succ]); (try simp only [List.set_cons_zero])
                                    generalize X.heap.size = BN25 at HN25 HG25 ⊢
                                    generalize X.alloc (.cells #[.int .i64 0, .int .i64 0] 41) = X25 at HN25 HM25 HR25 HI25 ⊢
                                    clear hS HM HI HR
                                    revert HG25; revert HR25; revert HN25; revert HI25; revert HM25; revert BR; revert BN25; revert BI; revert X25
                                    exact REST16
                                  exact AllReadyH.nil
                              ·
                                intro X BR HM HR
                                have hS := trivial
                                refine wpAnyH_ready (rs := [3, 9]) (by kernel_rfl) (by simp) ?_
                                refine AllReadyH.cons (o := ⟨some 202, Op.buildSlice 22 1 #[(0, Operand.const (Value.int IntKind.i64 24))], _, _, _, _⟩) rfl (fun K hK => ?_) ?_
                                ·
                                  go_simp
                                  have HM26 : Hid (Below x51.heap.size x51 (X.alloc (.cells #[.int .i64 24] 3))) := below_step HM.out (below_alloc X (.cells #[.int .i64 24] 3))
                                  have HR26 : Hid ((X.alloc (.cells #[.int .i64 24] 3)).heap[BR]? = some (.cells #[.int .i64 0, .int .i64 1, .int .i64 0, .int .i64 0, .int .i64 20, .int .i64 5, .int .i64 1, .int .i64 1] 80 (0, 0))) := ((below_alloc X (.cells #[.int .i64 24] 3)).block _ (Array.getElem?_eq_some_iff.1 HR.out).1).trans HR.out
                                  have HI26 : Hid ((X.alloc (.cells #[.int .i64 24] 3)).heap[X.heap.size]? = some (.cells #[.int .i64 24] 3 (0, 0))) := heap_alloc_new _ _
                                  refine hK.out _ _ (trivial) (fun hS => ?_)
                                  clear hK K
                                  (try simp only [Act.put]); (try simp only [List.setIfInBounds_toArray]); (try simp only [List.set_cons_succ]); (try simp only [List.set_cons_zero])
                                  generalize X.heap.size = BI26 at HI26 ⊢
                                  generalize X.alloc (.cells #[.int .i64 24] 3) = X26 at HI26 HM26 HR26 ⊢
                                  clear hS HM HR
                                  revert HR26; revert HI26; revert HM26; revert BR; revert BI26; revert X26
                                  exact REST15
                                refine AllReadyH.cons (o := ⟨some 19, Op.alloc 41, _, _, _, _⟩) rfl (fun K hK => ?_) ?_
                                ·
                                  go_simp
                                  have HG27 : Hid (x51.heap.size ≤ X.heap.size) := HM.out.size
                                  have HM27 : Hid (Below x51.heap.size x51 (X.alloc (.cells #[.int .i64 0, .int .i64 0] 41))) := below_step HM.out (below_alloc X (.cells #[.int .i64 0, .int .i64 0] 41))
                                  have HR27 : Hid ((X.alloc (.cells #[.int .i64 0, .int .i64 0] 41)).heap[BR]? = some (.cells #[.int .i64 0, .int .i64 1, .int .i64 0, .int .i64 0, .int .i64 20, .int .i64 5, .int .i64 1, .int .i64 1] 80 (0, 0))) := ((below_alloc X (.cells #[.int .i64 0, .int .i64 0] 41)).block _ (Array.getElem?_eq_some_iff.1 HR.out).1).trans HR.out
                                  have HN27 : Hid ((X.alloc (.cells #[.int .i64 0, .int .i64 0] 41)).heap[X.heap.size]? = some (.cells #[.int .i64 0, .int .i64 0] 41 (0, 0))) := heap_alloc_new _ _
                                  refine hK.out _ _ (trivial) (fun hS => ?_)
                                  clear hK K
                                  (try simp only [Act.put]); (try simp only [List.setIfInBounds_toArray]); (try simp only [List.set_cons_succ]); (try simp only [List.set_cons_zero])
                                  generalize X.heap.size = BN27 at HN27 HG27 ⊢
                                  generalize X.alloc (.cells #[.int .i64 0, .int .i64 0] 41) = X27 at HN27 HM27 HR27 ⊢
                                  clear hS HM HR
                                  revert HG27; revert HR27; revert HN27; revert HM27; revert BR; revert BN27; revert X27
                                  exact REST17
                                exact AllReadyH.nil
                            ·
                              intro X BN BR HM HN HR HG
                              have hS := trivial
                              refine wpAnyH_ready (rs := [3, 4]) (by kernel_rfl) (by simp) ?_
                              refine AllReadyH.cons (o := ⟨some 202, Op.buildSlice 22 1 #[(0, Operand.const (Value.int IntKind.i64 24))], _, _, _, _⟩) rfl (fun K hK => ?_) ?_
                              ·
                                go_simp
                                have HM28 : Hid (Below x51.heap.size x51 (X.alloc (.cells #[.int .i64 24] 3))) := below_step HM.out (below_alloc X (.cells #[.int .i64 24] 3))
                                have HR28 : Hid ((X.alloc (.cells #[.int .i64 24] 3)).heap[BR]? = some (.cells #[.int .i64 0, .int .i64 1, .int .i64 0, .int .i64 0, .int .i64 20, .int .i64 5, .int .i64 1, .int .i64 1] 80 (0, 0))) := ((below_alloc X (.cells #[.int .i64 24] 3)).block _ (Array.getElem?_eq_some_iff.1 HR.out).1).trans HR.out
                                have HN28 : Hid ((X.alloc (.cells #[.int .i64 24] 3)).heap[BN]? = some (.cells #[.int .i64 0, .int .i64 0] 41 (0, 0))) := ((below_alloc X (.cells #[.int .i64 24] 3)).block _ (Array.getElem?_eq_some_iff.1 HN.out).1).trans HN.out
                                have HI28 : Hid ((X.alloc (.cells #[.int .i64 24] 3)).heap[X.heap.size]? = some (.cells #[.int .i64 24] 3 (0, 0))) := heap_alloc_new _ _
                                refine hK.out _ _ (trivial) (fun hS => ?_)
                                clear hK K
                                (try simp only [Act.put]); (try simp only [List.setIfInBounds_toArray]); (try simp only [List.set_cons_succ]); (try simp only [List.set_cons_zero])
                                generalize X.heap.size = BI28 at HI28 ⊢
                                generalize X.alloc (.cells #[.int .i64 24] 3) = X28 at HI28 HM28 HR28 HN28 ⊢
                                clear hS HM HN HR
                                revert HG; revert HR28; revert HN28; revert HI28; revert HM28; revert BR; revert BN; revert BI28; revert X28
                                exact REST16
                              refine AllReadyH.cons (o := ⟨some 203, Op.call { callee := Callee.value (Operand.func 41), args := #[Operand.const (Value.int IntKind.i64 20), Operand.const (Value.int IntKind.i64 25)], argTypes := #[3, 3] }, _, _, _, _⟩) rfl (fun K hK => ?_) ?_
                              ·
                                go_simp
                                refine (between_any 20 25 X).mono ?_
                                rintro _ X29 ⟨rfl, hx29⟩
                                (try go_wp2_with fail)
                                have HM29 : Hid (Below x51.heap.size x51 X29) := below_step HM.out hx29
                                have HR29 : Hid (X29.heap[BR]? = some (.cells #[.int .i64 0, .int .i64 1, .int .i64 0, .int .i64 0, .int .i64 20, .int .i64 5, .int .i64 1, .int .i64 1] 80 (0, 0))) := (hx29.block _ (Array.getElem?_eq_some_iff.1 HR.out).1).trans HR.out
                                have HN29 : Hid (X29.heap[BN]? = some (.cells #[.int .i64 0, .int .i64 0] 41 (0, 0))) := (hx29.block _ (Array.getElem?_eq_some_iff.1 HN.out).1).trans HN.out
                                refine hK.out _ _ (trivial) (fun hS => ?_)
                                clear hK K
                                (try simp only [Act.put]); (try simp only [List.setIfInBounds_toArray]); (try simp only [List.set_cons_succ]); (try simp only [List.set_cons_zero])
                                clear hx29
                                clear hS HM HN HR
                                revert HG; revert HR29; revert HN29; revert HM29; revert BR; revert BN; revert X29
                                exact REST17
                              exact AllReadyH.nil
                          ·
                            intro X BI BR HM HI HR
                            have hS := trivial
                            refine wpAnyH_ready (rs := [2, 9]) (by kernel_rfl) (by simp) ?_
                            refine AllReadyH.cons (o := ⟨some 201, Op.load 80 (Operand.tmp 200), _, _, _, _⟩) rfl (fun K hK => ?_) ?_
                            ·
                              have e4 : X.cell? ⟨BR, 4, none⟩ = some (.int .i64 20) := cell_of_row _ _ 4 _ _ _ HR.out
                              have e5 : X.cell? ⟨BR, 5, none⟩ = some (.int .i64 5) := cell_of_row _ _ 5 _ _ _ HR.out
                              have e6 : X.cell? ⟨BR, 6, none⟩ = some (.int .i64 1) := cell_of_row _ _ 6 _ _ _ HR.out
                              have e7 : X.cell? ⟨BR, 7, none⟩ = some (.int .i64 1) := cell_of_row _ _ 7 _ _ _ HR.out
                              go_simp
                              clear e4 e5 e6 e7
                              refine hK.out _ _ (trivial) (fun hS => ?_)
                              clear hK K
                              (try simp only [Act.put]); (try simp only [List.setIfInBounds_toArray]); (try simp only [List.set_cons_succ]); (try simp only [List.set_cons_zero])
                              clear hS
                              revert HR; revert HI; revert HM; revert BR; revert BI; revert X
                              exact REST15
                            refine AllReadyH.cons (o := ⟨some 19, Op.alloc 41, _, _, _, _⟩) rfl (fun K hK => ?_) ?_
                            ·
                              go_simp
                              have HG31 : Hid (x51.heap.size ≤ X.heap.size) := HM.out.size
                              have HM31 : Hid (Below x51.heap.size x51 (X.alloc (.cells #[.int .i64 0, .int .i64 0] 41))) := below_step HM.out (below_alloc X (.cells #[.int .i64 0, .int .i64 0] 41))
                              have HI31 : Hid ((X.alloc (.cells #[.int .i64 0, .int .i64 0] 41)).heap[BI]? = some (.cells #[.int .i64 24] 3 (0, 0))) := ((below_alloc X (.cells #[.int .i64 0, .int .i64 0] 41)).block _ (Array.getElem?_eq_some_iff.1 HI.out).1).trans HI.out
                              have HR31 : Hid ((X.alloc (.cells #[.int .i64 0, .int .i64 0] 41)).heap[BR]? = some (.cells #[.int .i64 0, .int .i64 1, .int .i64 0, .int .i64 0, .int .i64 20, .int .i64 5, .int .i64 1, .int .i64 1] 80 (0, 0))) := ((below_alloc X (.cells #[.int .i64 0, .int .i64 0] 41)).block _ (Array.getElem?_eq_some_iff.1 HR.out).1).trans HR.out
                              have HN31 : Hid ((X.alloc (.cells #[.int .i64 0, .int .i64 0] 41)).heap[X.heap.size]? = some (.cells #[.int .i64 0, .int .i64 0] 41 (0, 0))) := heap_alloc_new _ _
                              refine hK.out _ _ (trivial) (fun hS => ?_)
                              clear hK K
                              (try simp only [Act.put]); (try simp only [List.setIfInBounds_toArray]); (try simp only [List.set_cons_succ]); (try simp only [List.set_cons_zero])
                              generalize X.heap.size = BN31 at HN31 HG31 ⊢
                              generalize X.alloc (.cells #[.int .i64 0, .int .i64 0] 41) = X31 at HN31 HM31 HI31 HR31 ⊢
                              clear hS HM HI HR
                              revert HG31; revert HR31; revert HN31; revert HI31; revert HM31; revert BR; revert BN31; revert BI; revert X31
                              exact REST18
                            exact AllReadyH.nil
                        ·
                          intro X BI BN BR HM HI HN HR HG
                          have hS := trivial
                          refine wpAnyH_ready (rs := [2, 4]) (by kernel_rfl) (by simp) ?_
                          refine AllReadyH.cons (o := ⟨some 201, Op.load 80 (Operand.tmp 200), _, _, _, _⟩) rfl (fun K hK => ?_) ?_
                          ·
                            have e4 : X.cell? ⟨BR, 4, none⟩ = some (.int .i64 20) := cell_of_row _ _ 4 _ _ _ HR.out
                            have e5 : X.cell? ⟨BR, 5, none⟩ = some (.int .i64 5) := cell_of_row _ _ 5 _ _ _ HR.out
                            have e6 : X.cell? ⟨BR, 6, none⟩ = some (.int .i64 1) := cell_of_row _ _ 6 _ _ _ HR.out
                            have e7 : X.cell? ⟨BR, 7, none⟩ = some (.int .i64 1) := cell_of_row _ _ 7 _ _ _ HR.out
                            go_simp
                            clear e4 e5 e6 e7
                            refine hK.out _ _ (trivial) (fun hS => ?_)
                            clear hK K
                            (try simp only [Act.put]); (try simp only [List.setIfInBounds_toArray]); (try simp only [List.set_cons_succ]); (try simp only [List.set_cons_zero])
                            clear hS
                            revert HG; revert HR; revert HN; revert HI; revert HM; revert BR; revert BN; revert BI; revert X
                            exact REST16
                          refine AllReadyH.cons (o := ⟨some 203, Op.call { callee := Callee.value (Operand.func 41), args := #[Operand.const (Value.int IntKind.i64 20), Operand.const (Value.int IntKind.i64 25)], argTypes := #[3, 3] }, _, _, _, _⟩) rfl (fun K hK => ?_) ?_
                          ·
                            go_simp
                            refine (between_any 20 25 X).mono ?_
                            rintro _ X33 ⟨rfl, hx33⟩
                            (try go_wp2_with fail)
                            have HM33 : Hid (Below x51.heap.size x51 X33) := below_step HM.out hx33
                            have HI33 : Hid (X33.heap[BI]? = some (.cells #[.int .i64 24] 3 (0, 0))) := (hx33.block _ (Array.getElem?_eq_some_iff.1 HI.out).1).trans HI.out
                            have HN33 : Hid (X33.heap[BN]? = some (.cells #[.int .i64 0, .int .i64 0] 41 (0, 0))) := (hx33.block _ (Array.getElem?_eq_some_iff.1 HN.out).1).trans HN.out
                            have HR33 : Hid (X33.heap[BR]? = some (.cells #[.int .i64 0, .int .i64 1, .int .i64 0, .int .i64 0, .int .i64 20, .int .i64 5, .int .i64 1, .int .i64 1] 80 (0, 0))) := (hx33.block _ (Array.getElem?_eq_some_iff.1 HR.out).1).trans HR.out
                            refine hK.out _ _ (trivial) (fun hS => ?_)
                            clear hK K
                            (try simp only [Act.put]); (try simp only [List.setIfInBounds_toArray]); (try simp only [List.set_cons_succ]); (try simp only [List.set_cons_zero])
                            clear hx33
                            clear hS HM HI HN HR
                            revert HG; revert HR33; revert HN33; revert HI33; revert HM33; revert BR; revert BN; revert BI; revert X33
                            exact REST18
                          exact AllReadyH.nil
                      ·
                        intro X BN BR HM HN HR HG
                        have hS := trivial
                        refine wpAnyH_ready (rs := [2, 3]) (by kernel_rfl) (by simp) ?_
                        refine AllReadyH.cons (o := ⟨some 201, Op.load 80 (Operand.tmp 200), _, _, _, _⟩) rfl (fun K hK => ?_) ?_
                        ·
                          have e4 : X.cell? ⟨BR, 4, none⟩ = some (.int .i64 20) := cell_of_row _ _ 4 _ _ _ HR.out
                          have e5 : X.cell? ⟨BR, 5, none⟩ = some (.int .i64 5) := cell_of_row _ _ 5 _ _ _ HR.out
                          have e6 : X.cell? ⟨BR, 6, none⟩ = some (.int .i64 1) := cell_of_row _ _ 6 _ _ _ HR.out
                          have e7 : X.cell? ⟨BR, 7, none⟩ = some (.int .i64 1) := cell_of_row _ _ 7 _ _ _ HR.out
                          go_simp
                          clear e4 e5 e6 e7
                          refine hK.out _ _ (trivial) (fun hS => ?_)
                          clear hK K
                          (try simp only [Act.put]); (try simp only [List.setIfInBounds_toArray]); (try simp only [List.set_cons_succ]); (try simp only [List.set_cons_zero])
                          clear hS
                          revert HG; revert HR; revert HN; revert HM; revert BR; revert BN; revert X
                          exact REST17
                        refine AllReadyH.cons (o := ⟨some 202, Op.buildSlice 22 1 #[(0, Operand.const (Value.int IntKind.i64 24))], _, _, _, _⟩) rfl (fun K hK => ?_) ?_
                        ·
                          go_simp
                          have HM35 : Hid (Below x51.heap.size x51 (X.alloc (.cells #[.int .i64 24] 3))) := below_step HM.out (below_alloc X (.cells #[.int .i64 24] 3))
                          have HR35 : Hid ((X.alloc (.cells #[.int .i64 24] 3)).heap[BR]? = some (.cells #[.int .i64 0, .int .i64 1, .int .i64 0, .int .i64 0, .int .i64 20, .int .i64 5, .int .i64 1, .int .i64 1] 80 (0, 0))) := ((below_alloc X (.cells #[.int .i64 24] 3)).block _ (Array.getElem?_eq_some_iff.1 HR.out).1).trans HR.out
                          have HN35 : Hid ((X.alloc (.cells #[.int .i64 24] 3)).heap[BN]? = some (.cells #[.int .i64 0, .int .i64 0] 41 (0, 0))) := ((below_alloc X (.cells #[.int .i64 24] 3)).block _ (Array.getElem?_eq_some_iff.1 HN.out).1).trans HN.out
                          have HI35 : Hid ((X.alloc (.cells #[.int .i64 24] 3)).heap[X.heap.size]? = some (.cells #[.int .i64 24] 3 (0, 0))) := heap_alloc_new _ _
                          refine hK.out _ _ (trivial) (fun hS => ?_)
                          clear hK K
                          (try simp only [Act.put]); (try simp only [List.setIfInBounds_toArray]); (try simp only [List.set_cons_succ]); (try simp only [List.set_cons_zero])
                          generalize X.heap.size = BI35 at HI35 ⊢
                          generalize X.alloc (.cells #[.int .i64 24] 3) = X35 at HI35 HM35 HR35 HN35 ⊢
                          clear hS HM HN HR
                          revert HG; revert HR35; revert HN35; revert HI35; revert HM35; revert BR; revert BN; revert BI35; revert X35
                          exact REST18
                        exact AllReadyH.nil
                    ·
                      intro X BI BR HM HI HR
                      have hS := trivial
                      refine wpAnyH_ready (rs := [5, 9]) (by kernel_rfl) (by simp) ?_
                      refine AllReadyH.cons (o := ⟨some 204, Op.call { callee := Callee.value (Operand.func 59), args := #[Operand.tmp 201, Operand.tmp 202, Operand.tmp 203], argTypes := #[80, 22, 41] }, _, _, _, _⟩) rfl (fun K hK => ?_) ?_
                      ·
                        go_simp
                        refine (HC2.out X BI HI.out).mono ?_
                        rintro _ X36 ⟨rfl, hx36⟩
                        (try go_wp2_with fail)
                        have HM36 : Hid (Below x51.heap.size x51 X36) := below_step HM.out hx36
                        have HR36 : Hid (X36.heap[BR]? = some (.cells #[.int .i64 0, .int .i64 1, .int .i64 0, .int .i64 0, .int .i64 20, .int .i64 5, .int .i64 1, .int .i64 1] 80 (0, 0))) := (hx36.block _ (Array.getElem?_eq_some_iff.1 HR.out).1).trans HR.out
                        have HI36 : Hid (X36.heap[BI]? = some (.cells #[.int .i64 24] 3 (0, 0))) := (hx36.block _ (Array.getElem?_eq_some_iff.1 HI.out).1).trans HI.out
                        refine hK.out _ _ (trivial) (fun hS => ?_)
                        clear hK K
                        (try simp only [Act.put]); (try simp only [List.setIfInBounds_toArray]); (try simp only [List.set_cons_succ]); (try simp only [List.set_cons_zero])
                        clear hx36
                        refine wpAnyH_take (i := 6) (oi := ⟨some 198, Op.move (Operand.tmp 204), _, _, _, _⟩) (v := .tuple #[.agg #[.int .i64 0, .int .i64 0], .int .i64 9]) rfl (by kernel_rfl) (by kernel_rfl) (by kernel_rfl) (fun _ _ _ h => h) (Or.inl ⟨by rfl, ?_⟩) hS ?_
                        · intro W' hSw; go_simp
                        (try simp only [Act.put]); (try simp only [List.setIfInBounds_toArray]); (try simp only [List.set_cons_succ]); (try simp only [List.set_cons_zero])
                        refine wpAnyH_take (i := 7) (oi := ⟨some 205, Op.extract (Operand.tmp 198) 0, _, _, _, _⟩) (v := .agg #[.int .i64 0, .int .i64 0]) rfl (by kernel_rfl) (by kernel_rfl) (by kernel_rfl) (fun _ _ _ h => h) (Or.inl ⟨by rfl, ?_⟩) hS ?_
                        · intro W' hSw; go_simp
                        (try simp only [Act.put]); (try simp only [List.setIfInBounds_toArray]); (try simp only [List.set_cons_succ]); (try simp only [List.set_cons_zero])
                        refine wpAnyH_take (i := 8) (oi := ⟨some 206, Op.extract (Operand.tmp 198) 1, _, _, _, _⟩) (v := .int .i64 9) rfl (by kernel_rfl) (by kernel_rfl) (by kernel_rfl) (fun _ _ _ h => h) (Or.inl ⟨by rfl, ?_⟩) hS ?_
                        · intro W' hSw; go_simp
                        (try simp only [Act.put]); (try simp only [List.setIfInBounds_toArray]); (try simp only [List.set_cons_succ]); (try simp only [List.set_cons_zero])
                        clear hS HM HI HR
                        revert HR36; revert HI36; revert HM36; revert BR; revert BI; revert X36
                        exact REST20
                      refine AllReadyH.cons (o := ⟨some 19, Op.alloc 41, _, _, _, _⟩) rfl (fun K hK => ?_) ?_
                      ·
                        go_simp
                        have HG37 : Hid (x51.heap.size ≤ X.heap.size) := HM.out.size
                        have HM37 : Hid (Below x51.heap.size x51 (X.alloc (.cells #[.int .i64 0, .int .i64 0] 41))) := below_step HM.out (below_alloc X (.cells #[.int .i64 0, .int .i64 0] 41))
                        have HR37 : Hid ((X.alloc (.cells #[.int .i64 0, .int .i64 0] 41)).heap[BR]? = some (.cells #[.int .i64 0, .int .i64 1, .int .i64 0, .int .i64 0, .int .i64 20, .int .i64 5, .int .i64 1, .int .i64 1] 80 (0, 0))) := ((below_alloc X (.cells #[.int .i64 0, .int .i64 0] 41)).block _ (Array.getElem?_eq_some_iff.1 HR.out).1).trans HR.out
                        have HI37 : Hid ((X.alloc (.cells #[.int .i64 0, .int .i64 0] 41)).heap[BI]? = some (.cells #[.int .i64 24] 3 (0, 0))) := ((below_alloc X (.cells #[.int .i64 0, .int .i64 0] 41)).block _ (Array.getElem?_eq_some_iff.1 HI.out).1).trans HI.out
                        have HN37 : Hid ((X.alloc (.cells #[.int .i64 0, .int .i64 0] 41)).heap[X.heap.size]? = some (.cells #[.int .i64 0, .int .i64 0] 41 (0, 0))) := heap_alloc_new _ _
                        refine hK.out _ _ (trivial) (fun hS => ?_)
                        clear hK K
                        (try simp only [Act.put]); (try simp only [List.setIfInBounds_toArray]); (try simp only [List.set_cons_succ]); (try simp only [List.set_cons_zero])
                        generalize X.heap.size = BN37 at HN37 HG37 ⊢
                        generalize X.alloc (.cells #[.int .i64 0, .int .i64 0] 41) = X37 at HN37 HM37 HR37 HI37 ⊢
                        clear hS HM HI HR
                        revert HG37; revert HR37; revert HN37; revert HI37; revert HM37; revert BR; revert BN37; revert BI; revert X37
                        exact REST19
                      exact AllReadyH.nil
                  ·
                    intro X BI BN BR HM HI HN HR HG
                    have hS := trivial
                    refine wpAnyH_ready (rs := [4]) (by kernel_rfl) (by simp) ?_
                    refine AllReadyH.cons (o := ⟨some 203, Op.call { callee := Callee.value (Operand.func 41), args := #[Operand.const (Value.int IntKind.i64 20), Operand.const (Value.int IntKind.i64 25)], argTypes := #[3, 3] }, _, _, _, _⟩) rfl (fun K hK => ?_) ?_
                    ·
                      go_simp
                      refine (between_any 20 25 X).mono ?_
                      rintro _ X38 ⟨rfl, hx38⟩
                      (try go_wp2_with fail)
                      have HM38 : Hid (Below x51.heap.size x51 X38) := below_step HM.out hx38
                      have HR38 : Hid (X38.heap[BR]? = some (.cells #[.int .i64 0, .int .i64 1, .int .i64 0, .int .i64 0, .int .i64 20, .int .i64 5, .int .i64 1, .int .i64 1] 80 (0, 0))) := (hx38.block _ (Array.getElem?_eq_some_iff.1 HR.out).1).trans HR.out
                      have HI38 : Hid (X38.heap[BI]? = some (.cells #[.int .i64 24] 3 (0, 0))) := (hx38.block _ (Array.getElem?_eq_some_iff.1 HI.out).1).trans HI.out
                      have HN38 : Hid (X38.heap[BN]? = some (.cells #[.int .i64 0, .int .i64 0] 41 (0, 0))) := (hx38.block _ (Array.getElem?_eq_some_iff.1 HN.out).1).trans HN.out
                      refine hK.out _ _ (trivial) (fun hS => ?_)
                      clear hK K
                      (try simp only [Act.put]); (try simp only [List.setIfInBounds_toArray]); (try simp only [List.set_cons_succ]); (try simp only [List.set_cons_zero])
                      clear hx38
                      clear hS HM HI HN HR
                      revert HG; revert HR38; revert HN38; revert HI38; revert HM38; revert BR; revert BN; revert BI; revert X38
                      exact REST19
                    exact AllReadyH.nil
                ·
                  intro X BN BR HM HN HR HG
                  have hS := trivial
                  refine wpAnyH_ready (rs := [3]) (by kernel_rfl) (by simp) ?_
                  refine AllReadyH.cons (o := ⟨some 202, Op.buildSlice 22 1 #[(0, Operand.const (Value.int IntKind.i64 24))], _, _, _, _⟩) rfl (fun K hK => ?_) ?_
                  ·
                    go_simp
                    have HM39 : Hid (Below x51.heap.size x51 (X.alloc (.cells #[.int .i64 24] 3))) := below_step HM.out (below_alloc X (.cells #[.int .i64 24] 3))
                    have HR39 : Hid ((X.alloc (.cells #[.int .i64 24] 3)).heap[BR]? = some (.cells #[.int .i64 0, .int .i64 1, .int .i64 0, .int .i64 0, .int .i64 20, .int .i64 5, .int .i64 1, .int .i64 1] 80 (0, 0))) := ((below_alloc X (.cells #[.int .i64 24] 3)).block _ (Array.getElem?_eq_some_iff.1 HR.out).1).trans HR.out
                    have HN39 : Hid ((X.alloc (.cells #[.int .i64 24] 3)).heap[BN]? = some (.cells #[.int .i64 0, .int .i64 0] 41 (0, 0))) := ((below_alloc X (.cells #[.int .i64 24] 3)).block _ (Array.getElem?_eq_some_iff.1 HN.out).1).trans HN.out
                    have HI39 : Hid ((X.alloc (.cells #[.int .i64 24] 3)).heap[X.heap.size]? = some (.cells #[.int .i64 24] 3 (0, 0))) := heap_alloc_new _ _
                    refine hK.out _ _ (trivial) (fun hS => ?_)
                    clear hK K
                    (try simp only [Act.put]); (try simp only [List.setIfInBounds_toArray]); (try simp only [List.set_cons_succ]); (try simp only [List.set_cons_zero])
                    generalize X.heap.size = BI39 at HI39 ⊢
                    generalize X.alloc (.cells #[.int .i64 24] 3) = X39 at HI39 HM39 HR39 HN39 ⊢
                    clear hS HM HN HR
                    revert HG; revert HR39; revert HN39; revert HI39; revert HM39; revert BR; revert BN; revert BI39; revert X39
                    exact REST19
                  exact AllReadyH.nil
              ·
                intro X BI BN BR HM HI HN HR HG
                have hS := trivial
                refine wpAnyH_ready (rs := [2]) (by kernel_rfl) (by simp) ?_
                refine AllReadyH.cons (o := ⟨some 201, Op.load 80 (Operand.tmp 200), _, _, _, _⟩) rfl (fun K hK => ?_) ?_
                ·
                  have e4 : X.cell? ⟨BR, 4, none⟩ = some (.int .i64 20) := cell_of_row _ _ 4 _ _ _ HR.out
                  have e5 : X.cell? ⟨BR, 5, none⟩ = some (.int .i64 5) := cell_of_row _ _ 5 _ _ _ HR.out
                  have e6 : X.cell? ⟨BR, 6, none⟩ = some (.int .i64 1) := cell_of_row _ _ 6 _ _ _ HR.out
                  have e7 : X.cell? ⟨BR, 7, none⟩ = some (.int .i64 1) := cell_of_row _ _ 7 _ _ _ HR.out
                  go_simp
                  clear e4 e5 e6 e7
                  refine hK.out _ _ (trivial) (fun hS => ?_)
                  clear hK K
                  (try simp only [Act.put]); (try simp only [List.setIfInBounds_toArray]); (try simp only [List.set_cons_succ]); (try simp only [List.set_cons_zero])
                  clear hS
                  revert HG; revert HR; revert HN; revert HI; revert HM; revert BR; revert BN; revert BI; revert X
                  exact REST19
                exact AllReadyH.nil
            ·
              intro X BI BN BR HM HI HN HR HG
              have hS := trivial
              refine wpAnyH_ready (rs := [5]) (by kernel_rfl) (by simp) ?_
              refine AllReadyH.cons (o := ⟨some 204, Op.call { callee := Callee.value (Operand.func 59), args := #[Operand.tmp 201, Operand.tmp 202, Operand.tmp 203], argTypes := #[80, 22, 41] }, _, _, _, _⟩) rfl (fun K hK => ?_) ?_
              ·
                go_simp
                refine (HC2.out X BI HI.out).mono ?_
                rintro _ X41 ⟨rfl, hx41⟩
                (try go_wp2_with fail)
                have HM41 : Hid (Below x51.heap.size x51 X41) := below_step HM.out hx41
                have HR41 : Hid (X41.heap[BR]? = some (.cells #[.int .i64 0, .int .i64 1, .int .i64 0, .int .i64 0, .int .i64 20, .int .i64 5, .int .i64 1, .int .i64 1] 80 (0, 0))) := (hx41.block _ (Array.getElem?_eq_some_iff.1 HR.out).1).trans HR.out
                have HI41 : Hid (X41.heap[BI]? = some (.cells #[.int .i64 24] 3 (0, 0))) := (hx41.block _ (Array.getElem?_eq_some_iff.1 HI.out).1).trans HI.out
                have HN41 : Hid (X41.heap[BN]? = some (.cells #[.int .i64 0, .int .i64 0] 41 (0, 0))) := (hx41.block _ (Array.getElem?_eq_some_iff.1 HN.out).1).trans HN.out
                refine hK.out _ _ (trivial) (fun hS => ?_)
                clear hK K
                (try simp only [Act.put]); (try simp only [List.setIfInBounds_toArray]); (try simp only [List.set_cons_succ]); (try simp only [List.set_cons_zero])
                clear hx41
                refine wpAnyH_take (i := 6) (oi := ⟨some 198, Op.move (Operand.tmp 204), _, _, _, _⟩) (v := .tuple #[.agg #[.int .i64 0, .int .i64 0], .int .i64 9]) rfl (by kernel_rfl) (by kernel_rfl) (by kernel_rfl) (fun _ _ _ h => h) (Or.inl ⟨by rfl, ?_⟩) hS ?_
                · intro W' hSw; go_simp
                (try simp only [Act.put]); (try simp only [List.setIfInBounds_toArray]); (try simp only [List.set_cons_succ]); (try simp only [List.set_cons_zero])
                refine wpAnyH_take (i := 7) (oi := ⟨some 205, Op.extract (Operand.tmp 198) 0, _, _, _, _⟩) (v := .agg #[.int .i64 0, .int .i64 0]) rfl (by kernel_rfl) (by kernel_rfl) (by kernel_rfl) (fun _ _ _ h => h) (Or.inl ⟨by rfl, ?_⟩) hS ?_
                · intro W' hSw; go_simp
                (try simp only [Act.put]); (try simp only [List.setIfInBounds_toArray]); (try simp only [List.set_cons_succ]); (try simp only [List.set_cons_zero])
                refine wpAnyH_take (i := 8) (oi := ⟨some 206, Op.extract (Operand.tmp 198) 1, _, _, _, _⟩) (v := .int .i64 9) rfl (by kernel_rfl) (by kernel_rfl) (by kernel_rfl) (fun _ _ _ h => h) (Or.inl ⟨by rfl, ?_⟩) hS ?_
                · intro W' hSw; go_simp
                (try simp only [Act.put]); (try simp only [List.setIfInBounds_toArray]); (try simp only [List.set_cons_succ]); (try simp only [List.set_cons_zero])
                clear hS HM HI HN HR
                revert HG; revert HR41; revert HN41; revert HI41; revert HM41; revert BR; revert BN; revert BI; revert X41
                exact REST21
              exact AllReadyH.nil
          ·
            intro X BI BR HM HI HR
            have hS := trivial
            refine wpAnyH_ready (rs := [9]) (by kernel_rfl) (by simp) ?_
            refine AllReadyH.cons (o := ⟨some 19, Op.alloc 41, _, _, _, _⟩) rfl (fun K hK => ?_) ?_
            ·
              go_simp
              have HG42 : Hid (x51.heap.size ≤ X.heap.size) := HM.out.size
              have HM42 : Hid (Below x51.heap.size x51 (X.alloc (.cells #[.int .i64 0, .int .i64 0] 41))) := below_step HM.out (below_alloc X (.cells #[.int .i64 0, .int .i64 0] 41))
              have HR42 : Hid ((X.alloc (.cells #[.int .i64 0, .int .i64 0] 41)).heap[BR]? = some (.cells #[.int .i64 0, .int .i64 1, .int .i64 0, .int .i64 0, .int .i64 20, .int .i64 5, .int .i64 1, .int .i64 1] 80 (0, 0))) := ((below_alloc X (.cells #[.int .i64 0, .int .i64 0] 41)).block _ (Array.getElem?_eq_some_iff.1 HR.out).1).trans HR.out
              have HI42 : Hid ((X.alloc (.cells #[.int .i64 0, .int .i64 0] 41)).heap[BI]? = some (.cells #[.int .i64 24] 3 (0, 0))) := ((below_alloc X (.cells #[.int .i64 0, .int .i64 0] 41)).block _ (Array.getElem?_eq_some_iff.1 HI.out).1).trans HI.out
              have HN42 : Hid ((X.alloc (.cells #[.int .i64 0, .int .i64 0] 41)).heap[X.heap.size]? = some (.cells #[.int .i64 0, .int .i64 0] 41 (0, 0))) := heap_alloc_new _ _
              refine hK.out _ _ (trivial) (fun hS => ?_)
              clear hK K
              (try simp only [Act.put]); (try simp only [List.setIfInBounds_toArray]); (try simp only [List.set_cons_succ]); (try simp only [List.set_cons_zero])
              generalize X.heap.size = BN42 at HN42 HG42 ⊢
              generalize X.alloc (.cells #[.int .i64 0, .int .i64 0] 41) = X42 at HN42 HM42 HR42 HI42 ⊢
              clear hS HM HI HR
              revert HG42; revert HR42; revert HN42; revert HI42; revert HM42; revert BR; revert BN42; revert BI; revert X42
              exact REST21
            exact AllReadyH.nil
        ·
          intro X BI BN BR HM HI HN HR HG
          have hS := trivial
          refine wpAnyH_ready (rs := [10]) (by kernel_rfl) (by simp) ?_
          refine AllReadyH.cons (o := ⟨none, Op.store 41 (Operand.tmp 19) (Operand.tmp 205), _, _, _, _⟩) rfl (fun K hK => ?_) ?_
          ·
            have eb := HN.out
            have e0 := cell_of_row _ _ 0 _ _ _ eb
            have e1 := cell_of_row _ _ 1 _ _ _ eb
            have f0 := frozen_of_row _ _ 0 _ _ eb
            have f1 := frozen_of_row _ _ 1 _ _ eb
            have HM43 : Hid (Below x51.heap.size x51 ((X.setCell ⟨BN, 0, none⟩ (.int .i64 0)).setCell ⟨BN, 1, none⟩ (.int .i64 0))) := (HM.out.setCell HG.out _).setCell HG.out _
            have HN43 : Hid (((X.setCell ⟨BN, 0, none⟩ (.int .i64 0)).setCell ⟨BN, 1, none⟩ (.int .i64 0)).heap[BN]? = some (.cells #[.int .i64 0, .int .i64 0] 41 (0, 0))) := by unfold Hid; simp [World.setCell, Array.getElem?_modify, eb]
            clear eb
            go_simp
            refine hK.out _ _ (trivial) (fun hS => ?_)
            clear hK K
            (try simp only [Act.put]); (try simp only [List.setIfInBounds_toArray]); (try simp only [List.set_cons_succ]); (try simp only [List.set_cons_zero])
            clear e0 e1 f0 f1
            refine wpAnyH_take (i := 11) (oi := ⟨some 20, Op.assign (Operand.tmp 206), _, _, _, _⟩) (v := .int .i64 9) rfl (by kernel_rfl) (by kernel_rfl) (by kernel_rfl) (fun _ _ _ h => h) (Or.inl ⟨by rfl, ?_⟩) hS ?_
            · intro W' hSw; go_simp
            (try simp only [Act.put]); (try simp only [List.setIfInBounds_toArray]); (try simp only [List.set_cons_succ]); (try simp only [List.set_cons_zero])
            clear hS HM HN
            revert HG; revert HR; revert HN43; revert HI; revert HM43; revert BR; revert BN; revert BI; revert X
            exact REST22
          exact AllReadyH.nil
      ·
        intro X BI BN BR HM HI HN HR HG
        have hS := trivial
        refine wpAnyH_done (by kernel_rfl) ?_ _
        go_wp2_with fail
        go_meet
        exact ⟨BN, rfl, rfl, HN.out, HM.out⟩
    case rest => as_aux_lemma =>
      obtain ⟨B2, rfl, rfl, _, hbx⟩ := hcut
      obtain ⟨z3, rfl⟩ : ∃ z3, z3 = wc := ⟨_, rfl⟩
      have HZ3 := Lib.hid hbx
      clear hbx
      have HB53 : Hid (Below w.heap.size w z3) := below_step HB52.out (HZ3.out)
      go_wp2_with fail
      refine (HH1.out _).mono ?_
      rintro _ x54 ⟨rfl, hb⟩
      have HB55 : Hid (Below w.heap.size w x54) := below_step HB53.out (hb)
      clear hb
      go_wp2_with fail
      refine (HH2.out _).mono ?_
      rintro _ x56 ⟨rfl, hb⟩
      have HB57 : Hid (Below w.heap.size w x56) := below_step HB55.out (hb)
      clear hb
      obtain ⟨i0, hi0, hz0, hz1, hz2⟩ := info_parts Try.infoInt
      go_wp2_with (at_make; refine wpList_make_full _ rfl (.const (.int .i64 201)) (.const (.int .i64 201)) 22 rfl 0 3 i0 (.int .i64 0) 1 Try.underlying22 hi0 hz0 hz1 .i64 .i64 201 201 201 rfl rfl rfl rfl (by rw [hz2]; omega) (by unfold maxLen; omega) (Nat.zero_le _) ?_)
      intro mw hown hgrow
      have hms : x56.heap.size < mw.heap.size := by
        rcases hown.2 with ⟨e, _⟩ | ⟨g, cap, cur, e, _, hc, _⟩
        · cases e
        · cases e; exact (Array.getElem?_eq_some_iff.1 hc).1
      have HMW : Hid (Below x56.heap.size x56 mw) := (Below.refl _ _).grown hgrow (Nat.le_refl _) (fun k hk => by cases hk)
      have HIN : Hid (IntsAt mw (.slice (some ⟨x56.heap.size, 0, none⟩) 201 201) 201 (fun _ => 0)) := .inr ⟨x56.heap.size, 0, 201, rfl, hms, fun j hj => by
        have h := World.ownsRow.cellAt hown j (by omega)
        rw [Nat.zero_add, h, toList_madeCells_one]
        rw [List.getElem?_replicate, if_pos hj]⟩
      clear hown hgrow hms hi0 hz0 hz1 hz2
      go_wp2_with fail
      refine (HH3.out _ _ HIN.out).mono ?_
      rintro _ x58 ⟨rfl, hb⟩
      have HB59 : Hid (Below w.heap.size w mw) := below_step HB57.out (HMW.out)
      have HB60 : Hid (Below w.heap.size w x58) := below_step HB59.out (hb)
      clear hb HIN HMW
      go_wp2_with fail
      refine (somebody_nil _).mono ?_
      rintro _ x61 ⟨Rp, vp, rfl, hRp, hr, hc, hb⟩
      obtain ⟨ap, cp, rfl⟩ : ∃ a c, vp = .slice a 1 c := hc.at.slice
      have HRp := Lib.hid hr
      have HCp := Lib.hid hc
      have HPp := Lib.hid (someP_at hr hc)
      have HBLp := Lib.hid hb
      have HB62 : Hid (Below w.heap.size w x61) := below_step HB60.out (hb)
      clear hb hr hc
      go_wp2_with fail
      refine (somebody_nil _).mono ?_
      rintro _ x63 ⟨Rq, vq, rfl, hRq, hr, hc, hb⟩
      obtain ⟨aq, cq, rfl⟩ : ∃ a c, vq = .slice a 1 c := hc.at.slice
      have HRq := Lib.hid hr
      have HCq := Lib.hid hc
      have HPq := Lib.hid (someP_at hr hc)
      have HBLq := Lib.hid hb
      have HB64 : Hid (Below w.heap.size w x63) := below_step HB62.out (hb)
      clear hb hr hc
      go_wp2_with fail
      refine (somebody_nil _).mono ?_
      rintro _ x65 ⟨Rr, vr, rfl, hRr, hr, hc, hb⟩
      obtain ⟨ar, cr, rfl⟩ : ∃ a c, vr = .slice a 1 c := hc.at.slice
      have HRr := Lib.hid hr
      have HCr := Lib.hid hc
      have HPr := Lib.hid (someP_at hr hc)
      have HBLr := Lib.hid hb
      have HB66 : Hid (Below w.heap.size w x65) := below_step HB64.out (hb)
      clear hb hr hc
      have JRq : Hid (x65.heap[Rq]? = some (.cells #[.int .i64 0, .int .i64 1, .int .i64 0, .int .i64 0, .int .i64 20, .int .i64 5, .int .i64 1, .int .i64 1] 80 (0, 0))) := (HBLr.out.block _ (Array.getElem?_eq_some_iff.1 HRq.out).1).trans HRq.out
      have JCp : Hid (CL x65 (.slice ap 1 cp) [⟨10000, 1, 25⟩]) := own_fr HCp.out (Fr.below (below_step HBLq.out HBLr.out) (fun _ => False)) (fun _ _ _ _ _ h => h)
      have JCq : Hid (CL x65 (.slice aq 1 cq) [⟨10000, 1, 25⟩]) := own_fr HCq.out (Fr.below HBLr.out (fun _ => False)) (fun _ _ _ _ _ h => h)
      have JLq : Hid (Rq < x65.heap.size) := (Array.getElem?_eq_some_iff.1 JRq.out).1
      have JGE : Hid (w.heap.size ≤ Rq) := Nat.le_trans HB62.out.size hRq
      have JNE : Hid (Rr ≠ Rq) := by have := (Array.getElem?_eq_some_iff.1 HRq.out).1; unfold Hid; omega
      clear HPp HPq HPr HRp HRq HCp HCq HBLp HBLq HBLr hRp hRq hRr
      go_upto_region 23 with fail
      have J7 : Hid ((((x65.alloc (.cells #[.int .i64 0, .int .i64 20000, .slice (some ⟨Rp, 0, none⟩) 2 2, .slice ap 1 cp] 45)).alloc (.cells #[.int .i64 0, .int .i64 20000, .slice (some ⟨Rq, 0, none⟩) 2 2, .slice aq 1 cq] 45)).alloc (.cells #[.int .i64 0, .int .i64 20000, .slice (some ⟨Rr, 0, none⟩) 2 2, .slice ar 1 cr] 45)).heap[x65.heap.size]? = some (.cells #[.int .i64 0, .int .i64 20000, .slice (some ⟨Rp, 0, none⟩) 2 2, .slice ap 1 cp] 45 (0, 0))) := (Below.heap_alloc _ _ _ (by simp; omega)).trans ((Below.heap_alloc _ _ _ (by simp)).trans (heap_alloc_new _ _))
      have J8 : Hid ((((x65.alloc (.cells #[.int .i64 0, .int .i64 20000, .slice (some ⟨Rp, 0, none⟩) 2 2, .slice ap 1 cp] 45)).alloc (.cells #[.int .i64 0, .int .i64 20000, .slice (some ⟨Rq, 0, none⟩) 2 2, .slice aq 1 cq] 45)).alloc (.cells #[.int .i64 0, .int .i64 20000, .slice (some ⟨Rr, 0, none⟩) 2 2, .slice ar 1 cr] 45)).heap[x65.heap.size + 1]? = some (.cells #[.int .i64 0, .int .i64 20000, .slice (some ⟨Rq, 0, none⟩) 2 2, .slice aq 1 cq] 45 (0, 0))) := by
        have h := heap_alloc_new (x65.alloc (.cells #[.int .i64 0, .int .i64 20000, .slice (some ⟨Rp, 0, none⟩) 2 2, .slice ap 1 cp] 45)) (.cells #[.int .i64 0, .int .i64 20000, .slice (some ⟨Rq, 0, none⟩) 2 2, .slice aq 1 cq] 45)
        simp only [World.size_alloc] at h
        exact (Below.heap_alloc _ _ _ (by simp)).trans h
      have J9 : Hid ((((x65.alloc (.cells #[.int .i64 0, .int .i64 20000, .slice (some ⟨Rp, 0, none⟩) 2 2, .slice ap 1 cp] 45)).alloc (.cells #[.int .i64 0, .int .i64 20000, .slice (some ⟨Rq, 0, none⟩) 2 2, .slice aq 1 cq] 45)).alloc (.cells #[.int .i64 0, .int .i64 20000, .slice (some ⟨Rr, 0, none⟩) 2 2, .slice ar 1 cr] 45)).heap[x65.heap.size + 1 + 1]? = some (.cells #[.int .i64 0, .int .i64 20000, .slice (some ⟨Rr, 0, none⟩) 2 2, .slice ar 1 cr] 45 (0, 0))) := by
        have h := heap_alloc_new ((x65.alloc (.cells #[.int .i64 0, .int .i64 20000, .slice (some ⟨Rp, 0, none⟩) 2 2, .slice ap 1 cp] 45)).alloc (.cells #[.int .i64 0, .int .i64 20000, .slice (some ⟨Rq, 0, none⟩) 2 2, .slice aq 1 cq] 45)) (.cells #[.int .i64 0, .int .i64 20000, .slice (some ⟨Rr, 0, none⟩) 2 2, .slice ar 1 cr] 45)
        simp only [World.size_alloc] at h
        exact h
      have JF : Hid (Fr (fun q => q = Rq) x65 (((x65.alloc (.cells #[.int .i64 0, .int .i64 20000, .slice (some ⟨Rp, 0, none⟩) 2 2, .slice ap 1 cp] 45)).alloc (.cells #[.int .i64 0, .int .i64 20000, .slice (some ⟨Rq, 0, none⟩) 2 2, .slice aq 1 cq] 45)).alloc (.cells #[.int .i64 0, .int .i64 20000, .slice (some ⟨Rr, 0, none⟩) 2 2, .slice ar 1 cr] 45))) := Fr.below (((below_alloc x65 (.cells #[.int .i64 0, .int .i64 20000, .slice (some ⟨Rp, 0, none⟩) 2 2, .slice ap 1 cp] 45)).alloc (by simp) (.cells #[.int .i64 0, .int .i64 20000, .slice (some ⟨Rq, 0, none⟩) 2 2, .slice aq 1 cq] 45)).alloc (by simp; omega) (.cells #[.int .i64 0, .int .i64 20000, .slice (some ⟨Rr, 0, none⟩) 2 2, .slice ar 1 cr] 45)) _
      have JB : Hid (Below x65.heap.size x65 (((x65.alloc (.cells #[.int .i64 0, .int .i64 20000, .slice (some ⟨Rp, 0, none⟩) 2 2, .slice ap 1 cp] 45)).alloc (.cells #[.int .i64 0, .int .i64 20000, .slice (some ⟨Rq, 0, none⟩) 2 2, .slice aq 1 cq] 45)).alloc (.cells #[.int .i64 0, .int .i64 20000, .slice (some ⟨Rr, 0, none⟩) 2 2, .slice ar 1 cr] 45))) := ((below_alloc x65 (.cells #[.int .i64 0, .int .i64 20000, .slice (some ⟨Rp, 0, none⟩) 2 2, .slice ap 1 cp] 45)).alloc (by simp) (.cells #[.int .i64 0, .int .i64 20000, .slice (some ⟨Rq, 0, none⟩) 2 2, .slice aq 1 cq] 45)).alloc (by simp; omega) (.cells #[.int .i64 0, .int .i64 20000, .slice (some ⟨Rr, 0, none⟩) 2 2, .slice ar 1 cr] 45)
      have JS : Hid (x65.heap.size + 3 = (((x65.alloc (.cells #[.int .i64 0, .int .i64 20000, .slice (some ⟨Rp, 0, none⟩) 2 2, .slice ap 1 cp] 45)).alloc (.cells #[.int .i64 0, .int .i64 20000, .slice (some ⟨Rq, 0, none⟩) 2 2, .slice aq 1 cq] 45)).alloc (.cells #[.int .i64 0, .int .i64 20000, .slice (some ⟨Rr, 0, none⟩) 2 2, .slice ar 1 cr] 45)).heap.size) := by unfold Hid; simp
      have JRq2 : Hid ((((x65.alloc (.cells #[.int .i64 0, .int .i64 20000, .slice (some ⟨Rp, 0, none⟩) 2 2, .slice ap 1 cp] 45)).alloc (.cells #[.int .i64 0, .int .i64 20000, .slice (some ⟨Rq, 0, none⟩) 2 2, .slice aq 1 cq] 45)).alloc (.cells #[.int .i64 0, .int .i64 20000, .slice (some ⟨Rr, 0, none⟩) 2 2, .slice ar 1 cr] 45)).heap[Rq]? = some (.cells #[.int .i64 0, .int .i64 1, .int .i64 0, .int .i64 0, .int .i64 20, .int .i64 5, .int .i64 1, .int .i64 1] 80 (0, 0))) := (JB.out.block _ JLq.out).trans JRq.out
      generalize (((x65.alloc (.cells #[.int .i64 0, .int .i64 20000, .slice (some ⟨Rp, 0, none⟩) 2 2, .slice ap 1 cp] 45)).alloc (.cells #[.int .i64 0, .int .i64 20000, .slice (some ⟨Rq, 0, none⟩) 2 2, .slice aq 1 cq] 45)).alloc (.cells #[.int .i64 0, .int .i64 20000, .slice (some ⟨Rr, 0, none⟩) 2 2, .slice ar 1 cr] 45)) = Y at *
      obtain ⟨i1, hi0, hz0, hz1, hz2⟩ := info_parts Try.infoRule
      go_wp2_with (at_make; refine wpList_make_full _ rfl (.const (.int .i64 5)) (.const (.int .i64 5)) 42 rfl Y.heap.size 80 i1 (.agg #[.int .i64 0, .int .i64 0, .int .i64 0, .int .i64 0]) 4 Try.underlying42 hi0 hz0 hz1 .i64 .i64 5 5 5 rfl rfl rfl rfl (by rw [hz2]; omega) (by unfold maxLen; omega) (Nat.le_refl _) ?_)
      intro mr hown hgrow
      have bY : Below Y.heap.size Y mr := (Below.refl _ _).grown hgrow (Nat.le_refl _) (fun k hk => by cases hk)
      have js := JS.out
      have K7 : Hid (mr.heap[x65.heap.size]? = some (.cells #[.int .i64 0, .int .i64 20000, .slice (some ⟨Rp, 0, none⟩) 2 2, .slice ap 1 cp] 45 (0, 0))) := (bY.block _ (by omega)).trans J7.out
      have K8 : Hid (mr.heap[x65.heap.size + 1]? = some (.cells #[.int .i64 0, .int .i64 20000, .slice (some ⟨Rq, 0, none⟩) 2 2, .slice aq 1 cq] 45 (0, 0))) := (bY.block _ (by omega)).trans J8.out
      have K9 : Hid (mr.heap[x65.heap.size + 1 + 1]? = some (.cells #[.int .i64 0, .int .i64 20000, .slice (some ⟨Rr, 0, none⟩) 2 2, .slice ar 1 cr] 45 (0, 0))) := (bY.block _ (by omega)).trans J9.out
      have KRq : Hid (mr.heap[Rq]? = some (.cells #[.int .i64 0, .int .i64 1, .int .i64 0, .int .i64 0, .int .i64 20, .int .i64 5, .int .i64 1, .int .i64 1] 80 (0, 0))) := (bY.block _ (by have := JLq.out; omega)).trans JRq2.out
      have KF : Hid (Fr (fun q => q = Rq) x65 mr) := JF.out.trans (Fr.below bY _)
      have KL : Hid (mr.ownsRow Y.heap.size 80 4 (.slice (some ⟨Y.heap.size, 0, none⟩) 5 5) 5 (flatL (List.replicate 5 ⟨0, 0, 0, 0⟩))) := own_cast hown rfl (by kernel_rfl)
      clear hown hgrow bY J7 J8 J9 JRq2 JF hi0 hz0 hz1 hz2
      have k2 := cell_of_row _ _ 2 _ _ _ K7.out
      have f2 := frozen_of_row _ _ 2 _ _ K7.out
      go_upto_region 24 with fail
      have L7 : Hid ((mr.setCell ⟨x65.heap.size, 2, none⟩ (.slice (some ⟨Y.heap.size, 0, none⟩) 5 5)).heap[x65.heap.size]? = some (.cells #[.int .i64 0, .int .i64 20000, .slice (some ⟨Y.heap.size, 0, none⟩) 5 5, .slice ap 1 cp] 45 (0, 0))) := by have h := K7.out; unfold Hid; simp [World.setCell, Array.getElem?_modify, h]
      have L8 : Hid ((mr.setCell ⟨x65.heap.size, 2, none⟩ (.slice (some ⟨Y.heap.size, 0, none⟩) 5 5)).heap[x65.heap.size + 1]? = some (.cells #[.int .i64 0, .int .i64 20000, .slice (some ⟨Rq, 0, none⟩) 2 2, .slice aq 1 cq] 45 (0, 0))) := ((Fr.set mr x65.heap.size 2 _).block _ (Array.getElem?_eq_some_iff.1 K8.out).1 (by omega)).trans K8.out
      have L9 : Hid ((mr.setCell ⟨x65.heap.size, 2, none⟩ (.slice (some ⟨Y.heap.size, 0, none⟩) 5 5)).heap[x65.heap.size + 1 + 1]? = some (.cells #[.int .i64 0, .int .i64 20000, .slice (some ⟨Rr, 0, none⟩) 2 2, .slice ar 1 cr] 45 (0, 0))) := ((Fr.set mr x65.heap.size 2 _).block _ (Array.getElem?_eq_some_iff.1 K9.out).1 (by omega)).trans K9.out
      have LRq : Hid ((mr.setCell ⟨x65.heap.size, 2, none⟩ (.slice (some ⟨Y.heap.size, 0, none⟩) 5 5)).heap[Rq]? = some (.cells #[.int .i64 0, .int .i64 1, .int .i64 0, .int .i64 0, .int .i64 20, .int .i64 5, .int .i64 1, .int .i64 1] 80 (0, 0))) := ((Fr.set mr x65.heap.size 2 _).block _ (Array.getElem?_eq_some_iff.1 KRq.out).1 (by have := JLq.out; omega)).trans KRq.out
      have LF : Hid (Fr (fun q => q = Rq) x65 (mr.setCell ⟨x65.heap.size, 2, none⟩ (.slice (some ⟨Y.heap.size, 0, none⟩) 5 5))) := ⟨KF.out.os, KF.out.tape, KF.out.output, by have := KF.out.size; simpa using this, fun q hq he => ((Fr.set mr x65.heap.size 2 _).block q (Nat.lt_of_lt_of_le hq KF.out.size) (by omega)).trans (KF.out.block q hq he)⟩
      have LL1 : Hid ((mr.setCell ⟨x65.heap.size, 2, none⟩ (.slice (some ⟨Y.heap.size, 0, none⟩) 5 5)).ownsRow Y.heap.size 80 4 (.slice (some ⟨Y.heap.size, 0, none⟩) 5 5) 5 (flatL (List.replicate 5 ⟨0, 0, 0, 0⟩))) := own_fr KL.out (Fr.set mr x65.heap.size 2 _) (fun g _ _ hg _ e => by omega)
      clear k2 f2 K7 K8 K9 KRq KF KL
      generalize (mr.setCell ⟨x65.heap.size, 2, none⟩ (.slice (some ⟨Y.heap.size, 0, none⟩) 5 5)) = Z1 at *
      have k2 := cell_of_row _ _ 2 _ _ _ L8.out
      have k1 := cell_of_row _ _ 1 _ _ _ LRq.out
      have f1 := frozen_of_row _ _ 1 _ _ LRq.out
      go_upto_region 25 with fail
      have jl := JLq.out
      have M7 : Hid ((Z1.setCell ⟨Rq, 1, none⟩ (.int .i64 0)).heap[x65.heap.size]? = some (.cells #[.int .i64 0, .int .i64 20000, .slice (some ⟨Y.heap.size, 0, none⟩) 5 5, .slice ap 1 cp] 45 (0, 0))) := ((Fr.set Z1 Rq 1 _).block _ (Array.getElem?_eq_some_iff.1 L7.out).1 (by omega)).trans L7.out
      have M8 : Hid ((Z1.setCell ⟨Rq, 1, none⟩ (.int .i64 0)).heap[x65.heap.size + 1]? = some (.cells #[.int .i64 0, .int .i64 20000, .slice (some ⟨Rq, 0, none⟩) 2 2, .slice aq 1 cq] 45 (0, 0))) := ((Fr.set Z1 Rq 1 _).block _ (Array.getElem?_eq_some_iff.1 L8.out).1 (by omega)).trans L8.out
      have M9 : Hid ((Z1.setCell ⟨Rq, 1, none⟩ (.int .i64 0)).heap[x65.heap.size + 1 + 1]? = some (.cells #[.int .i64 0, .int .i64 20000, .slice (some ⟨Rr, 0, none⟩) 2 2, .slice ar 1 cr] 45 (0, 0))) := ((Fr.set Z1 Rq 1 _).block _ (Array.getElem?_eq_some_iff.1 L9.out).1 (by omega)).trans L9.out
      have MRq : Hid ((Z1.setCell ⟨Rq, 1, none⟩ (.int .i64 0)).heap[Rq]? = some (.cells #[.int .i64 0, .int .i64 0, .int .i64 0, .int .i64 0, .int .i64 20, .int .i64 5, .int .i64 1, .int .i64 1] 80 (0, 0))) := by have h := LRq.out; unfold Hid; simp [World.setCell, Array.getElem?_modify, h]
      have MF : Hid (Fr (fun q => q = Rq) x65 (Z1.setCell ⟨Rq, 1, none⟩ (.int .i64 0))) := LF.out.trans (Fr.set Z1 Rq 1 _)
      have ML : Hid ((Z1.setCell ⟨Rq, 1, none⟩ (.int .i64 0)).ownsRow Y.heap.size 80 4 (.slice (some ⟨Y.heap.size, 0, none⟩) 5 5) 5 (flatL (List.replicate 5 ⟨0, 0, 0, 0⟩))) := own_fr LL1.out (Fr.set Z1 Rq 1 _) (fun g _ _ hg _ e => by omega)
      clear k2 k1 f1 L7 L8 L9 LRq LF LL1
      generalize (Z1.setCell ⟨Rq, 1, none⟩ (.int .i64 0)) = Z2 at *
      go_wp2_with fail
      refine (between_any 5 4 _).mono ?_
      rintro _ Z3 ⟨rfl, hb⟩
      have N7 : Hid (Z3.heap[x65.heap.size]? = some (.cells #[.int .i64 0, .int .i64 20000, .slice (some ⟨Y.heap.size, 0, none⟩) 5 5, .slice ap 1 cp] 45 (0, 0))) := (hb.block _ (Array.getElem?_eq_some_iff.1 M7.out).1).trans M7.out
      have N8 : Hid (Z3.heap[x65.heap.size + 1]? = some (.cells #[.int .i64 0, .int .i64 20000, .slice (some ⟨Rq, 0, none⟩) 2 2, .slice aq 1 cq] 45 (0, 0))) := (hb.block _ (Array.getElem?_eq_some_iff.1 M8.out).1).trans M8.out
      have N9 : Hid (Z3.heap[x65.heap.size + 1 + 1]? = some (.cells #[.int .i64 0, .int .i64 20000, .slice (some ⟨Rr, 0, none⟩) 2 2, .slice ar 1 cr] 45 (0, 0))) := (hb.block _ (Array.getElem?_eq_some_iff.1 M9.out).1).trans M9.out
      have NRq : Hid (Z3.heap[Rq]? = some (.cells #[.int .i64 0, .int .i64 0, .int .i64 0, .int .i64 0, .int .i64 20, .int .i64 5, .int .i64 1, .int .i64 1] 80 (0, 0))) := (hb.block _ (Array.getElem?_eq_some_iff.1 MRq.out).1).trans MRq.out
      have NF : Hid (Fr (fun q => q = Rq) x65 Z3) := MF.out.trans (Fr.below hb _)
      have NL : Hid (Z3.ownsRow Y.heap.size 80 4 (.slice (some ⟨Y.heap.size, 0, none⟩) 5 5) 5 (flatL (List.replicate 5 ⟨0, 0, 0, 0⟩))) := own_fr ML.out (Fr.below hb (fun _ => False)) (fun _ _ _ _ _ h => h)
      clear hb M7 M8 M9 MRq MF ML
      have k0 := cell_of_row _ _ 0 _ _ _ N9.out
      have k1 := cell_of_row _ _ 1 _ _ _ N9.out
      have f0 := frozen_of_row _ _ 0 _ _ N9.out
      have f1 := frozen_of_row _ _ 1 _ _ N9.out
      go_upto_region 26 with fail
      have O7 : Hid (((Z3.setCell ⟨x65.heap.size + 1 + 1, 0, none⟩ (.int .i64 5)).setCell ⟨x65.heap.size + 1 + 1, 1, none⟩ (.int .i64 4)).heap[x65.heap.size]? = some (.cells #[.int .i64 0, .int .i64 20000, .slice (some ⟨Y.heap.size, 0, none⟩) 5 5, .slice ap 1 cp] 45 (0, 0))) := (((Fr.set Z3 (x65.heap.size + 1 + 1) 0 (.int .i64 5)).trans (Fr.set (Z3.setCell ⟨x65.heap.size + 1 + 1, 0, none⟩ (.int .i64 5)) (x65.heap.size + 1 + 1) 1 (.int .i64 4))).block _ (Array.getElem?_eq_some_iff.1 N7.out).1 (by omega)).trans N7.out
      have O8 : Hid (((Z3.setCell ⟨x65.heap.size + 1 + 1, 0, none⟩ (.int .i64 5)).setCell ⟨x65.heap.size + 1 + 1, 1, none⟩ (.int .i64 4)).heap[x65.heap.size + 1]? = some (.cells #[.int .i64 0, .int .i64 20000, .slice (some ⟨Rq, 0, none⟩) 2 2, .slice aq 1 cq] 45 (0, 0))) := (((Fr.set Z3 (x65.heap.size + 1 + 1) 0 (.int .i64 5)).trans (Fr.set (Z3.setCell ⟨x65.heap.size + 1 + 1, 0, none⟩ (.int .i64 5)) (x65.heap.size + 1 + 1) 1 (.int .i64 4))).block _ (Array.getElem?_eq_some_iff.1 N8.out).1 (by omega)).trans N8.out
      have O9 : Hid (((Z3.setCell ⟨x65.heap.size + 1 + 1, 0, none⟩ (.int .i64 5)).setCell ⟨x65.heap.size + 1 + 1, 1, none⟩ (.int .i64 4)).heap[x65.heap.size + 1 + 1]? = some (.cells #[.int .i64 5, .int .i64 4, .slice (some ⟨Rr, 0, none⟩) 2 2, .slice ar 1 cr] 45 (0, 0))) := by have h := N9.out; unfold Hid; simp [World.setCell, Array.getElem?_modify, h]
      have ORq : Hid (((Z3.setCell ⟨x65.heap.size + 1 + 1, 0, none⟩ (.int .i64 5)).setCell ⟨x65.heap.size + 1 + 1, 1, none⟩ (.int .i64 4)).heap[Rq]? = some (.cells #[.int .i64 0, .int .i64 0, .int .i64 0, .int .i64 0, .int .i64 20, .int .i64 5, .int .i64 1, .int .i64 1] 80 (0, 0))) := (((Fr.set Z3 (x65.heap.size + 1 + 1) 0 (.int .i64 5)).trans (Fr.set (Z3.setCell ⟨x65.heap.size + 1 + 1, 0, none⟩ (.int .i64 5)) (x65.heap.size + 1 + 1) 1 (.int .i64 4))).block _ (Array.getElem?_eq_some_iff.1 NRq.out).1 (by omega)).trans NRq.out
      have OF : Hid (Fr (fun q => q = Rq) x65 ((Z3.setCell ⟨x65.heap.size + 1 + 1, 0, none⟩ (.int .i64 5)).setCell ⟨x65.heap.size + 1 + 1, 1, none⟩ (.int .i64 4))) := ⟨NF.out.os, NF.out.tape, NF.out.output, by have := NF.out.size; simpa using this, fun q hq he => (((Fr.set Z3 (x65.heap.size + 1 + 1) 0 (.int .i64 5)).trans (Fr.set (Z3.setCell ⟨x65.heap.size + 1 + 1, 0, none⟩ (.int .i64 5)) (x65.heap.size + 1 + 1) 1 (.int .i64 4))).block q (Nat.lt_of_lt_of_le hq NF.out.size) (by omega)).trans (NF.out.block q hq he)⟩
      have OL : Hid (((Z3.setCell ⟨x65.heap.size + 1 + 1, 0, none⟩ (.int .i64 5)).setCell ⟨x65.heap.size + 1 + 1, 1, none⟩ (.int .i64 4)).ownsRow Y.heap.size 80 4 (.slice (some ⟨Y.heap.size, 0, none⟩) 5 5) 5 (flatL (List.replicate 5 ⟨0, 0, 0, 0⟩))) := own_fr NL.out ((Fr.set Z3 (x65.heap.size + 1 + 1) 0 (.int .i64 5)).trans (Fr.set (Z3.setCell ⟨x65.heap.size + 1 + 1, 0, none⟩ (.int .i64 5)) (x65.heap.size + 1 + 1) 1 (.int .i64 4))) (fun g _ _ hg _ e => by omega)
      clear k0 k1 f0 f1 N7 N8 N9 NRq NF NL
      generalize ((Z3.setCell ⟨x65.heap.size + 1 + 1, 0, none⟩ (.int .i64 5)).setCell ⟨x65.heap.size + 1 + 1, 1, none⟩ (.int .i64 4)) = F at *
      have QCp : Hid (CL F (.slice ap 1 cp) [⟨10000, 1, 25⟩]) := own_fr JCp.out OF.out (fun g _ hg _ _ e => own_type_ne JCp.out JRq.out (by decide) (by rw [hg, e]))
      have QCq : Hid (CL F (.slice aq 1 cq) [⟨10000, 1, 25⟩]) := own_fr JCq.out OF.out (fun g _ hg _ _ e => own_type_ne JCq.out JRq.out (by decide) (by rw [hg, e]))
      have QCr : Hid (CL F (.slice ar 1 cr) [⟨10000, 1, 25⟩]) := own_fr HCr.out OF.out (fun g _ hg _ _ e => own_type_ne HCr.out JRq.out (by decide) (by rw [hg, e]))
      have QRr : Hid (F.heap[Rr]? = some (.cells #[.int .i64 0, .int .i64 1, .int .i64 0, .int .i64 0, .int .i64 20, .int .i64 5, .int .i64 1, .int .i64 1] 80 (0, 0))) := (OF.out.block _ (Array.getElem?_eq_some_iff.1 HRr.out).1 JNE.out).trans HRr.out
      have PM : Hid (PersAt F (.agg #[.int .i64 0, .int .i64 20000, .slice (some ⟨Y.heap.size, 0, none⟩) 5 5, .slice ap 1 cp]) nmMany) := ⟨_, _, rfl, LL.at (own_mono OL.out (Nat.zero_le _)), QCp.out.at⟩
      have PB : Hid (PersAt F (.agg #[.int .i64 0, .int .i64 20000, .slice (some ⟨Rq, 0, none⟩) 2 2, .slice aq 1 cq]) nmBase) := by
        have hR := ORq.out
        refine ⟨_, _, rfl, .inr ⟨Rq, 0, 2, rfl, (Array.getElem?_eq_some_iff.1 hR).1, fun j hj => ?_⟩, QCq.out.at⟩
        match j, hj with
        | 0, _ => exact ⟨cell_of_row _ _ 0 _ _ _ hR, cell_of_row _ _ 1 _ _ _ hR, cell_of_row _ _ 2 _ _ _ hR, cell_of_row _ _ 3 _ _ _ hR⟩
        | 1, _ => exact ⟨cell_of_row _ _ 4 _ _ _ hR, cell_of_row _ _ 5 _ _ _ hR, cell_of_row _ _ 6 _ _ _ hR, cell_of_row _ _ 7 _ _ _ hR⟩
        | j + 2, h => exact absurd (show j + 2 < 2 from h) (by omega)
      have PK : Hid (PersAt F (.agg #[.int .i64 5, .int .i64 4, .slice (some ⟨Rr, 0, none⟩) 2 2, .slice ar 1 cr]) nmBack) := by
        have hR := QRr.out
        refine ⟨_, _, rfl, .inr ⟨Rr, 0, 2, rfl, (Array.getElem?_eq_some_iff.1 hR).1, fun j hj => ?_⟩, QCr.out.at⟩
        match j, hj with
        | 0, _ => exact ⟨cell_of_row _ _ 0 _ _ _ hR, cell_of_row _ _ 1 _ _ _ hR, cell_of_row _ _ 2 _ _ _ hR, cell_of_row _ _ 3 _ _ _ hR⟩
        | 1, _ => exact ⟨cell_of_row _ _ 4 _ _ _ hR, cell_of_row _ _ 5 _ _ _ hR, cell_of_row _ _ 6 _ _ _ hR, cell_of_row _ _ 7 _ _ _ hR⟩
        | j + 2, h => exact absurd (show j + 2 < 2 from h) (by omega)
      have PZ : Hid (∀ W, PersAt W (.agg #[.int .i64 0, .int .i64 0, .slice none 0 0, .slice none 0 0]) nmNone) := fun W => ⟨_, _, rfl, .inl ⟨rfl, rfl⟩, .inl ⟨rfl, rfl⟩⟩
      have hFB : Below w.heap.size w F := HB66.out.trans (OF.out.low HB66.out.size (fun k hk e => by have := JGE.out; omega))
      have HFB := Lib.hid hFB
      obtain ⟨nf0, nf1, nf2, nf3⟩ := nm_faults
      clear JRq JCp JCq JLq JNE OF OL QCp QCq QCr QRr ORq HRr HCr jl hFB js JS JB
      have HF0 : Hid (Below F.heap.size F F) := Below.refl _ _
      have hrow := O7.out
      have y0 := cell_of_row _ _ 0 _ _ _ hrow
      have y1 := cell_of_row _ _ 1 _ _ _ hrow
      have y2 := cell_of_row _ _ 2 _ _ _ hrow
      have y3 := cell_of_row _ _ 3 _ _ _ hrow
      go_wp2_with fail
      refine (check_any _ nmMany _ PM.out (by decide) (by decide)).mono ?_
      rw [nf0]
      rintro _ F1 ⟨rfl, hb⟩
      have HF1 : Hid (Below F.heap.size F F1) := hb
      clear hb hrow y0 y1 y2 y3
      have hrow := (HF1.out.block _ (Array.getElem?_eq_some_iff.1 O8.out).1).trans O8.out
      have y0 := cell_of_row _ _ 0 _ _ _ hrow
      have y1 := cell_of_row _ _ 1 _ _ _ hrow
      have y2 := cell_of_row _ _ 2 _ _ _ hrow
      have y3 := cell_of_row _ _ 3 _ _ _ hrow
      go_wp2_with fail
      refine (check_any _ nmBase _ (PB.out.below HF1.out) (by decide) (by decide)).mono ?_
      rw [nf1]
      rintro _ F2 ⟨rfl, hb⟩
      have HF2 : Hid (Below F.heap.size F F2) := below_step HF1.out hb
      clear hb hrow y0 y1 y2 y3
      have hrow := (HF2.out.block _ (Array.getElem?_eq_some_iff.1 O9.out).1).trans O9.out
      have y0 := cell_of_row _ _ 0 _ _ _ hrow
      have y1 := cell_of_row _ _ 1 _ _ _ hrow
      have y2 := cell_of_row _ _ 2 _ _ _ hrow
      have y3 := cell_of_row _ _ 3 _ _ _ hrow
      go_wp2_with fail
      refine (check_any _ nmBack _ (PK.out.below HF2.out) (by decide) (by decide)).mono ?_
      rw [nf2]
      rintro _ F3 ⟨rfl, hb⟩
      have HF3 : Hid (Below F.heap.size F F3) := below_step HF2.out hb
      clear hb hrow y0 y1 y2 y3
      go_wp2_with fail
      refine (check_any _ nmNone _ (PZ.out _) (by decide) (by decide)).mono ?_
      rw [nf3]
      rintro _ F4 ⟨rfl, hb⟩
      have HF4 : Hid (Below F.heap.size F F4) := below_step HF3.out hb
      clear hb
      go_wp2_with fail
      refine (HAW.out _).mono ?_
      rintro _ F5 ⟨rfl, hb⟩
      go_wp2_with fail
      go_ret
      exact ⟨rfl, below_step HFB.out (below_step HF4.out hb)⟩
end Go.Proofs.Ytagfcfojfjkmbaa
