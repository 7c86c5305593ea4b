/- AgeSames: the walk. Printed by gen_r8.py. -/
import Derived.Test.YtagfcfojfjkmbaaR7
import Derived.Test.YtagfcfojfjkmbaaN7
namespace Go.Proofs.Ytagfcfojfjkmbaa
open Go.RowKit Go.Shelf

theorem shared_bad {p q : Pers} (h : p.fault ≠ 0 ∨ q.fault ≠ 0) : sharedL p q = [] ∧ togE p q = sharedE p q := by
  have h1 : sharedL p q = [] := by unfold sharedL; rw [if_neg (by rintro ⟨a, b⟩; rcases h with h | h <;> contradiction)]
  have h2 : sharedE p q ≠ 0 := by unfold sharedE; split <;> rename_i hp <;> rcases h with h | h <;> first | contradiction | assumption
  exact ⟨h1, by unfold togE; rw [if_neg (fun e => h2 e.1)]⟩
theorem shared_good {p q : Pers} (hp : p.fault = 0) (hq : q.fault = 0) : meetP p.born q.born = sharedL p q := by
  rw [meetP_eq (born_has hp).1 (born_has hq).1]; unfold sharedL; rw [if_pos ⟨hp, hq⟩]

attribute [local go_sem ↓] Go.wp_at_zero Go.wp_at_succ
set_option maxRecDepth 100000 in
set_option maxHeartbeats 8000000 in
theorem ageSames_walk (v u : Value) (p q : Pers) (w : World) (h : PersIn w v p) (hq : PersIn w u q) :
    Calls Try.prog 15 #[v, u] w fun e w' => e = .returned (.bool true) ∧ Below w.heap.size w w' := by
  have HP := Lib.hid h
  have HQ := Lib.hid hq
  have HAW := Lib.hid awake_any
  obtain ⟨rv, cv, rfl, h1, h2⟩ := h
  obtain ⟨ra, rc, rfl⟩ := h1.slice
  obtain ⟨ca, cc, rfl⟩ := h2.slice
  obtain ⟨rv, cv, rfl, h1, h2⟩ := hq
  obtain ⟨rb, rd, rfl⟩ := h1.slice
  obtain ⟨cb, cd, rfl⟩ := h2.slice
  clear h1 h2
  have HB0 : Hid (Below w.heap.size w ((w.alloc (.cells #[.int .i64 p.lo, .int .i64 p.hi, .slice ra p.nr rc, .slice ca p.nc cc] 36)).alloc (.cells #[.int .i64 q.lo, .int .i64 q.hi, .slice rb q.nr rd, .slice cb q.nc cd] 36))) := (below_alloc _ _).alloc (by simp) _
  have HKP : Hid (((w.alloc (.cells #[.int .i64 p.lo, .int .i64 p.hi, .slice ra p.nr rc, .slice ca p.nc cc] 36)).alloc (.cells #[.int .i64 q.lo, .int .i64 q.hi, .slice rb q.nr rd, .slice cb q.nc cd] 36)).heap[w.heap.size]? = some (.cells #[.int .i64 p.lo, .int .i64 p.hi, .slice ra p.nr rc, .slice ca p.nc cc] 36 (0, 0))) := ((below_alloc (w.alloc (.cells #[.int .i64 p.lo, .int .i64 p.hi, .slice ra p.nr rc, .slice ca p.nc cc] 36)) (.cells #[.int .i64 q.lo, .int .i64 q.hi, .slice rb q.nr rd, .slice cb q.nc cd] 36)).block _ (by simp)).trans (heap_alloc_new _ _)
  have HKQ : Hid (((w.alloc (.cells #[.int .i64 p.lo, .int .i64 p.hi, .slice ra p.nr rc, .slice ca p.nc cc] 36)).alloc (.cells #[.int .i64 q.lo, .int .i64 q.hi, .slice rb q.nr rd, .slice cb q.nc cd] 36)).heap[w.heap.size + 1]? = some (.cells #[.int .i64 q.lo, .int .i64 q.hi, .slice rb q.nr rd, .slice cb q.nc cd] 36 (0, 0))) := by
    have := heap_alloc_new (w.alloc (.cells #[.int .i64 p.lo, .int .i64 p.hi, .slice ra p.nr rc, .slice ca p.nc cc] 36)) (.cells #[.int .i64 q.lo, .int .i64 q.hi, .slice rb q.nr rd, .slice cb q.nc cd] 36)
    rw [World.size_alloc] at this; exact this
  have HCELLS : Hid (∀ X : World, Below ((w.alloc (.cells #[.int .i64 p.lo, .int .i64 p.hi, .slice ra p.nr rc, .slice ca p.nc cc] 36)).alloc (.cells #[.int .i64 q.lo, .int .i64 q.hi, .slice rb q.nr rd, .slice cb q.nc cd] 36)).heap.size ((w.alloc (.cells #[.int .i64 p.lo, .int .i64 p.hi, .slice ra p.nr rc, .slice ca p.nc cc] 36)).alloc (.cells #[.int .i64 q.lo, .int .i64 q.hi, .slice rb q.nr rd, .slice cb q.nc cd] 36)) X → X.cell? ⟨w.heap.size, 0, none⟩ = some (.int .i64 p.lo) ∧ X.cell? ⟨w.heap.size, 1, none⟩ = some (.int .i64 p.hi) ∧ X.cell? ⟨w.heap.size, 2, none⟩ = some (.slice ra p.nr rc) ∧ X.cell? ⟨w.heap.size, 3, none⟩ = some (.slice ca p.nc cc) ∧ X.cell? ⟨w.heap.size + 1, 0, none⟩ = some (.int .i64 q.lo) ∧ X.cell? ⟨w.heap.size + 1, 1, none⟩ = some (.int .i64 q.hi) ∧ X.cell? ⟨w.heap.size + 1, 2, none⟩ = some (.slice rb q.nr rd) ∧ X.cell? ⟨w.heap.size + 1, 3, none⟩ = some (.slice cb q.nc cd)) := fun X hX => by
    obtain ⟨a0, a1, a2, a3⟩ := cells4 ((hX.block _ (Array.getElem?_eq_some_iff.1 HKP.out).1).trans HKP.out)
    obtain ⟨b0, b1, b2, b3⟩ := cells4 ((hX.block _ (Array.getElem?_eq_some_iff.1 HKQ.out).1).trans HKQ.out)
    exact ⟨a0, a1, a2, a3, b0, b1, b2, b3⟩
  clear HKP HKQ
  cases ht : p.thin
  · go_enter Try.func15, Try.ntmps15
    go_wp2_with (first | (go_at_call_of 25 (Value.agg #[.int .i64 p.lo, .int .i64 p.hi, .slice ra p.nr rc, .slice ca p.nc cc]); refine (thin_any _ p _ (HP.out.below HB0.out)).mono ?_; rintro _ w1 ⟨rfl, hb1⟩) | (go_at_call 20; refine (HAW.out _).mono ?_; rintro _ w20 ⟨rfl, hb20⟩))
    go_ret
    exact ⟨rfl, below_step (below_step HB0.out hb1) hb20⟩
  go_enter Try.func15, Try.ntmps15
  obtain ⟨wz, HWZ⟩ : ∃ wz : World, Hid (wz = (w.alloc (.cells #[.int .i64 p.lo, .int .i64 p.hi, .slice ra p.nr rc, .slice ca p.nc cc] 36)).alloc (.cells #[.int .i64 q.lo, .int .i64 q.hi, .slice rb q.nr rd, .slice cb q.nc cd] 36)) := ⟨_, rfl⟩
  go_wp2_with fail
  refine (thin_any _ p _ (HP.out.below HB0.out)).mono ?_
  rintro _ w1 ⟨rfl, hb1⟩
  have HB1 : Hid (Below w.heap.size w w1) := below_step HB0.out hb1
  obtain ⟨d0, d1, d2, d3, d4, d5, d6, d7⟩ := HCELLS.out w1 hb1
  have HC1 : Hid (∀ X : World, Below w1.heap.size w1 X → X.cell? ⟨w.heap.size, 0, none⟩ = some (.int .i64 p.lo) ∧ X.cell? ⟨w.heap.size, 1, none⟩ = some (.int .i64 p.hi) ∧ X.cell? ⟨w.heap.size, 2, none⟩ = some (.slice ra p.nr rc) ∧ X.cell? ⟨w.heap.size, 3, none⟩ = some (.slice ca p.nc cc) ∧ X.cell? ⟨w.heap.size + 1, 0, none⟩ = some (.int .i64 q.lo) ∧ X.cell? ⟨w.heap.size + 1, 1, none⟩ = some (.int .i64 q.hi) ∧ X.cell? ⟨w.heap.size + 1, 2, none⟩ = some (.slice rb q.nr rd) ∧ X.cell? ⟨w.heap.size + 1, 3, none⟩ = some (.slice cb q.nc cd)) := fun X hX => HCELLS.out X (below_step hb1 hX)
  clear hb1 HCELLS HB0
  cases ht2 : q.thin
  · go_wp2_with (first | (go_at_call_of 25 (Value.agg #[.int .i64 q.lo, .int .i64 q.hi, .slice rb q.nr rd, .slice cb q.nc cd]); refine (thin_any _ q _ (HQ.out.below HB1.out)).mono ?_; rintro _ w2 ⟨rfl, hb2⟩) | (go_at_call 20; refine (HAW.out _).mono ?_; rintro _ w20 ⟨rfl, hb20⟩))
    go_ret
    exact ⟨rfl, below_step (below_step HB1.out hb2) hb20⟩
  obtain ⟨pn1, pn2⟩ := thin_le ht
  obtain ⟨qn1, qn2⟩ := thin_le ht2
  go_wp2_with fail
  refine (thin_any _ q _ (HQ.out.below HB1.out)).mono ?_
  rintro _ w2 ⟨rfl, hb2⟩
  have HPX : Hid (∀ X : World, Below w2.heap.size w2 X → PersIn X (.agg #[.int .i64 p.lo, .int .i64 p.hi, .slice ra p.nr rc, .slice ca p.nc cc]) p) := fun X hX => HP.out.below (below_step HB1.out (below_step hb2 hX))
  have HQX : Hid (∀ X : World, Below w2.heap.size w2 X → PersIn X (.agg #[.int .i64 q.lo, .int .i64 q.hi, .slice rb q.nr rd, .slice cb q.nc cd]) q) := fun X hX => HQ.out.below (below_step HB1.out (below_step hb2 hX))
  have HCELLS : Hid (∀ X : World, Below w2.heap.size w2 X → X.cell? ⟨w.heap.size, 0, none⟩ = some (.int .i64 p.lo) ∧ X.cell? ⟨w.heap.size, 1, none⟩ = some (.int .i64 p.hi) ∧ X.cell? ⟨w.heap.size, 2, none⟩ = some (.slice ra p.nr rc) ∧ X.cell? ⟨w.heap.size, 3, none⟩ = some (.slice ca p.nc cc) ∧ X.cell? ⟨w.heap.size + 1, 0, none⟩ = some (.int .i64 q.lo) ∧ X.cell? ⟨w.heap.size + 1, 1, none⟩ = some (.int .i64 q.hi) ∧ X.cell? ⟨w.heap.size + 1, 2, none⟩ = some (.slice rb q.nr rd) ∧ X.cell? ⟨w.heap.size + 1, 3, none⟩ = some (.slice cb q.nc cd)) := fun X hX => HC1.out X (below_step hb2 hX)
  have HB2w : Hid (Below w.heap.size w w2) := below_step HB1.out hb2
  have HBw2 : Hid (Below w2.heap.size w2 w2) := Below.refl _ _
  clear hb2 HC1 HB1 d0 d1 d2 d3 d4 d5 d6 d7 HP HQ HWZ wz
  obtain ⟨d0, d1, d2, d3, d4, d5, d6, d7⟩ := HCELLS.out _ HBw2.out
  have hsl := sharedL_length p q
  go_wp2_with fail
  have HSB4 : Hid (∀ X : World, Below w2.heap.size w2 X → (X.cell? ⟨w.heap.size, 0, none⟩ = some (.int .i64 p.lo) ∧ X.cell? ⟨w.heap.size, 1, none⟩ = some (.int .i64 p.hi) ∧ X.cell? ⟨w.heap.size, 2, none⟩ = some (.slice ra p.nr rc) ∧ X.cell? ⟨w.heap.size, 3, none⟩ = some (.slice ca p.nc cc) ∧ X.cell? ⟨w.heap.size + 1, 0, none⟩ = some (.int .i64 q.lo) ∧ X.cell? ⟨w.heap.size + 1, 1, none⟩ = some (.int .i64 q.hi) ∧ X.cell? ⟨w.heap.size + 1, 2, none⟩ = some (.slice rb q.nr rd) ∧ X.cell? ⟨w.heap.size + 1, 3, none⟩ = some (.slice cb q.nc cd)) ∧ Below w2.heap.size w2 X) := fun X hX => ⟨HCELLS.out X (below_step HBw2.out hX), hX⟩
  go_region_held3 (fun X => (X.cell? ⟨w.heap.size, 0, none⟩ = some (.int .i64 p.lo) ∧ X.cell? ⟨w.heap.size, 1, none⟩ = some (.int .i64 p.hi) ∧ X.cell? ⟨w.heap.size, 2, none⟩ = some (.slice ra p.nr rc) ∧ X.cell? ⟨w.heap.size, 3, none⟩ = some (.slice ca p.nc cc) ∧ X.cell? ⟨w.heap.size + 1, 0, none⟩ = some (.int .i64 q.lo) ∧ X.cell? ⟨w.heap.size + 1, 1, none⟩ = some (.int .i64 q.hi) ∧ X.cell? ⟨w.heap.size + 1, 2, none⟩ = some (.slice rb q.nr rd) ∧ X.cell? ⟨w.heap.size + 1, 3, none⟩ = some (.slice cb q.nc cd)) ∧ Below w2.heap.size w2 X)
    (first | exact HSB4.out _ ((Below.refl _ _).drew) | (go_split_ands; refine HSB4.out _ (below_step ?_ hbX); assumption) | (go_split_ands; refine HSB4.out _ (below_step ?_ hbY); assumption) | (go_split_ands; refine HSB4.out _ (below_step ?_ hbZ); assumption))
    (first
      | (go_at_call_of 27 (Value.agg #[.int .i64 q.lo, .int .i64 q.hi, .slice rb q.nr rd, .slice cb q.nc cd]); have hh := hpX; clear hh; go_split_ands; refine (person_any _ q _ (HQX.out _ (below_step HBw2.out (by assumption))) (by omega) (by omega)).mono ?_; rintro _ wY ⟨uY, rfl, hpY, hbY⟩)
      | (go_at_call_of 27 (Value.agg #[.int .i64 p.lo, .int .i64 p.hi, .slice ra p.nr rc, .slice ca p.nc cc]); go_split_ands; refine (person_any _ p _ (HPX.out _ (below_step HBw2.out (by assumption))) (by omega) (by omega)).mono ?_; rintro _ wX ⟨uX, rfl, hpX, hbX⟩)
      | (go_at_call 56; refine (same_any uX uY p q _ (hpX.below hbY) hpY (by omega) (by omega) (by omega) (by omega)).mono ?_; rintro _ w4 ⟨rfl, hbZ⟩))
  go_split_ands
  have hbk : Below w2.heap.size w2 w4 := by assumption
  have HBw4 := Lib.hid (below_step HBw2.out hbk)
  clear hbX hbY hbZ hpX hpY hbk HSB4

  clear d0 d1 d2 d3 d4 d5 d6 d7
  obtain ⟨d0, d1, d2, d3, d4, d5, d6, d7⟩ := HCELLS.out _ HBw4.out
  go_wp2_with fail
  have HSB5 : Hid (∀ X : World, Below w4.heap.size w4 X → (X.cell? ⟨w.heap.size, 0, none⟩ = some (.int .i64 p.lo) ∧ X.cell? ⟨w.heap.size, 1, none⟩ = some (.int .i64 p.hi) ∧ X.cell? ⟨w.heap.size, 2, none⟩ = some (.slice ra p.nr rc) ∧ X.cell? ⟨w.heap.size, 3, none⟩ = some (.slice ca p.nc cc) ∧ X.cell? ⟨w.heap.size + 1, 0, none⟩ = some (.int .i64 q.lo) ∧ X.cell? ⟨w.heap.size + 1, 1, none⟩ = some (.int .i64 q.hi) ∧ X.cell? ⟨w.heap.size + 1, 2, none⟩ = some (.slice rb q.nr rd) ∧ X.cell? ⟨w.heap.size + 1, 3, none⟩ = some (.slice cb q.nc cd)) ∧ Below w4.heap.size w4 X) := fun X hX => ⟨HCELLS.out X (below_step HBw4.out hX), hX⟩
  go_region_held3 (fun X => (X.cell? ⟨w.heap.size, 0, none⟩ = some (.int .i64 p.lo) ∧ X.cell? ⟨w.heap.size, 1, none⟩ = some (.int .i64 p.hi) ∧ X.cell? ⟨w.heap.size, 2, none⟩ = some (.slice ra p.nr rc) ∧ X.cell? ⟨w.heap.size, 3, none⟩ = some (.slice ca p.nc cc) ∧ X.cell? ⟨w.heap.size + 1, 0, none⟩ = some (.int .i64 q.lo) ∧ X.cell? ⟨w.heap.size + 1, 1, none⟩ = some (.int .i64 q.hi) ∧ X.cell? ⟨w.heap.size + 1, 2, none⟩ = some (.slice rb q.nr rd) ∧ X.cell? ⟨w.heap.size + 1, 3, none⟩ = some (.slice cb q.nc cd)) ∧ Below w4.heap.size w4 X)
    (first | exact HSB5.out _ ((Below.refl _ _).drew) | (go_split_ands; refine HSB5.out _ (below_step ?_ hbX); assumption) | (go_split_ands; refine HSB5.out _ (below_step ?_ hbY); assumption) | (go_split_ands; refine HSB5.out _ (below_step ?_ hbZ); assumption))
    (first
      | (go_at_call_of 27 (Value.agg #[.int .i64 q.lo, .int .i64 q.hi, .slice rb q.nr rd, .slice cb q.nc cd]); have hh := hpX; clear hh; go_split_ands; refine (person_any _ q _ (HQX.out _ (below_step HBw4.out (by assumption))) (by omega) (by omega)).mono ?_; rintro _ wY ⟨uY, rfl, hpY, hbY⟩)
      | (go_at_call_of 27 (Value.agg #[.int .i64 p.lo, .int .i64 p.hi, .slice ra p.nr rc, .slice ca p.nc cc]); go_split_ands; refine (person_any _ p _ (HPX.out _ (below_step HBw4.out (by assumption))) (by omega) (by omega)).mono ?_; rintro _ wX ⟨uX, rfl, hpX, hbX⟩)
      | (go_at_call 57; refine (together_any uX uY p q _ (hpX.below hbY) hpY (by omega) (by omega) (by omega) (by omega)).mono ?_; rintro _ w5 ⟨v5, rfl, hr5, hbZ⟩))
  go_split_ands
  have hbk : Below w4.heap.size w4 w5 := by assumption
  have HBw5 := Lib.hid (below_step HBw4.out hbk)
  obtain ⟨a5, c5, rfl⟩ := hr5.slice
  have HR5 := Lib.hid hr5.rg
  clear hr5 hbX hbY hbZ hpX hpY hbk HSB5

  clear d0 d1 d2 d3 d4 d5 d6 d7
  obtain ⟨d0, d1, d2, d3, d4, d5, d6, d7⟩ := HCELLS.out _ HBw5.out
  go_wp2_with fail
  refine (fault_any _ p _ (HPX.out _ HBw5.out)).mono ?_
  rintro _ w6 ⟨rfl, hb6⟩
  have HBw6 := Lib.hid (below_step HBw5.out hb6)
  have HR6 := Lib.hid (HR5.out.kept hb6)
  clear hb6
  by_cases hp : p.fault = 0
  · have hp0 : (p.fault == 0) = true := by simp [hp]
    have HPF := Lib.hid hp; clear hp
    clear d0 d1 d2 d3 d4 d5 d6 d7
    obtain ⟨d0, d1, d2, d3, d4, d5, d6, d7⟩ := HCELLS.out _ HBw6.out
    go_wp2_with fail
    refine (fault_any _ q _ (HQX.out _ HBw6.out)).mono ?_
    rintro _ w7 ⟨rfl, hb7⟩
    have HBw7 := Lib.hid (below_step HBw6.out hb7)
    have HR7 := Lib.hid (HR6.out.kept hb7)
    clear hb7
    by_cases hq : q.fault = 0
    · have hq0 : (q.fault != 0) = false := by simp [hq]
      have HQF := Lib.hid hq; clear hq
      have HSE : Hid (sharedE p q = 0) := (shared_has HPF.out HQF.out).1
      have HTE : Hid (togE p q = if sharedL p q = [] then 9 else 0) := togE_of HPF.out HQF.out
      have HML : Hid (meetP p.born q.born = sharedL p q) := shared_good HPF.out HQF.out
      have hbl1 := born_length p
      have hbl2 := born_length q
      clear d0 d1 d2 d3 d4 d5 d6 d7
      obtain ⟨d0, d1, d2, d3, d4, d5, d6, d7⟩ := HCELLS.out _ HBw7.out
      rw [HSE.out]
      go_wp2_with fail
      have HSB10 : Hid (∀ X : World, Below w7.heap.size w7 X → (X.cell? ⟨w.heap.size, 0, none⟩ = some (.int .i64 p.lo) ∧ X.cell? ⟨w.heap.size, 1, none⟩ = some (.int .i64 p.hi) ∧ X.cell? ⟨w.heap.size, 2, none⟩ = some (.slice ra p.nr rc) ∧ X.cell? ⟨w.heap.size, 3, none⟩ = some (.slice ca p.nc cc) ∧ X.cell? ⟨w.heap.size + 1, 0, none⟩ = some (.int .i64 q.lo) ∧ X.cell? ⟨w.heap.size + 1, 1, none⟩ = some (.int .i64 q.hi) ∧ X.cell? ⟨w.heap.size + 1, 2, none⟩ = some (.slice rb q.nr rd) ∧ X.cell? ⟨w.heap.size + 1, 3, none⟩ = some (.slice cb q.nc cd)) ∧ Below w7.heap.size w7 X) := fun X hX => ⟨HCELLS.out X (below_step HBw7.out hX), hX⟩
      go_region_held3 (fun X => (X.cell? ⟨w.heap.size, 0, none⟩ = some (.int .i64 p.lo) ∧ X.cell? ⟨w.heap.size, 1, none⟩ = some (.int .i64 p.hi) ∧ X.cell? ⟨w.heap.size, 2, none⟩ = some (.slice ra p.nr rc) ∧ X.cell? ⟨w.heap.size, 3, none⟩ = some (.slice ca p.nc cc) ∧ X.cell? ⟨w.heap.size + 1, 0, none⟩ = some (.int .i64 q.lo) ∧ X.cell? ⟨w.heap.size + 1, 1, none⟩ = some (.int .i64 q.hi) ∧ X.cell? ⟨w.heap.size + 1, 2, none⟩ = some (.slice rb q.nr rd) ∧ X.cell? ⟨w.heap.size + 1, 3, none⟩ = some (.slice cb q.nc cd)) ∧ Below w7.heap.size w7 X)
        (first | exact HSB10.out _ ((Below.refl _ _).drew) | (go_split_ands; refine HSB10.out _ (below_step ?_ hbX); assumption) | (go_split_ands; refine HSB10.out _ (below_step ?_ hbY); assumption) | (go_split_ands; refine HSB10.out _ (below_step ?_ hbZ); assumption))
        (first
          | (go_at_call_of 30 (Value.agg #[.int .i64 q.lo, .int .i64 q.hi, .slice rb q.nr rd, .slice cb q.nc cd]); have hh := hpX; clear hh; go_split_ands; refine (refBirths_any _ q _ (HQX.out _ (below_step HBw7.out (by assumption))) HQF.out).mono ?_; rintro _ wY ⟨uY, rfl, hpY, hbY⟩)
          | (go_at_call_of 30 (Value.agg #[.int .i64 p.lo, .int .i64 p.hi, .slice ra p.nr rc, .slice ca p.nc cc]); go_split_ands; refine (refBirths_any _ p _ (HPX.out _ (below_step HBw7.out (by assumption))) HPF.out).mono ?_; rintro _ wX ⟨uX, rfl, hpX, hbX⟩)
          | (go_at_call 58; refine (refMeet_any uX uY p.born q.born _ (hpX.kept hbY) hpY (by omega) (by omega)).mono ?_; rintro _ w10 ⟨v10, rfl, hr10, hbZ⟩))
      go_split_ands
      have hbk : Below w7.heap.size w7 w10 := by assumption
      have HBw10 := Lib.hid (below_step HBw7.out hbk)
      rw [HML.out] at hr10
      obtain ⟨a10, c10, rfl⟩ := hr10.slice
      have HR10 := Lib.hid hr10
      have HRA := Lib.hid (HR7.out.kept hbk)
      clear hr10 hbX hbY hbZ hpX hpY hbk HSB10
      have HRS := Lib.hid (ranges_same _ _ (sharedL p q) _ HRA.out HR10.out (by omega))
      clear d0 d1 d2 d3 d4 d5 d6 d7
      by_cases hl : sharedL p q = []
      · rw [HTE.out, if_pos hl, hl]
        go_wp2_with (go_at_call 20; refine (HAW.out _).mono ?_; rintro _ w20 ⟨rfl, hb20⟩)
        go_ret
        exact ⟨rfl, below_step HB2w.out (below_step HBw10.out hb20)⟩
      · rw [HTE.out, if_neg hl]
        have hlp : 0 < (sharedL p q).length := List.length_pos_iff.2 hl
        have hl0 : (((sharedL p q).length : Int) == 0) = false := by rw [beq_eq_false_iff_ne]; omega
        have hl1 : decide (0 < (sharedL p q).length) = true := decide_eq_true hlp
        have hl2 : decide ((0 : Int) < ((sharedL p q).length : Int)) = true := decide_eq_true (by omega)
        rw [hl1]
        go_wp2_with (first | (go_at_call 32; refine HRS.out.mono ?_; rintro _ w11 ⟨rfl, hb11⟩) | (go_at_call 20; refine (HAW.out _).mono ?_; rintro _ w20 ⟨rfl, hb20⟩))
        go_ret
        exact ⟨rfl, below_step HB2w.out (below_step HBw10.out (below_step hb11 hb20))⟩
    · have hq1 : (q.fault != 0) = true := by simp [hq]
      have hse : sharedE p q = q.fault := by unfold sharedE; rw [if_pos HPF.out]
      have hnz := hq
      clear d0 d1 d2 d3 d4 d5 d6 d7
      have HSL : Hid (sharedL p q = []) := (shared_bad (.inr hq)).1
      have HTE : Hid (togE p q = q.fault) := (shared_bad (.inr hq)).2.trans hse
      have hff : (q.fault == q.fault) = true := by simp
      have hff0 : (q.fault == 0) = false := by simp [hnz]
      rw [HSL.out, HTE.out, hse]
      clear hse hnz
      go_wp2_with (go_at_call 20; refine (HAW.out _).mono ?_; rintro _ w20 ⟨rfl, hb20⟩)
      go_ret
      exact ⟨rfl, below_step HB2w.out (below_step HBw7.out hb20)⟩

  · have hp1 : (p.fault != 0) = true := by simp [hp]
    have hp0 : (p.fault == 0) = false := by simp [hp]
    have hse : sharedE p q = p.fault := by unfold sharedE; rw [if_neg hp]
    have hnz := hp
    clear d0 d1 d2 d3 d4 d5 d6 d7
    have HSL : Hid (sharedL p q = []) := (shared_bad (.inl hp)).1
    have HTE : Hid (togE p q = p.fault) := (shared_bad (.inl hp)).2.trans hse
    have hff : (p.fault == p.fault) = true := by simp
    have hff0 : (p.fault == 0) = false := by simp [hnz]
    rw [HSL.out, HTE.out, hse]
    clear hse hnz
    go_wp2_with (go_at_call 20; refine (HAW.out _).mono ?_; rintro _ w20 ⟨rfl, hb20⟩)
    go_ret
    exact ⟨rfl, below_step HB2w.out (below_step HBw6.out hb20)⟩

end Go.Proofs.Ytagfcfojfjkmbaa
