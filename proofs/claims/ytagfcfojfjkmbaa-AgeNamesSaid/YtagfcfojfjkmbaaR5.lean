/- ranges, of equal lists; AgeBirths: the walk. -/
import Derived.Test.YtagfcfojfjkmbaaR4
namespace Go.Proofs.Ytagfcfojfjkmbaa
open Go.RowKit Go.Shelf

set_option maxRecDepth 100000 in
set_option maxHeartbeats 4000000 in
theorem ranges_same (va vb : Value) (l : RL) (w : World) (ha : RgAt w va l) (hb : RgAt w vb l) (hl : l.length ≤ 1000000) :
    Calls Try.prog 32 #[va, vb] w fun e w' => e = .returned (.bool true) ∧ Below w.heap.size w w' := by
  obtain ⟨aa, ca, rfl⟩ := ha.slice
  obtain ⟨ab, cb, rfl⟩ := hb.slice
  have HA := Lib.hid ha; have HB := Lib.hid hb; clear ha hb
  have hll : ((l.length : Int) != (l.length : Int)) = false := by simp
  go_enter Try.func32, Try.ntmps32
  go_wp2
  go_loopw [5] (fun i wr => ∃ k : Nat, k ≤ l.length ∧ i = .int .i64 k ∧ Below w.heap.size w wr) (fun i _ => l.length - (intOf i).toNat)
  case atStart => exact ⟨0, Nat.zero_le _, rfl, Below.refl _ _⟩
  case round =>
    obtain ⟨k, hk, rfl, hbl⟩ := hrel
    have HBL := Lib.hid hbl; clear hbl
    by_cases hlt : k < l.length
    · obtain ⟨ba, oa, rfl, x0, x1⟩ := (HA.out.kept HBL.out).get hlt
      obtain ⟨bb, ob, rfl, y0, y1⟩ := (HB.out.kept HBL.out).get hlt
      generalize (l[k]).1 = lo at *
      generalize (l[k]).2 = hi at *
      have ki : (0 : Int) ≤ (k : Int) := by omega
      have kj : (k : Int) < (l.length : Int) := by omega
      have h1 : (lo != lo) = false := by simp
      have h2 : (hi != hi) = false := by simp
      go_wp2
      go_quiet (fail)
      go_wp2
      go_roundw
      case rel => exact ⟨k + 1, by omega, by go_num, HBL.out.trans (below_drewS _ _ _)⟩
      case measure => simp [intOf]; omega
    · obtain rfl : k = l.length := by omega
      go_wp2
      go_ret
      exact ⟨rfl, HBL.out⟩

theorem born_fault {p : Pers} (h : p.fault ≠ 0) : p.born = [] := by unfold Pers.born; rw [if_neg h]
theorem bErr_fault {p : Pers} (h : p.fault ≠ 0) : p.bErr = p.fault := by rw [p.bErr_eq, if_neg (fun e => h e.1)]
theorem thin_le {p : Pers} (h : p.thin = true) : p.nr ≤ 7 ∧ p.nc ≤ 11 := by
  simp only [Pers.thin, Bool.and_eq_true, decide_eq_true_eq] at h; omega

attribute [local go_sem ↓] Go.wp_at_zero Go.wp_at_succ
set_option maxRecDepth 100000 in
set_option maxHeartbeats 8000000 in
theorem ageBirths_walk (v : Value) (p : Pers) (birth : Int) (w : World) (h : PersIn w v p) :
    Calls Try.prog 10 #[v, .int .i64 birth] w fun e w' => e = .returned (.bool true) ∧ Below w.heap.size w w' := by
  have HP := Lib.hid h
  have HAW := Lib.hid awake_any
  obtain ⟨rv, cv, rfl, h1, h2⟩ := h
  obtain ⟨ra, rc, rfl⟩ := h1.slice
  obtain ⟨ca, cc, rfl⟩ := h2.slice
  clear h1 h2
  have HB0 : Hid (Below w.heap.size w (w.alloc (.cells #[.int .i64 p.lo, .int .i64 p.hi, .slice ra p.nr rc, .slice ca p.nc cc] 36))) := below_alloc _ _
  have HK0 : Hid ((w.alloc (.cells #[.int .i64 p.lo, .int .i64 p.hi, .slice ra p.nr rc, .slice ca p.nc cc] 36)).heap[w.heap.size]? = some (.cells #[.int .i64 p.lo, .int .i64 p.hi, .slice ra p.nr rc, .slice ca p.nc cc] 36 (0, 0))) := heap_alloc_new _ _
  cases ht : p.thin
  · go_enter Try.func10, Try.ntmps10
    go_wp2_with (first | (go_at_call 25; refine (thin_any _ p _ (HP.out.below HB0.out)).mono ?_; rintro _ w1 ⟨rfl, hb1⟩) | (go_at_call 20; refine (HAW.out _).mono ?_; rintro _ w3 ⟨rfl, hb3⟩))
    go_ret
    exact ⟨rfl, below_step (below_step HB0.out hb1) hb3⟩
  obtain ⟨pn1, pn2⟩ := thin_le ht
  have hl1 := born_length p
  go_enter Try.func10, Try.ntmps10
  go_wp2_with fail
  refine (thin_any _ p _ (HP.out.below HB0.out)).mono ?_
  rintro _ w1 ⟨rfl, hb1⟩
  have HK1 : Hid (w1.heap[w.heap.size]? = some (.cells #[.int .i64 p.lo, .int .i64 p.hi, .slice ra p.nr rc, .slice ca p.nc cc] 36 (0, 0))) := (hb1.block _ (by simp)).trans HK0.out
  have hs1 : w.heap.size < w1.heap.size := (Array.getElem?_eq_some_iff.1 HK1.out).1
  have HB1 : Hid (Below w.heap.size w w1) := below_step HB0.out hb1
  have HCELLS : Hid (∀ X : World, Below w1.heap.size w1 X → X.cell? ⟨w.heap.size, 0, none⟩ = some (.int .i64 p.lo) ∧ X.cell? ⟨w.heap.size, 1, none⟩ = some (.int .i64 p.hi) ∧ X.cell? ⟨w.heap.size, 2, none⟩ = some (.slice ra p.nr rc) ∧ X.cell? ⟨w.heap.size, 3, none⟩ = some (.slice ca p.nc cc)) := fun X hX => cells4 ((hX.block _ hs1).trans HK1.out)
  have HPX : Hid (∀ X : World, Below w1.heap.size w1 X → PersIn X (.agg #[.int .i64 p.lo, .int .i64 p.hi, .slice ra p.nr rc, .slice ca p.nc cc]) p) := fun X hX => HP.out.below (below_step HB1.out hX)
  obtain ⟨d0, d1, d2, d3⟩ := HCELLS.out w1 (Below.refl _ _)
  clear hb1 HB0 HK0
  go_wp2_with fail
  refine (person_any _ p _ (HPX.out _ (Below.refl _ _)) (by omega) (by omega)).mono ?_
  rintro _ w2 ⟨u2, rfl, hu2, hb2⟩
  have HU2 := Lib.hid hu2; clear hu2
  go_wp2_with fail
  refine (check_any _ p _ HU2.out (by omega) (by omega)).mono ?_
  rintro _ w3 ⟨rfl, hb3⟩
  have HB3 : Hid (Below w1.heap.size w1 w3) := below_step hb2 hb3
  clear hb2 hb3 d0 d1 d2 d3
  obtain ⟨d0, d1, d2, d3⟩ := HCELLS.out _ HB3.out
  go_wp2_with fail
  refine (person_any _ p _ (HPX.out _ HB3.out) (by omega) (by omega)).mono ?_
  rintro _ w4 ⟨u4, rfl, hu4, hb4⟩
  have HU4 := Lib.hid hu4; clear hu4
  go_wp2_with fail
  refine (Births_any _ p _ HU4.out (by omega) (by omega)).mono ?_
  rintro _ w5 ⟨v5, rfl, hr5, hb5⟩
  have HB5 : Hid (Below w1.heap.size w1 w5) := below_step HB3.out (below_step hb4 hb5)
  have HR5 := Lib.hid hr5.rg
  clear hb4 hb5 hr5 d0 d1 d2 d3
  obtain ⟨d0, d1, d2, d3⟩ := HCELLS.out _ HB5.out
  go_wp2_with fail
  refine (person_any _ p _ (HPX.out _ HB5.out) (by omega) (by omega)).mono ?_
  rintro _ w6 ⟨u6, rfl, hu6, hb6⟩
  have HU6 := Lib.hid hu6; clear hu6
  go_wp2_with fail
  refine (prove_any _ p birth _ HU6.out (by omega) (by omega)).mono ?_
  rintro _ w7 ⟨rfl, hb7⟩
  have HB57 : Hid (Below w5.heap.size w5 w7) := below_step hb6 hb7
  have HB7 : Hid (Below w1.heap.size w1 w7) := below_step HB5.out HB57.out
  clear hb6 hb7 d0 d1 d2 d3
  obtain ⟨d0, d1, d2, d3⟩ := HCELLS.out _ HB7.out
  go_wp2_with fail
  refine (fault_any _ p _ (HPX.out _ HB7.out)).mono ?_
  rintro _ w8 ⟨rfl, hb8⟩
  have HB58 : Hid (Below w5.heap.size w5 w8) := below_step HB57.out hb8
  have HB8 : Hid (Below w1.heap.size w1 w8) := below_step HB7.out hb8
  clear hb8 d0 d1 d2 d3
  have hff : (p.fault != p.fault) = false := by simp
  by_cases hf : p.fault = 0
  · have hf0 : (p.fault == 0) = true := by simp [hf]
    have HPF := Lib.hid hf
    have HBE : Hid (p.bErr = if p.born = [] then 9 else 0) := bErr_of hf
    obtain ⟨d0, d1, d2, d3⟩ := HCELLS.out _ HB8.out
    clear hf
    have hhh : (hasR p.born birth != hasR p.born birth) = false := by simp
    go_wp2_with fail
    clear d0 d1 d2 d3
    have HSB : Hid (∀ X : World, Below w8.heap.size w8 X → (X.cell? ⟨w.heap.size, 0, none⟩ = some (.int .i64 p.lo) ∧ X.cell? ⟨w.heap.size, 1, none⟩ = some (.int .i64 p.hi) ∧ X.cell? ⟨w.heap.size, 2, none⟩ = some (.slice ra p.nr rc) ∧ X.cell? ⟨w.heap.size, 3, none⟩ = some (.slice ca p.nc cc)) ∧ Below w8.heap.size w8 X) := fun X hX => ⟨HCELLS.out X (below_step HB8.out hX), hX⟩
    go_region_held3 (fun X => (X.cell? ⟨w.heap.size, 0, none⟩ = some (.int .i64 p.lo) ∧ X.cell? ⟨w.heap.size, 1, none⟩ = some (.int .i64 p.hi) ∧ X.cell? ⟨w.heap.size, 2, none⟩ = some (.slice ra p.nr rc) ∧ X.cell? ⟨w.heap.size, 3, none⟩ = some (.slice ca p.nc cc)) ∧ Below w8.heap.size w8 X)
      (first | exact HSB.out _ ((Below.refl _ _).drew) | (go_split_ands; refine HSB.out _ (below_step ?_ hbX); assumption) | (go_split_ands; refine HSB.out _ (below_step ?_ hbY); assumption))
      (first
        | (go_at_call 45; go_split_ands; refine (refAges_any _ p _ (HPX.out _ (below_step HB8.out (by assumption))) HPF.out).mono ?_; rintro _ wX ⟨uX, rfl, hfX, hbX⟩)
        | (go_at_call 44; go_split_ands; refine (possible_any _ _ p birth _ (HPX.out _ (below_step HB8.out (by assumption))) HPF.out hfX).mono ?_; rintro _ wY ⟨rfl, hbY⟩))
    go_split_ands
    have hbk : Below w8.heap.size w8 wY := by assumption
    have HB59 : Hid (Below w5.heap.size w5 wY) := below_step HB58.out hbk
    have HB9 : Hid (Below w1.heap.size w1 wY) := below_step HB8.out hbk
    clear hbX hbY hbk hfX
    obtain ⟨d0, d1, d2, d3⟩ := HCELLS.out _ HB9.out
    go_wp2_with fail
    refine (refBirths_any _ p _ (HPX.out _ HB9.out) HPF.out).mono ?_
    rintro _ w10 ⟨v10, rfl, hr10, hb10⟩
    have HRA := Lib.hid (HR5.out.kept (below_step HB59.out hb10))
    have HRB := Lib.hid hr10
    obtain ⟨a10, c10, rfl⟩ := hr10.slice
    have HB10 : Hid (Below w1.heap.size w1 w10) := below_step HB9.out hb10
    have HRS := Lib.hid (ranges_same _ _ p.born w10 HRA.out HRB.out (by omega))
    clear hr10 hb10 d0 d1 d2 d3
    by_cases hb : p.born = []
    · have hz : ((p.born.length : Int) == 0) = true := by rw [hb]; rfl
      have hbe : p.bErr = 9 := by rw [HBE.out, if_pos hb]
      rw [hbe]
      clear hb hbe
      go_wp2_with (first | (go_at_call 32; refine HRS.out.mono ?_; rintro _ w11 ⟨rfl, hb11⟩) | (go_at_call 20; refine (HAW.out _).mono ?_; rintro _ w12 ⟨rfl, hb12⟩))
      go_ret
      exact ⟨rfl, below_step (below_step (below_step HB1.out HB10.out) hb11) hb12⟩
    · have hz : ((p.born.length : Int) == 0) = false := by
        rw [beq_eq_false_iff_ne]; intro e; exact hb (List.eq_nil_of_length_eq_zero (by omega))
      have hbe : p.bErr = 0 := by rw [HBE.out, if_neg hb]
      have HFZ : Hid (p.fault = 0) := HPF.out
      rw [hbe]
      have hff0 : ((0 : Int) == p.fault) = true := by rw [HPF.out]; rfl
      clear hb hbe
      go_wp2_with (first | (go_at_call 32; refine HRS.out.mono ?_; rintro _ w11 ⟨rfl, hb11⟩) | (go_at_call 20; refine (HAW.out _).mono ?_; rintro _ w12 ⟨rfl, hb12⟩))
      go_ret
      exact ⟨rfl, below_step (below_step (below_step HB1.out HB10.out) hb11) hb12⟩
  · have hf0 : (p.fault == 0) = false := by simp [hf]
    have hbn := born_fault hf
    have hbe := bErr_fault hf
    have hpp : (p.fault == p.fault) = true := by simp
    have HRA : Hid (RgAt w8 v5 p.born) := HR5.out.kept HB58.out
    rw [hbn] at HRA ⊢
    rw [hbe]
    have HRN : Hid (RgAt w8 (.slice none 0 0) []) := .inl ⟨rfl, _, _, rfl⟩
    have HRS := Lib.hid (ranges_same _ _ [] w8 HRA.out HRN.out (by simp))
    have hhn : hasR [] birth = false := rfl
    clear hf hbn hbe
    go_wp2_with (first | (go_at_call 32; refine HRS.out.mono ?_; rintro _ w11 ⟨rfl, hb11⟩) | (go_at_call 20; refine (HAW.out _).mono ?_; rintro _ w12 ⟨rfl, hb12⟩))
    go_ret
    exact ⟨rfl, below_step (below_step (below_step HB1.out HB8.out) hb11) hb12⟩
end Go.Proofs.Ytagfcfojfjkmbaa
