/- AgeSelf: the walk. -/
import Derived.Test.YtagfcfojfjkmbaaN7
import Derived.Test.YtagfcfojfjkmbaaK1
namespace Go.Proofs.Ytagfcfojfjkmbaa
open Go.RowKit Go.Shelf

theorem both_person {W : World} {p q : Pers} {base : Nat} {v0 v1 rv cv v2 : Value} (h : PersIn W (.agg #[v0, v1, rv, cv]) p) (ho : W.ownsRow base 59 3 v2 (p.nc + q.nc) (flatC (rcTo p.C p.nc ++ rcTo q.C q.nc))) :
    ∃ x : Pers, Hid (PersIn W (.agg #[.int .i64 (max p.lo q.lo), .int .i64 (min p.hi q.hi), rv, v2]) x) ∧ Hid (x.BothOf p q) := by
  obtain ⟨rv', cv', e, h1, h2⟩ := h
  simp only [Value.agg.injEq, Array.mk.injEq, List.cons.injEq, and_true] at e
  obtain ⟨_, _, rfl, rfl⟩ := e
  have hl : (rcTo p.C p.nc ++ rcTo q.C q.nc).length = p.nc + q.nc := by rw [List.length_append, rcTo_length, rcTo_length]
  have hc : CR W base v2 (rcTo p.C p.nc ++ rcTo q.C q.nc) := by unfold CR; rw [hl]; exact ho
  have hin := hc.in
  rw [hl] at hin
  refine ⟨⟨max p.lo q.lo, min p.hi q.hi, p.nr, p.R, p.nc + q.nc, fun j => (rcTo p.C p.nc ++ rcTo q.C q.nc).getD j ⟨0, 0, 0⟩⟩, ⟨rv, v2, rfl, h1, hin⟩, ⟨rfl, rfl, rfl, rfl, rfl, fun j hj => ?_, fun j hj => ?_⟩⟩
  · show (rcTo p.C p.nc ++ rcTo q.C q.nc).getD j ⟨0, 0, 0⟩ = p.C j
    rw [List.getD_eq_getElem?_getD, List.getElem?_append_left (by rw [rcTo_length]; exact hj)]
    simp [rcTo, hj]
  · show (rcTo p.C p.nc ++ rcTo q.C q.nc).getD (p.nc + j) ⟨0, 0, 0⟩ = q.C j
    rw [List.getD_eq_getElem?_getD, List.getElem?_append_right (by rw [rcTo_length]; omega), rcTo_length]
    simp [rcTo, hj]

attribute [local go_sem ↓] Go.wp_at_zero Go.wp_at_succ
set_option maxRecDepth 100000 in
set_option maxHeartbeats 16000000 in
theorem ageSelf_walk (v sv : Value) (p q : Pers) (w : World) (h : PersIn w v p) (hq : RcsIn w sv q.nc q.C) (hR : q.R = p.R) (hnr : q.nr = p.nr) :
    Calls Try.prog 16 #[v, sv, .agg #[.int .i64 q.lo, .int .i64 q.hi]] w fun e w' => e = .returned (.bool true) ∧ Below w.heap.size w w' := by
  have HP := Lib.hid h
  have HAW := Lib.hid awake_any
  obtain ⟨rv, cv, rfl, h1, h2⟩ := h
  obtain ⟨ra, rc, rfl⟩ := h1.slice
  obtain ⟨ca, cc, rfl⟩ := h2.slice
  obtain ⟨sa, sc, rfl⟩ := hq.slice
  have HRR := Lib.hid hR
  have HQ : Hid (PersIn w (.agg #[.int .i64 q.lo, .int .i64 q.hi, .slice ra p.nr rc, .slice sa q.nc sc]) q) := ⟨_, _, rfl, by rw [hnr, hR]; exact h1, hq⟩
  have HSP : Hid (∀ X : World, Below w.heap.size w X → Src X ca 3 p.nc (flatC (rcTo p.C p.nc))) := fun X hX => (h2.below hX).src
  have HSQ : Hid (∀ X : World, Below w.heap.size w X → Src X sa 3 q.nc (flatC (rcTo q.C q.nc))) := fun X hX => (hq.below hX).src
  clear h1 h2 hq hR
  obtain ⟨i0, hi0, hz0, hz1, hz2⟩ := info_parts Try.infoRec
  obtain ⟨_, hb3, q0, q1, q2⟩ := alloc3 w (.cells #[.int .i64 p.lo, .int .i64 p.hi, .slice ra p.nr rc, .slice ca p.nc cc] 36) (.cells #[.int .i64 q.lo, .int .i64 q.hi] 32) (.cells #[.int .i64 q.lo, .int .i64 q.hi, .slice ra p.nr rc, .slice sa q.nc sc] 36)
  have HM0 : Hid (MB w (.cells #[.int .i64 p.lo, .int .i64 p.hi, .slice ra p.nr rc, .slice ca p.nc cc] 36 (0, 0)) (.cells #[.int .i64 q.lo, .int .i64 q.hi] 32 (0, 0)) (.cells #[.int .i64 q.lo, .int .i64 q.hi, .slice ra p.nr rc, .slice sa q.nc sc] 36 (0, 0)) (((w.alloc (.cells #[.int .i64 p.lo, .int .i64 p.hi, .slice ra p.nr rc, .slice ca p.nc cc] 36)).alloc (.cells #[.int .i64 q.lo, .int .i64 q.hi] 32)).alloc (.cells #[.int .i64 q.lo, .int .i64 q.hi, .slice ra p.nr rc, .slice sa q.nc sc] 36))) := ⟨q0, q1, q2, hb3⟩
  clear q0 q1 q2 hb3
  cases hp : (p.fault == 0)
  · go_enter Try.func16, Try.ntmps16
    go_wp2_with (first | (go_at_call 36; refine (ready_any _ p _ (HP.out.below HM0.out.2.2.2)).mono ?_; rintro _ w1 ⟨rfl, hb1⟩) | (go_at_call 20; refine (HAW.out _).mono ?_; rintro _ w3 ⟨rfl, hb3⟩))
    go_ret
    exact ⟨rfl, below_step (below_step HM0.out.2.2.2 hb1) hb3⟩
  go_enter Try.func16, Try.ntmps16
  go_wp2_with fail
  refine (ready_any _ p _ (HP.out.below HM0.out.2.2.2)).mono ?_
  rintro _ w1 ⟨rfl, hb1⟩
  have HM1 := Lib.hid (HM0.out.below hb1)
  have HB1 : Hid (Below w.heap.size w w1) := HM1.out.2.2.2
  obtain ⟨d0, d1, d2, d3, d4, d5, d6, d7⟩ := HM1.out.cells
  clear hb1 HM0
  go_wp2_with fail
  refine (ready_any _ q _ (HQ.out.below HB1.out)).mono ?_
  rintro _ w2 ⟨rfl, hb2⟩
  have HMw2 := Lib.hid (HM1.out.below hb2)
  have HBw2 : Hid (Below w.heap.size w w2) := HMw2.out.2.2.2
  clear hb2 HM1 HB1 d0 d1 d2 d3 d4 d5 d6 d7
  cases hqf : (q.fault == 0)
  · go_wp2_with (go_at_call 20; refine (HAW.out _).mono ?_; rintro _ w3 ⟨rfl, hb3⟩)
    go_ret
    exact ⟨rfl, below_step HBw2.out hb3⟩
  · have hpf : p.fault = 0 := by simpa using hp
    have hqf' : q.fault = 0 := by simpa using hqf
    obtain ⟨pn1, pn2, pn3, _⟩ := Pers.ok_facts hpf
    obtain ⟨qn1, qn2, qn3, _⟩ := Pers.ok_facts hqf'
    have HPF := Lib.hid hpf; have HQF := Lib.hid hqf'
    have HPA : Hid (∀ W : World, Below w.heap.size w W → Calls Try.prog 27 #[(.agg #[.int .i64 p.lo, .int .i64 p.hi, .slice ra p.nr rc, .slice ca p.nc cc])] W fun e w' => ∃ u, e = .returned u ∧ PersAt w' u p ∧ Below W.heap.size W w') := fun W hW => person_any _ p W (HP.out.below hW) (by omega) (by omega)
    have HQA : Hid (∀ W : World, Below w.heap.size w W → Calls Try.prog 27 #[(.agg #[.int .i64 q.lo, .int .i64 q.hi, .slice ra p.nr rc, .slice sa q.nc sc])] W fun e w' => ∃ u, e = .returned u ∧ PersAt w' u q ∧ Below W.heap.size W w') := fun W hW => person_any _ q W (HQ.out.below hW) (by omega) (by omega)
    have HE1 : Hid (sharedE p p = 0) := (shared_has hpf hpf).1
    have HE2 : Hid (sharedE p q = 0) := (shared_has hpf hqf').1
    have HE3 : Hid (sharedE q p = 0) := (shared_has hqf' hpf).1
    obtain ⟨b1, HO1, HB1⟩ : ∃ b1, Hid (decide (0 < (sharedL p p).length) = b1) ∧ Hid ((p.bErr == 0) = b1) := ⟨_, rfl, by
      unfold Hid; rw [shared_self hpf, bErr_of hpf]; cases p.born <;> simp⟩
    obtain ⟨b2, HO2, HO3, HB2⟩ : ∃ b2, Hid (decide (0 < (sharedL p q).length) = b2) ∧ Hid (decide (0 < (sharedL q p).length) = b2) ∧ Hid ((togE p q == 0) = b2) := ⟨_, rfl, by unfold Hid; rw [shared_comm hqf' hpf], by
      unfold Hid; rw [togE_of hpf hqf']; cases sharedL p q <;> simp⟩
    clear hpf hqf' hp hqf
    go_wp2_with fail
    have HSB4 : Hid (∀ X : World, Below w2.heap.size w2 X → X.cell? ⟨w.heap.size, 0, none⟩ = some (.int .i64 p.lo) ∧ X.cell? ⟨w.heap.size, 1, none⟩ = some (.int .i64 p.hi) ∧ X.cell? ⟨w.heap.size, 2, none⟩ = some (.slice ra p.nr rc) ∧ X.cell? ⟨w.heap.size, 3, none⟩ = some (.slice ca p.nc cc) ∧ X.cell? ⟨w.heap.size + 1 + 1, 0, none⟩ = some (.int .i64 q.lo) ∧ X.cell? ⟨w.heap.size + 1 + 1, 1, none⟩ = some (.int .i64 q.hi) ∧ X.cell? ⟨w.heap.size + 1 + 1, 2, none⟩ = some (.slice ra p.nr rc) ∧ X.cell? ⟨w.heap.size + 1 + 1, 3, none⟩ = some (.slice sa q.nc sc) ∧ Below w2.heap.size w2 X) := fun X hX => by
      obtain ⟨d0, d1, d2, d3, d4, d5, d6, d7⟩ := (HMw2.out.below hX).cells
      exact ⟨d0, d1, d2, d3, d4, d5, d6, d7, hX⟩
    go_region_held3 (fun X => X.cell? ⟨w.heap.size, 0, none⟩ = some (.int .i64 p.lo) ∧ X.cell? ⟨w.heap.size, 1, none⟩ = some (.int .i64 p.hi) ∧ X.cell? ⟨w.heap.size, 2, none⟩ = some (.slice ra p.nr rc) ∧ X.cell? ⟨w.heap.size, 3, none⟩ = some (.slice ca p.nc cc) ∧ X.cell? ⟨w.heap.size + 1 + 1, 0, none⟩ = some (.int .i64 q.lo) ∧ X.cell? ⟨w.heap.size + 1 + 1, 1, none⟩ = some (.int .i64 q.hi) ∧ X.cell? ⟨w.heap.size + 1 + 1, 2, none⟩ = some (.slice ra p.nr rc) ∧ X.cell? ⟨w.heap.size + 1 + 1, 3, none⟩ = some (.slice sa q.nc sc) ∧ Below w2.heap.size w2 X)
      (first | exact HSB4.out _ ((Below.refl _ _).drew) | (go_split_ands; refine HSB4.out _ (below_step ?_ hbX); assumption) | (go_split_ands; refine HSB4.out _ (below_step ?_ hbY); assumption) | (go_split_ands; refine HSB4.out _ (below_step ?_ hbZ); assumption))
      (first
        | (go_at_call_of 27 (Value.agg #[.int .i64 p.lo, .int .i64 p.hi, .slice ra p.nr rc, .slice ca p.nc cc]); have hh := hpX; clear hh; go_split_ands; refine (HPA.out _ (below_step HBw2.out (by assumption))).mono ?_; rintro _ wY ⟨uY, rfl, hpY, hbY⟩)
        | (go_at_call_of 27 (Value.agg #[.int .i64 p.lo, .int .i64 p.hi, .slice ra p.nr rc, .slice ca p.nc cc]); go_split_ands; refine (HPA.out _ (below_step HBw2.out (by assumption))).mono ?_; rintro _ wX ⟨uX, rfl, hpX, hbX⟩)
        | (go_at_call 56; refine (same_any uX uY p p _ (hpX.below hbY) hpY (by omega) (by omega) (by omega) (by omega)).mono ?_; rintro _ w4 ⟨rfl, hbZ⟩))
    go_split_ands
    have hbk : Below w2.heap.size w2 w4 := by assumption
    have HMw4 := Lib.hid (HMw2.out.below hbk)
    have HBw4 := Lib.hid (below_step HBw2.out hbk)
    rw [HE1.out, HO1.out]
    clear hbX hbY hbZ hpX hpY hbk HSB4
    obtain ⟨d0, d1, d2, d3, d4, d5, d6, d7⟩ := HMw4.out.cells
    go_wp2_with fail
    refine (HPA.out _ HBw4.out).mono ?_
    rintro _ wa ⟨ua, rfl, hpa, hba⟩
    have HUA := Lib.hid hpa
    go_wp2_with fail
    refine (Births_any _ p _ HUA.out (by omega) (by omega)).mono ?_
    rintro _ w5 ⟨v5, rfl, hr5, hb5⟩
    have HMw5 := Lib.hid (HMw4.out.below (below_step hba hb5))
    have HBw5 := Lib.hid (below_step HBw4.out (below_step hba hb5))
    clear d0 d1 d2 d3 d4 d5 d6 d7 hpa hba hb5 hr5
    go_wp2_with fail
    have HSB6 : Hid (∀ X : World, Below w5.heap.size w5 X → X.cell? ⟨w.heap.size, 0, none⟩ = some (.int .i64 p.lo) ∧ X.cell? ⟨w.heap.size, 1, none⟩ = some (.int .i64 p.hi) ∧ X.cell? ⟨w.heap.size, 2, none⟩ = some (.slice ra p.nr rc) ∧ X.cell? ⟨w.heap.size, 3, none⟩ = some (.slice ca p.nc cc) ∧ X.cell? ⟨w.heap.size + 1 + 1, 0, none⟩ = some (.int .i64 q.lo) ∧ X.cell? ⟨w.heap.size + 1 + 1, 1, none⟩ = some (.int .i64 q.hi) ∧ X.cell? ⟨w.heap.size + 1 + 1, 2, none⟩ = some (.slice ra p.nr rc) ∧ X.cell? ⟨w.heap.size + 1 + 1, 3, none⟩ = some (.slice sa q.nc sc) ∧ Below w5.heap.size w5 X) := fun X hX => by
      obtain ⟨d0, d1, d2, d3, d4, d5, d6, d7⟩ := (HMw5.out.below hX).cells
      exact ⟨d0, d1, d2, d3, d4, d5, d6, d7, hX⟩
    go_region_held3 (fun X => X.cell? ⟨w.heap.size, 0, none⟩ = some (.int .i64 p.lo) ∧ X.cell? ⟨w.heap.size, 1, none⟩ = some (.int .i64 p.hi) ∧ X.cell? ⟨w.heap.size, 2, none⟩ = some (.slice ra p.nr rc) ∧ X.cell? ⟨w.heap.size, 3, none⟩ = some (.slice ca p.nc cc) ∧ X.cell? ⟨w.heap.size + 1 + 1, 0, none⟩ = some (.int .i64 q.lo) ∧ X.cell? ⟨w.heap.size + 1 + 1, 1, none⟩ = some (.int .i64 q.hi) ∧ X.cell? ⟨w.heap.size + 1 + 1, 2, none⟩ = some (.slice ra p.nr rc) ∧ X.cell? ⟨w.heap.size + 1 + 1, 3, none⟩ = some (.slice sa q.nc sc) ∧ Below w5.heap.size w5 X)
      (first | exact HSB6.out _ ((Below.refl _ _).drew) | (go_split_ands; refine HSB6.out _ (below_step ?_ hbX); assumption) | (go_split_ands; refine HSB6.out _ (below_step ?_ hbY); assumption) | (go_split_ands; refine HSB6.out _ (below_step ?_ hbZ); assumption))
      (first
        | (go_at_call_of 27 (Value.agg #[.int .i64 q.lo, .int .i64 q.hi, .slice ra p.nr rc, .slice sa q.nc sc]); have hh := hpX; clear hh; go_split_ands; refine (HQA.out _ (below_step HBw5.out (by assumption))).mono ?_; rintro _ wY ⟨uY, rfl, hpY, hbY⟩)
        | (go_at_call_of 27 (Value.agg #[.int .i64 p.lo, .int .i64 p.hi, .slice ra p.nr rc, .slice ca p.nc cc]); go_split_ands; refine (HPA.out _ (below_step HBw5.out (by assumption))).mono ?_; rintro _ wX ⟨uX, rfl, hpX, hbX⟩)
        | (go_at_call 56; refine (same_any uX uY p q _ (hpX.below hbY) hpY (by omega) (by omega) (by omega) (by omega)).mono ?_; rintro _ w6 ⟨rfl, hbZ⟩))
    go_split_ands
    have hbk : Below w5.heap.size w5 w6 := by assumption
    have HMw6 := Lib.hid (HMw5.out.below hbk)
    have HBw6 := Lib.hid (below_step HBw5.out hbk)
    rw [HE2.out, HO2.out]
    clear hbX hbY hbZ hpX hpY hbk HSB6
    go_wp2_with fail
    have HSB7 : Hid (∀ X : World, Below w6.heap.size w6 X → X.cell? ⟨w.heap.size, 0, none⟩ = some (.int .i64 p.lo) ∧ X.cell? ⟨w.heap.size, 1, none⟩ = some (.int .i64 p.hi) ∧ X.cell? ⟨w.heap.size, 2, none⟩ = some (.slice ra p.nr rc) ∧ X.cell? ⟨w.heap.size, 3, none⟩ = some (.slice ca p.nc cc) ∧ X.cell? ⟨w.heap.size + 1 + 1, 0, none⟩ = some (.int .i64 q.lo) ∧ X.cell? ⟨w.heap.size + 1 + 1, 1, none⟩ = some (.int .i64 q.hi) ∧ X.cell? ⟨w.heap.size + 1 + 1, 2, none⟩ = some (.slice ra p.nr rc) ∧ X.cell? ⟨w.heap.size + 1 + 1, 3, none⟩ = some (.slice sa q.nc sc) ∧ Below w6.heap.size w6 X) := fun X hX => by
      obtain ⟨d0, d1, d2, d3, d4, d5, d6, d7⟩ := (HMw6.out.below hX).cells
      exact ⟨d0, d1, d2, d3, d4, d5, d6, d7, hX⟩
    go_region_held3 (fun X => X.cell? ⟨w.heap.size, 0, none⟩ = some (.int .i64 p.lo) ∧ X.cell? ⟨w.heap.size, 1, none⟩ = some (.int .i64 p.hi) ∧ X.cell? ⟨w.heap.size, 2, none⟩ = some (.slice ra p.nr rc) ∧ X.cell? ⟨w.heap.size, 3, none⟩ = some (.slice ca p.nc cc) ∧ X.cell? ⟨w.heap.size + 1 + 1, 0, none⟩ = some (.int .i64 q.lo) ∧ X.cell? ⟨w.heap.size + 1 + 1, 1, none⟩ = some (.int .i64 q.hi) ∧ X.cell? ⟨w.heap.size + 1 + 1, 2, none⟩ = some (.slice ra p.nr rc) ∧ X.cell? ⟨w.heap.size + 1 + 1, 3, none⟩ = some (.slice sa q.nc sc) ∧ Below w6.heap.size w6 X)
      (first | exact HSB7.out _ ((Below.refl _ _).drew) | (go_split_ands; refine HSB7.out _ (below_step ?_ hbX); assumption) | (go_split_ands; refine HSB7.out _ (below_step ?_ hbY); assumption) | (go_split_ands; refine HSB7.out _ (below_step ?_ hbZ); assumption))
      (first
        | (go_at_call_of 27 (Value.agg #[.int .i64 p.lo, .int .i64 p.hi, .slice ra p.nr rc, .slice ca p.nc cc]); have hh := hpX; clear hh; go_split_ands; refine (HPA.out _ (below_step HBw6.out (by assumption))).mono ?_; rintro _ wY ⟨uY, rfl, hpY, hbY⟩)
        | (go_at_call_of 27 (Value.agg #[.int .i64 q.lo, .int .i64 q.hi, .slice ra p.nr rc, .slice sa q.nc sc]); go_split_ands; refine (HQA.out _ (below_step HBw6.out (by assumption))).mono ?_; rintro _ wX ⟨uX, rfl, hpX, hbX⟩)
        | (go_at_call 56; refine (same_any uX uY q p _ (hpX.below hbY) hpY (by omega) (by omega) (by omega) (by omega)).mono ?_; rintro _ w7 ⟨rfl, hbZ⟩))
    go_split_ands
    have hbk : Below w6.heap.size w6 w7 := by assumption
    have HMw7 := Lib.hid (HMw6.out.below hbk)
    have HBw7 := Lib.hid (below_step HBw6.out hbk)
    rw [HE3.out, HO3.out]
    clear hbX hbY hbZ hpX hpY hbk HSB7
    go_wp2_with fail
    have HSB8 : Hid (∀ X : World, Below w7.heap.size w7 X → X.cell? ⟨w.heap.size, 0, none⟩ = some (.int .i64 p.lo) ∧ X.cell? ⟨w.heap.size, 1, none⟩ = some (.int .i64 p.hi) ∧ X.cell? ⟨w.heap.size, 2, none⟩ = some (.slice ra p.nr rc) ∧ X.cell? ⟨w.heap.size, 3, none⟩ = some (.slice ca p.nc cc) ∧ X.cell? ⟨w.heap.size + 1 + 1, 0, none⟩ = some (.int .i64 q.lo) ∧ X.cell? ⟨w.heap.size + 1 + 1, 1, none⟩ = some (.int .i64 q.hi) ∧ X.cell? ⟨w.heap.size + 1 + 1, 2, none⟩ = some (.slice ra p.nr rc) ∧ X.cell? ⟨w.heap.size + 1 + 1, 3, none⟩ = some (.slice sa q.nc sc) ∧ Below w7.heap.size w7 X) := fun X hX => by
      obtain ⟨d0, d1, d2, d3, d4, d5, d6, d7⟩ := (HMw7.out.below hX).cells
      exact ⟨d0, d1, d2, d3, d4, d5, d6, d7, hX⟩
    go_region_held3 (fun X => X.cell? ⟨w.heap.size, 0, none⟩ = some (.int .i64 p.lo) ∧ X.cell? ⟨w.heap.size, 1, none⟩ = some (.int .i64 p.hi) ∧ X.cell? ⟨w.heap.size, 2, none⟩ = some (.slice ra p.nr rc) ∧ X.cell? ⟨w.heap.size, 3, none⟩ = some (.slice ca p.nc cc) ∧ X.cell? ⟨w.heap.size + 1 + 1, 0, none⟩ = some (.int .i64 q.lo) ∧ X.cell? ⟨w.heap.size + 1 + 1, 1, none⟩ = some (.int .i64 q.hi) ∧ X.cell? ⟨w.heap.size + 1 + 1, 2, none⟩ = some (.slice ra p.nr rc) ∧ X.cell? ⟨w.heap.size + 1 + 1, 3, none⟩ = some (.slice sa q.nc sc) ∧ Below w7.heap.size w7 X)
      (first | exact HSB8.out _ ((Below.refl _ _).drew) | (go_split_ands; refine HSB8.out _ (below_step ?_ hbX); assumption) | (go_split_ands; refine HSB8.out _ (below_step ?_ hbY); assumption) | (go_split_ands; refine HSB8.out _ (below_step ?_ hbZ); assumption))
      (first
        | (go_at_call_of 27 (Value.agg #[.int .i64 q.lo, .int .i64 q.hi, .slice ra p.nr rc, .slice sa q.nc sc]); have hh := hpX; clear hh; go_split_ands; refine (HQA.out _ (below_step HBw7.out (by assumption))).mono ?_; rintro _ wY ⟨uY, rfl, hpY, hbY⟩)
        | (go_at_call_of 27 (Value.agg #[.int .i64 p.lo, .int .i64 p.hi, .slice ra p.nr rc, .slice ca p.nc cc]); go_split_ands; refine (HPA.out _ (below_step HBw7.out (by assumption))).mono ?_; rintro _ wX ⟨uX, rfl, hpX, hbX⟩)
        | (go_at_call 57; refine (together_any uX uY p q _ (hpX.below hbY) hpY (by omega) (by omega) (by omega) (by omega)).mono ?_; rintro _ w8 ⟨v8, rfl, hr8, hbZ⟩))
    go_split_ands
    have hbk : Below w7.heap.size w7 w8 := by assumption
    have HMw8 := Lib.hid (HMw7.out.below hbk)
    have HBw8 := Lib.hid (below_step HBw7.out hbk)
    obtain ⟨a8, c8, rfl⟩ := hr8.slice
    have HR8 := Lib.hid hr8.rg
    clear hr8
    clear hbX hbY hbZ hpX hpY hbk HSB8

    have hb1e := HB1.out
    have hb2e := HB2.out
    have hx1 : (b1 != b1) = false := by simp
    have hx2 : (b2 != b2) = false := by simp
    obtain ⟨wr, rfl⟩ : ∃ wr : World, wr = w8 := ⟨_, rfl⟩
    go_upto_region 11 with fail
    clear hb1e hb2e hx1 hx2
    go_cut [18] (fun s wx => ∃ (B : Nat) (v2 : Value), s = .pointer (some ⟨B, 0, none⟩) ∧ MB w (.cells #[.int .i64 p.lo, .int .i64 p.hi, .slice ra p.nr rc, .slice ca p.nc cc] 36 (0, 0)) (.cells #[.int .i64 q.lo, .int .i64 q.hi] 32 (0, 0)) (.cells #[.int .i64 q.lo, .int .i64 q.hi, .slice ra p.nr rc, .slice sa q.nc sc] 36 (0, 0)) wx ∧ wx.heap[B]? = some (.cells #[.int .i64 (max p.lo q.lo), .int .i64 (min p.hi q.hi), .slice ra p.nr rc, v2] 36 (0, 0)) ∧ wx.ownsRow wr.heap.size 59 3 v2 (p.nc + q.nc) (flatC (rcTo p.C p.nc ++ rcTo q.C q.nc)) ∧ Below wr.heap.size wr wx)
    case first =>
      have HM := Lib.hid (HMw8.out.below ((Below.refl _ _).drew))
      have HL : Hid (Below wr.heap.size wr wr.drew) := (Below.refl _ _).drew
      have HLW : Hid (w.heap.size + 3 ≤ wr.heap.size) := HMw8.out.low
      have HSC : Hid (∀ X, MB w (.cells #[.int .i64 p.lo, .int .i64 p.hi, .slice ra p.nr rc, .slice ca p.nc cc] 36 (0, 0)) (.cells #[.int .i64 q.lo, .int .i64 q.hi] 32 (0, 0)) (.cells #[.int .i64 q.lo, .int .i64 q.hi, .slice ra p.nr rc, .slice sa q.nc sc] 36 (0, 0)) X → X.cell? ⟨w.heap.size, 0, none⟩ = some (.int .i64 p.lo) ∧ X.cell? ⟨w.heap.size, 1, none⟩ = some (.int .i64 p.hi) ∧ X.cell? ⟨w.heap.size, 2, none⟩ = some (.slice ra p.nr rc) ∧ X.cell? ⟨w.heap.size, 3, none⟩ = some (.slice ca p.nc cc) ∧ X.cell? ⟨w.heap.size + 1, 0, none⟩ = some (.int .i64 q.lo) ∧ X.cell? ⟨w.heap.size + 1, 1, none⟩ = some (.int .i64 q.hi)) := fun X hX => by
        obtain ⟨d0, d1, d2, d3, _⟩ := hX.cells
        exact ⟨d0, d1, d2, d3, cell_of_row _ _ 0 _ _ _ hX.2.1, cell_of_row _ _ 1 _ _ _ hX.2.1⟩
      refine wp_region_held_drew (S := fun X => X.cell? ⟨w.heap.size, 0, none⟩ = some (.int .i64 p.lo) ∧ X.cell? ⟨w.heap.size, 1, none⟩ = some (.int .i64 p.hi) ∧ X.cell? ⟨w.heap.size, 2, none⟩ = some (.slice ra p.nr rc) ∧ X.cell? ⟨w.heap.size, 3, none⟩ = some (.slice ca p.nc cc) ∧ X.cell? ⟨w.heap.size + 1, 0, none⟩ = some (.int .i64 q.lo) ∧ X.cell? ⟨w.heap.size + 1, 1, none⟩ = some (.int .i64 q.hi)) (by kernel_rfl) (HSC.out _ HM.out) (fun hS => ?_)
      generalize World.drew wr = X at *
      refine wpAnyH_take (i := 0) (oi := ⟨some 100, Op.fieldAddr 36 (Operand.tmp 3) 0, _, _, _, _⟩) (v := .pointer (some ⟨w.heap.size, 0, none⟩)) rfl (by kernel_rfl) (by kernel_rfl) (by kernel_rfl) (fun _ _ _ h => h) (Or.inl ⟨by rfl, ?_⟩) hS ?_
      · intro W' hSw; (try dsimp only at hSw); obtain ⟨s0, s1, s2, s3, s4, s5⟩ := hSw; go_simp
      try simp only [Act.put, List.setIfInBounds_toArray, List.set_cons_zero, List.set_cons_succ]
      refine wpAnyH_take (i := 1) (oi := ⟨some 101, Op.fieldAddr 32 (Operand.tmp 100) 0, _, _, _, _⟩) (v := .pointer (some ⟨w.heap.size, 0, none⟩)) rfl (by kernel_rfl) (by kernel_rfl) (by kernel_rfl) (fun _ _ _ h => h) (Or.inl ⟨by rfl, ?_⟩) hS ?_
      · intro W' hSw; (try dsimp only at hSw); obtain ⟨s0, s1, s2, s3, s4, s5⟩ := hSw; go_simp
      try simp only [Act.put, List.setIfInBounds_toArray, List.set_cons_zero, List.set_cons_succ]
      refine wpAnyH_take (i := 2) (oi := ⟨some 102, Op.load 3 (Operand.tmp 101), _, _, _, _⟩) (v := .int .i64 p.lo) rfl (by kernel_rfl) (by kernel_rfl) (by kernel_rfl) (fun _ _ _ h => h) (Or.inl ⟨by rfl, ?_⟩) hS ?_
      · intro W' hSw; (try dsimp only at hSw); obtain ⟨s0, s1, s2, s3, s4, s5⟩ := hSw; go_simp
      try simp only [Act.put, List.setIfInBounds_toArray, List.set_cons_zero, List.set_cons_succ]
      refine wpAnyH_take (i := 3) (oi := ⟨some 103, Op.fieldAddr 32 (Operand.tmp 5) 0, _, _, _, _⟩) (v := .pointer (some ⟨w.heap.size + 1, 0, none⟩)) rfl (by kernel_rfl) (by kernel_rfl) (by kernel_rfl) (fun _ _ _ h => h) (Or.inl ⟨by rfl, ?_⟩) hS ?_
      · intro W' hSw; (try dsimp only at hSw); obtain ⟨s0, s1, s2, s3, s4, s5⟩ := hSw; go_simp
      try simp only [Act.put, List.setIfInBounds_toArray, List.set_cons_zero, List.set_cons_succ]
      refine wpAnyH_take (i := 4) (oi := ⟨some 104, Op.load 3 (Operand.tmp 103), _, _, _, _⟩) (v := .int .i64 q.lo) rfl (by kernel_rfl) (by kernel_rfl) (by kernel_rfl) (fun _ _ _ h => h) (Or.inl ⟨by rfl, ?_⟩) hS ?_
      · intro W' hSw; (try dsimp only at hSw); obtain ⟨s0, s1, s2, s3, s4, s5⟩ := hSw; go_simp
      try simp only [Act.put, List.setIfInBounds_toArray, List.set_cons_zero, List.set_cons_succ]
      refine wpAnyH_take (i := 5) (oi := ⟨some 105, Op.call { callee := Callee.builtin Builtin.max, args := #[Operand.tmp 102, Operand.tmp 104], argTypes := #[3, 3] }, _, _, _, _⟩) (v := .int .i64 (max p.lo q.lo)) rfl (by kernel_rfl) (by kernel_rfl) (by kernel_rfl) (fun _ _ _ h => h) (Or.inl ⟨by rfl, ?_⟩) hS ?_
      · intro W' hSw; (try dsimp only at hSw); obtain ⟨s0, s1, s2, s3, s4, s5⟩ := hSw; go_simp; split <;> omega
      try simp only [Act.put, List.setIfInBounds_toArray, List.set_cons_zero, List.set_cons_succ]
      refine wpAnyH_take (i := 6) (oi := ⟨some 106, Op.fieldAddr 36 (Operand.tmp 3) 0, _, _, _, _⟩) (v := .pointer (some ⟨w.heap.size, 0, none⟩)) rfl (by kernel_rfl) (by kernel_rfl) (by kernel_rfl) (fun _ _ _ h => h) (Or.inl ⟨by rfl, ?_⟩) hS ?_
      · intro W' hSw; (try dsimp only at hSw); obtain ⟨s0, s1, s2, s3, s4, s5⟩ := hSw; go_simp
      try simp only [Act.put, List.setIfInBounds_toArray, List.set_cons_zero, List.set_cons_succ]
      refine wpAnyH_take (i := 7) (oi := ⟨some 107, Op.fieldAddr 32 (Operand.tmp 106) 1, _, _, _, _⟩) (v := .pointer (some ⟨w.heap.size, 1, none⟩)) rfl (by kernel_rfl) (by kernel_rfl) (by kernel_rfl) (fun _ _ _ h => h) (Or.inl ⟨by rfl, ?_⟩) hS ?_
      · intro W' hSw; (try dsimp only at hSw); obtain ⟨s0, s1, s2, s3, s4, s5⟩ := hSw; go_simp
      try simp only [Act.put, List.setIfInBounds_toArray, List.set_cons_zero, List.set_cons_succ]
      refine wpAnyH_take (i := 8) (oi := ⟨some 108, Op.load 3 (Operand.tmp 107), _, _, _, _⟩) (v := .int .i64 p.hi) rfl (by kernel_rfl) (by kernel_rfl) (by kernel_rfl) (fun _ _ _ h => h) (Or.inl ⟨by rfl, ?_⟩) hS ?_
      · intro W' hSw; (try dsimp only at hSw); obtain ⟨s0, s1, s2, s3, s4, s5⟩ := hSw; go_simp
      try simp only [Act.put, List.setIfInBounds_toArray, List.set_cons_zero, List.set_cons_succ]
      refine wpAnyH_take (i := 9) (oi := ⟨some 109, Op.fieldAddr 32 (Operand.tmp 5) 1, _, _, _, _⟩) (v := .pointer (some ⟨w.heap.size + 1, 1, none⟩)) rfl (by kernel_rfl) (by kernel_rfl) (by kernel_rfl) (fun _ _ _ h => h) (Or.inl ⟨by rfl, ?_⟩) hS ?_
      · intro W' hSw; (try dsimp only at hSw); obtain ⟨s0, s1, s2, s3, s4, s5⟩ := hSw; go_simp
      try simp only [Act.put, List.setIfInBounds_toArray, List.set_cons_zero, List.set_cons_succ]
      refine wpAnyH_take (i := 10) (oi := ⟨some 110, Op.load 3 (Operand.tmp 109), _, _, _, _⟩) (v := .int .i64 q.hi) rfl (by kernel_rfl) (by kernel_rfl) (by kernel_rfl) (fun _ _ _ h => h) (Or.inl ⟨by rfl, ?_⟩) hS ?_
      · intro W' hSw; (try dsimp only at hSw); obtain ⟨s0, s1, s2, s3, s4, s5⟩ := hSw; go_simp
      try simp only [Act.put, List.setIfInBounds_toArray, List.set_cons_zero, List.set_cons_succ]
      refine wpAnyH_take (i := 11) (oi := ⟨some 111, Op.call { callee := Callee.builtin Builtin.min, args := #[Operand.tmp 108, Operand.tmp 110], argTypes := #[3, 3] }, _, _, _, _⟩) (v := .int .i64 (min p.hi q.hi)) rfl (by kernel_rfl) (by kernel_rfl) (by kernel_rfl) (fun _ _ _ h => h) (Or.inl ⟨by rfl, ?_⟩) hS ?_
      · intro W' hSw; (try dsimp only at hSw); obtain ⟨s0, s1, s2, s3, s4, s5⟩ := hSw; go_simp; split <;> omega
      try simp only [Act.put, List.setIfInBounds_toArray, List.set_cons_zero, List.set_cons_succ]
      refine wpAnyH_take (i := 12) (oi := ⟨some 112, Op.build 32 #[(0, Operand.tmp 105), (1, Operand.tmp 111)], _, _, _, _⟩) (v := .agg #[.int .i64 (max p.lo q.lo), .int .i64 (min p.hi q.hi)]) rfl (by kernel_rfl) (by kernel_rfl) (by kernel_rfl) (fun _ _ _ h => h) (Or.inl ⟨by rfl, ?_⟩) hS ?_
      · intro W' hSw; (try dsimp only at hSw); obtain ⟨s0, s1, s2, s3, s4, s5⟩ := hSw; go_simp
      try simp only [Act.put, List.setIfInBounds_toArray, List.set_cons_zero, List.set_cons_succ]
      refine wpAnyH_take (i := 13) (oi := ⟨some 113, Op.fieldAddr 36 (Operand.tmp 3) 1, _, _, _, _⟩) (v := .pointer (some ⟨w.heap.size, 2, none⟩)) rfl (by kernel_rfl) (by kernel_rfl) (by kernel_rfl) (fun _ _ _ h => h) (Or.inl ⟨by rfl, ?_⟩) hS ?_
      · intro W' hSw; (try dsimp only at hSw); obtain ⟨s0, s1, s2, s3, s4, s5⟩ := hSw; go_simp
      try simp only [Act.put, List.setIfInBounds_toArray, List.set_cons_zero, List.set_cons_succ]
      refine wpAnyH_take (i := 14) (oi := ⟨some 114, Op.load 33 (Operand.tmp 113), _, _, _, _⟩) (v := .slice ra p.nr rc) rfl (by kernel_rfl) (by kernel_rfl) (by kernel_rfl) (fun _ _ _ h => h) (Or.inl ⟨by rfl, ?_⟩) hS ?_
      · intro W' hSw; (try dsimp only at hSw); obtain ⟨s0, s1, s2, s3, s4, s5⟩ := hSw; go_simp
      try simp only [Act.put, List.setIfInBounds_toArray, List.set_cons_zero, List.set_cons_succ]
      refine wpAnyH_take (i := 16) (oi := ⟨some 116, Op.fieldAddr 36 (Operand.tmp 3) 2, _, _, _, _⟩) (v := .pointer (some ⟨w.heap.size, 3, none⟩)) rfl (by kernel_rfl) (by kernel_rfl) (by kernel_rfl) (fun _ _ _ h => h) (Or.inl ⟨by rfl, ?_⟩) hS ?_
      · intro W' hSw; (try dsimp only at hSw); obtain ⟨s0, s1, s2, s3, s4, s5⟩ := hSw; go_simp
      try simp only [Act.put, List.setIfInBounds_toArray, List.set_cons_zero, List.set_cons_succ]
      refine wpAnyH_take (i := 17) (oi := ⟨some 117, Op.load 34 (Operand.tmp 116), _, _, _, _⟩) (v := .slice ca p.nc cc) rfl (by kernel_rfl) (by kernel_rfl) (by kernel_rfl) (fun _ _ _ h => h) (Or.inl ⟨by rfl, ?_⟩) hS ?_
      · intro W' hSw; (try dsimp only at hSw); obtain ⟨s0, s1, s2, s3, s4, s5⟩ := hSw; go_simp
      try simp only [Act.put, List.setIfInBounds_toArray, List.set_cons_zero, List.set_cons_succ]
      refine wpAnyH_take (i := 19) (oi := ⟨some 119, Op.move (Operand.tmp 1), _, _, _, _⟩) (v := .slice sa q.nc sc) rfl (by kernel_rfl) (by kernel_rfl) (by kernel_rfl) (fun _ _ _ h => h) (Or.inl ⟨by rfl, ?_⟩) hS ?_
      · intro W' hSw; (try dsimp only at hSw); obtain ⟨s0, s1, s2, s3, s4, s5⟩ := hSw; go_simp
      try simp only [Act.put, List.setIfInBounds_toArray, List.set_cons_zero, List.set_cons_succ]
      refine wpAnyH_ready (rs := [15, 22]) (by kernel_rfl) (by simp) ?_
      refine AllReadyH.cons (o := ⟨some 115, Op.buildSlice 34 0 #[], _, _, _, _⟩) rfl (fun K hK => ?_) ?_
      ·
        go_simp
        have HF0 : Hid (Fr (fun _ => False) X (X.alloc (.cells #[] 59))) := Fr.below (below_alloc X (.cells #[] 59)) _
        have HM0 := Lib.hid (HM.out.fr HF0.out (fun _ (e : False) => e.elim))
        have HL0 := Lib.hid (HL.out.trans ((below_alloc X (.cells #[] 59)).mono HL.out.size))
        have HE0 := Lib.hid (own_empty X 59 3 wr.heap.size HL.out.size)
        refine hK.out _ _ (HSC.out _ HM0.out) (fun hS => ?_)
        clear hK K
        try simp only [Act.put, List.setIfInBounds_toArray, List.set_cons_zero, List.set_cons_succ]
        clear HF0
        generalize X.heap.size = BE0 at *
        generalize X.alloc (.cells #[] 59) = X0 at *
        refine wpAnyH_ready (rs := [18, 22]) (by kernel_rfl) (by simp) ?_
        refine AllReadyH.cons (o := ⟨some 118, Op.call { callee := Callee.builtin Builtin.append, args := #[Operand.tmp 115, Operand.tmp 117], argTypes := #[34, 34] }, _, _, _, _⟩) rfl (fun K hK => ?_) ?_
        ·
          refine step_append_src X0 (by rfl) (.tmp 115) (.tmp 117) 34 (by rfl) wr.heap.size 59 i0 (.agg #[.int .i64 0, .int .i64 0, .int .i64 0]) 3 24 Try.underlying34 hi0 hz0 hz1 hz2 rfl (by decide) (.slice (some ⟨BE0, 0, none⟩) 0 0) 0 [] (by rfl) HE0.out ca p.nc cc (flatC (rcTo p.C p.nc)) (by rfl) (HSP.out X0 HM0.out.2.2.2) (flatC_one _) (by unfold maxLen; omega) (by omega) HL0.out.size ?_
          intro v1 X1 hown hgrow hat
          have hown' := own_cast hown (Nat.zero_add _) (List.nil_append _)
          have HA1 := Lib.hid hown'
          have HF1 := Lib.hid (Fr.grown hgrow)
          have HM1 := Lib.hid (HM0.out.fr HF1.out (fun q' e => Nat.le_trans HLW.out (own_low HE0.out e)))
          have HL1 := Lib.hid (HL0.out.trans (HF1.out.low HL0.out.size (fun q' hq' e => by have := own_low HE0.out e; omega)))
          clear hown hgrow hat HF1
          clear hown'
          refine hK.out _ _ (HSC.out _ HM1.out) (fun hS => ?_)
          clear hK K
          try simp only [Act.put, List.setIfInBounds_toArray, List.set_cons_zero, List.set_cons_succ]
          refine wpAnyH_ready (rs := [20, 22]) (by kernel_rfl) (by simp) ?_
          refine AllReadyH.cons (o := ⟨some 120, Op.call { callee := Callee.builtin Builtin.append, args := #[Operand.tmp 118, Operand.tmp 119], argTypes := #[34, 34] }, _, _, _, _⟩) rfl (fun K hK => ?_) ?_
          ·
            refine step_append_src X1 (by rfl) (.tmp 118) (.tmp 119) 34 (by rfl) wr.heap.size 59 i0 (.agg #[.int .i64 0, .int .i64 0, .int .i64 0]) 3 24 Try.underlying34 hi0 hz0 hz1 hz2 rfl (by decide) v1 p.nc (flatC (rcTo p.C p.nc)) (by rfl) HA1.out sa q.nc sc (flatC (rcTo q.C q.nc)) (by rfl) (HSQ.out X1 HM1.out.2.2.2) (flatC_one _) (by unfold maxLen; omega) (by omega) HL1.out.size ?_
            intro v2 X2 hown hgrow hat
            obtain ⟨a2, c2, rfl⟩ := own_slice' hown
            have HA2 := Lib.hid hown
            have HF2 := Lib.hid (Fr.grown hgrow)
            have HM2 := Lib.hid (HM1.out.fr HF2.out (fun q' e => Nat.le_trans HLW.out (own_low HA1.out e)))
            have HL2 := Lib.hid (HL1.out.trans (HF2.out.low HL1.out.size (fun q' hq' e => by have := own_low HA1.out e; omega)))
            clear hown hgrow hat HF2
            refine hK.out _ _ (HSC.out _ HM2.out) (fun hS => ?_)
            clear hK K
            try simp only [Act.put, List.setIfInBounds_toArray, List.set_cons_zero, List.set_cons_succ]
            refine wpAnyH_take (i := 21) (oi := ⟨some 121, Op.build 36 #[(0, Operand.tmp 112), (1, Operand.tmp 114), (2, Operand.tmp 120)], _, _, _, _⟩) (v := .agg #[.int .i64 (max p.lo q.lo), .int .i64 (min p.hi q.hi), .slice ra p.nr rc, (.slice a2 (p.nc + q.nc) c2)]) rfl (by kernel_rfl) (by kernel_rfl) (by kernel_rfl) (fun _ _ _ h => h) (Or.inl ⟨by rfl, ?_⟩) hS ?_
            · intro W' hSw; (try dsimp only at hSw); obtain ⟨s0, s1, s2, s3, s4, s5⟩ := hSw; go_simp
            try simp only [Act.put, List.setIfInBounds_toArray, List.set_cons_zero, List.set_cons_succ]
            refine wpAnyH_ready (rs := [22]) (by kernel_rfl) (by simp) ?_
            refine AllReadyH.cons (o := ⟨some 18, Op.alloc 36, _, _, _, _⟩) rfl (fun K hK => ?_) ?_
            ·
              go_simp
              have HF3 : Hid (Fr (fun _ => False) X2 (X2.alloc (.cells #[.int .i64 0, .int .i64 0, .slice none 0 0, .slice none 0 0] 36))) := Fr.below (below_alloc X2 (.cells #[.int .i64 0, .int .i64 0, .slice none 0 0, .slice none 0 0] 36)) _
              have HM3 := Lib.hid (HM2.out.fr HF3.out (fun _ (e : False) => e.elim))
              have HL3 := Lib.hid (HL2.out.trans ((below_alloc X2 (.cells #[.int .i64 0, .int .i64 0, .slice none 0 0, .slice none 0 0] 36)).mono HL2.out.size))
              have HA3 := Lib.hid (own_fr HA2.out HF3.out (fun _ _ _ _ _ e => e))
              have HZ3 : Hid (wr.heap.size ≤ X2.heap.size ∧ (X2.alloc (.cells #[.int .i64 0, .int .i64 0, .slice none 0 0, .slice none 0 0] 36)).heap[X2.heap.size]? = some (.cells #[.int .i64 0, .int .i64 0, .slice none 0 0, .slice none 0 0] 36 (0, 0))) := ⟨HL2.out.size, heap_alloc_new X2 _⟩
              refine hK.out _ _ (HSC.out _ HM3.out) (fun hS => ?_)
              clear hK K
              try simp only [Act.put, List.setIfInBounds_toArray, List.set_cons_zero, List.set_cons_succ]
              clear HF3
              generalize X2.heap.size = BZ3 at *
              generalize X2.alloc (.cells #[.int .i64 0, .int .i64 0, .slice none 0 0, .slice none 0 0] 36) = X3 at *
              refine wpAnyH_ready (rs := [23]) (by kernel_rfl) (by simp) ?_
              refine AllReadyH.cons (o := ⟨none, Op.store 36 (Operand.tmp 18) (Operand.tmp 121), _, _, _, _⟩) rfl (fun K hK => ?_) ?_
              ·
                have eb := HZ3.out.2
                obtain ⟨e0, e1, e2, e3⟩ := cells4 eb
                have f0 : X3.frozen? ⟨BZ3, 0, none⟩ = false := frozen_of_row _ _ 0 _ _ eb
                have f1 : X3.frozen? ⟨BZ3, 1, none⟩ = false := frozen_of_row _ _ 1 _ _ eb
                have f2 : X3.frozen? ⟨BZ3, 2, none⟩ = false := frozen_of_row _ _ 2 _ _ eb
                have f3 : X3.frozen? ⟨BZ3, 3, none⟩ = false := frozen_of_row _ _ 3 _ _ eb
                have HFS4 : Hid (Fr (fun k => k = BZ3) X3 ((((X3.setCell ⟨BZ3, 0, none⟩ (.int .i64 (max p.lo q.lo))).setCell ⟨BZ3, 1, none⟩ (.int .i64 (min p.hi q.hi))).setCell ⟨BZ3, 2, none⟩ (.slice ra p.nr rc)).setCell ⟨BZ3, 3, none⟩ (.slice a2 (p.nc + q.nc) c2))) := ((((Fr.set _ _ _ _).trans (Fr.set _ _ _ _)).trans (Fr.set _ _ _ _)).trans (Fr.set _ _ _ _))
                have HZS4 : Hid (((((X3.setCell ⟨BZ3, 0, none⟩ (.int .i64 (max p.lo q.lo))).setCell ⟨BZ3, 1, none⟩ (.int .i64 (min p.hi q.hi))).setCell ⟨BZ3, 2, none⟩ (.slice ra p.nr rc)).setCell ⟨BZ3, 3, none⟩ (.slice a2 (p.nc + q.nc) c2)).heap[BZ3]? = some (.cells #[.int .i64 (max p.lo q.lo), .int .i64 (min p.hi q.hi), .slice ra p.nr rc, .slice a2 (p.nc + q.nc) c2] 36 (0, 0))) := set4 eb _ _ _ _
                clear eb
                go_simp
                have HM4 := Lib.hid (HM3.out.fr HFS4.out (fun k e => by have := HZ3.out.1; have := HLW.out; omega))
                have HA4 := Lib.hid (own_fr HA3.out HFS4.out (fun g cur e1 _ hg e2 => own_type_ne' HZ3.out.2 hg (by decide) e2))
                have HL4 := Lib.hid (HL3.out.trans (HFS4.out.low HL3.out.size (fun k hk e => by have := HZ3.out.1; omega)))
                refine hK.out _ _ (HSC.out _ HM4.out) (fun hS => ?_)
                clear hK K
                try simp only [Act.put, List.setIfInBounds_toArray, List.set_cons_zero, List.set_cons_succ]
                clear e0 e1 e2 e3 f0 f1 f2 f3
                refine wpAnyH_done (by kernel_rfl) ?_ _
                go_wp2_with fail
                go_meet
                exact ⟨BZ3, (.slice a2 (p.nc + q.nc) c2), rfl, HM4.out, HZS4.out, by have := HA4.out; rw [flatC_append]; exact this, HL4.out⟩
              exact AllReadyH.nil
            exact AllReadyH.nil
          refine AllReadyH.cons (o := ⟨some 18, Op.alloc 36, _, _, _, _⟩) rfl (fun K hK => ?_) ?_
          ·
            go_simp
            have HF5 : Hid (Fr (fun _ => False) X1 (X1.alloc (.cells #[.int .i64 0, .int .i64 0, .slice none 0 0, .slice none 0 0] 36))) := Fr.below (below_alloc X1 (.cells #[.int .i64 0, .int .i64 0, .slice none 0 0, .slice none 0 0] 36)) _
            have HM5 := Lib.hid (HM1.out.fr HF5.out (fun _ (e : False) => e.elim))
            have HL5 := Lib.hid (HL1.out.trans ((below_alloc X1 (.cells #[.int .i64 0, .int .i64 0, .slice none 0 0, .slice none 0 0] 36)).mono HL1.out.size))
            have HA5 := Lib.hid (own_fr HA1.out HF5.out (fun _ _ _ _ _ e => e))
            have HZ5 : Hid (wr.heap.size ≤ X1.heap.size ∧ (X1.alloc (.cells #[.int .i64 0, .int .i64 0, .slice none 0 0, .slice none 0 0] 36)).heap[X1.heap.size]? = some (.cells #[.int .i64 0, .int .i64 0, .slice none 0 0, .slice none 0 0] 36 (0, 0))) := ⟨HL1.out.size, heap_alloc_new X1 _⟩
            refine hK.out _ _ (HSC.out _ HM5.out) (fun hS => ?_)
            clear hK K
            try simp only [Act.put, List.setIfInBounds_toArray, List.set_cons_zero, List.set_cons_succ]
            clear HF5
            generalize X1.heap.size = BZ5 at *
            generalize X1.alloc (.cells #[.int .i64 0, .int .i64 0, .slice none 0 0, .slice none 0 0] 36) = X5 at *
            refine wpAnyH_ready (rs := [20]) (by kernel_rfl) (by simp) ?_
            refine AllReadyH.cons (o := ⟨some 120, Op.call { callee := Callee.builtin Builtin.append, args := #[Operand.tmp 118, Operand.tmp 119], argTypes := #[34, 34] }, _, _, _, _⟩) rfl (fun K hK => ?_) ?_
            ·
              refine step_append_src X5 (by rfl) (.tmp 118) (.tmp 119) 34 (by rfl) wr.heap.size 59 i0 (.agg #[.int .i64 0, .int .i64 0, .int .i64 0]) 3 24 Try.underlying34 hi0 hz0 hz1 hz2 rfl (by decide) v1 p.nc (flatC (rcTo p.C p.nc)) (by rfl) HA5.out sa q.nc sc (flatC (rcTo q.C q.nc)) (by rfl) (HSQ.out X5 HM5.out.2.2.2) (flatC_one _) (by unfold maxLen; omega) (by omega) HL5.out.size ?_
              intro v6 X6 hown hgrow hat
              obtain ⟨a6, c6, rfl⟩ := own_slice' hown
              have HA6 := Lib.hid hown
              have HF6 := Lib.hid (Fr.grown hgrow)
              have HM6 := Lib.hid (HM5.out.fr HF6.out (fun q' e => Nat.le_trans HLW.out (own_low HA5.out e)))
              have HL6 := Lib.hid (HL5.out.trans (HF6.out.low HL5.out.size (fun q' hq' e => by have := own_low HA5.out e; omega)))
              have HZ6 := Lib.hid (And.intro HZ5.out.1 ((HF6.out.block _ (Array.getElem?_eq_some_iff.1 HZ5.out.2).1 (fun e => own_type_ne HA5.out HZ5.out.2 (by decide) e)).trans HZ5.out.2))
              clear hown hgrow hat HF6
              refine hK.out _ _ (HSC.out _ HM6.out) (fun hS => ?_)
              clear hK K
              try simp only [Act.put, List.setIfInBounds_toArray, List.set_cons_zero, List.set_cons_succ]
              refine wpAnyH_take (i := 21) (oi := ⟨some 121, Op.build 36 #[(0, Operand.tmp 112), (1, Operand.tmp 114), (2, Operand.tmp 120)], _, _, _, _⟩) (v := .agg #[.int .i64 (max p.lo q.lo), .int .i64 (min p.hi q.hi), .slice ra p.nr rc, (.slice a6 (p.nc + q.nc) c6)]) rfl (by kernel_rfl) (by kernel_rfl) (by kernel_rfl) (fun _ _ _ h => h) (Or.inl ⟨by rfl, ?_⟩) hS ?_
              · intro W' hSw; (try dsimp only at hSw); obtain ⟨s0, s1, s2, s3, s4, s5⟩ := hSw; go_simp
              try simp only [Act.put, List.setIfInBounds_toArray, List.set_cons_zero, List.set_cons_succ]
              refine wpAnyH_ready (rs := [23]) (by kernel_rfl) (by simp) ?_
              refine AllReadyH.cons (o := ⟨none, Op.store 36 (Operand.tmp 18) (Operand.tmp 121), _, _, _, _⟩) rfl (fun K hK => ?_) ?_
              ·
                have eb := HZ6.out.2
                obtain ⟨e0, e1, e2, e3⟩ := cells4 eb
                have f0 : X6.frozen? ⟨BZ5, 0, none⟩ = false := frozen_of_row _ _ 0 _ _ eb
                have f1 : X6.frozen? ⟨BZ5, 1, none⟩ = false := frozen_of_row _ _ 1 _ _ eb
                have f2 : X6.frozen? ⟨BZ5, 2, none⟩ = false := frozen_of_row _ _ 2 _ _ eb
                have f3 : X6.frozen? ⟨BZ5, 3, none⟩ = false := frozen_of_row _ _ 3 _ _ eb
                have HFS7 : Hid (Fr (fun k => k = BZ5) X6 ((((X6.setCell ⟨BZ5, 0, none⟩ (.int .i64 (max p.lo q.lo))).setCell ⟨BZ5, 1, none⟩ (.int .i64 (min p.hi q.hi))).setCell ⟨BZ5, 2, none⟩ (.slice ra p.nr rc)).setCell ⟨BZ5, 3, none⟩ (.slice a6 (p.nc + q.nc) c6))) := ((((Fr.set _ _ _ _).trans (Fr.set _ _ _ _)).trans (Fr.set _ _ _ _)).trans (Fr.set _ _ _ _))
                have HZS7 : Hid (((((X6.setCell ⟨BZ5, 0, none⟩ (.int .i64 (max p.lo q.lo))).setCell ⟨BZ5, 1, none⟩ (.int .i64 (min p.hi q.hi))).setCell ⟨BZ5, 2, none⟩ (.slice ra p.nr rc)).setCell ⟨BZ5, 3, none⟩ (.slice a6 (p.nc + q.nc) c6)).heap[BZ5]? = some (.cells #[.int .i64 (max p.lo q.lo), .int .i64 (min p.hi q.hi), .slice ra p.nr rc, .slice a6 (p.nc + q.nc) c6] 36 (0, 0))) := set4 eb _ _ _ _
                clear eb
                go_simp
                have HM7 := Lib.hid (HM6.out.fr HFS7.out (fun k e => by have := HZ6.out.1; have := HLW.out; omega))
                have HA7 := Lib.hid (own_fr HA6.out HFS7.out (fun g cur e1 _ hg e2 => own_type_ne' HZ6.out.2 hg (by decide) e2))
                have HL7 := Lib.hid (HL6.out.trans (HFS7.out.low HL6.out.size (fun k hk e => by have := HZ6.out.1; omega)))
                refine hK.out _ _ (HSC.out _ HM7.out) (fun hS => ?_)
                clear hK K
                try simp only [Act.put, List.setIfInBounds_toArray, List.set_cons_zero, List.set_cons_succ]
                clear e0 e1 e2 e3 f0 f1 f2 f3
                refine wpAnyH_done (by kernel_rfl) ?_ _
                go_wp2_with fail
                go_meet
                exact ⟨BZ5, (.slice a6 (p.nc + q.nc) c6), rfl, HM7.out, HZS7.out, by have := HA7.out; rw [flatC_append]; exact this, HL7.out⟩
              exact AllReadyH.nil
            exact AllReadyH.nil
          exact AllReadyH.nil
        refine AllReadyH.cons (o := ⟨some 18, Op.alloc 36, _, _, _, _⟩) rfl (fun K hK => ?_) ?_
        ·
          go_simp
          have HF8 : Hid (Fr (fun _ => False) X0 (X0.alloc (.cells #[.int .i64 0, .int .i64 0, .slice none 0 0, .slice none 0 0] 36))) := Fr.below (below_alloc X0 (.cells #[.int .i64 0, .int .i64 0, .slice none 0 0, .slice none 0 0] 36)) _
          have HM8 := Lib.hid (HM0.out.fr HF8.out (fun _ (e : False) => e.elim))
          have HL8 := Lib.hid (HL0.out.trans ((below_alloc X0 (.cells #[.int .i64 0, .int .i64 0, .slice none 0 0, .slice none 0 0] 36)).mono HL0.out.size))
          have HE8 := Lib.hid (own_fr HE0.out HF8.out (fun _ _ _ _ _ e => e))
          have HZ8 : Hid (wr.heap.size ≤ X0.heap.size ∧ (X0.alloc (.cells #[.int .i64 0, .int .i64 0, .slice none 0 0, .slice none 0 0] 36)).heap[X0.heap.size]? = some (.cells #[.int .i64 0, .int .i64 0, .slice none 0 0, .slice none 0 0] 36 (0, 0))) := ⟨HL0.out.size, heap_alloc_new X0 _⟩
          refine hK.out _ _ (HSC.out _ HM8.out) (fun hS => ?_)
          clear hK K
          try simp only [Act.put, List.setIfInBounds_toArray, List.set_cons_zero, List.set_cons_succ]
          clear HF8
          generalize X0.heap.size = BZ8 at *
          generalize X0.alloc (.cells #[.int .i64 0, .int .i64 0, .slice none 0 0, .slice none 0 0] 36) = X8 at *
          refine wpAnyH_ready (rs := [18]) (by kernel_rfl) (by simp) ?_
          refine AllReadyH.cons (o := ⟨some 118, Op.call { callee := Callee.builtin Builtin.append, args := #[Operand.tmp 115, Operand.tmp 117], argTypes := #[34, 34] }, _, _, _, _⟩) rfl (fun K hK => ?_) ?_
          ·
            refine step_append_src X8 (by rfl) (.tmp 115) (.tmp 117) 34 (by rfl) wr.heap.size 59 i0 (.agg #[.int .i64 0, .int .i64 0, .int .i64 0]) 3 24 Try.underlying34 hi0 hz0 hz1 hz2 rfl (by decide) (.slice (some ⟨BE0, 0, none⟩) 0 0) 0 [] (by rfl) HE8.out ca p.nc cc (flatC (rcTo p.C p.nc)) (by rfl) (HSP.out X8 HM8.out.2.2.2) (flatC_one _) (by unfold maxLen; omega) (by omega) HL8.out.size ?_
            intro v9 X9 hown hgrow hat
            have hown' := own_cast hown (Nat.zero_add _) (List.nil_append _)
            have HA9 := Lib.hid hown'
            have HF9 := Lib.hid (Fr.grown hgrow)
            have HM9 := Lib.hid (HM8.out.fr HF9.out (fun q' e => Nat.le_trans HLW.out (own_low HE8.out e)))
            have HL9 := Lib.hid (HL8.out.trans (HF9.out.low HL8.out.size (fun q' hq' e => by have := own_low HE8.out e; omega)))
            have HZ9 := Lib.hid (And.intro HZ8.out.1 ((HF9.out.block _ (Array.getElem?_eq_some_iff.1 HZ8.out.2).1 (fun e => own_type_ne HE8.out HZ8.out.2 (by decide) e)).trans HZ8.out.2))
            clear hown hgrow hat HF9
            clear hown'
            refine hK.out _ _ (HSC.out _ HM9.out) (fun hS => ?_)
            clear hK K
            try simp only [Act.put, List.setIfInBounds_toArray, List.set_cons_zero, List.set_cons_succ]
            refine wpAnyH_ready (rs := [20]) (by kernel_rfl) (by simp) ?_
            refine AllReadyH.cons (o := ⟨some 120, Op.call { callee := Callee.builtin Builtin.append, args := #[Operand.tmp 118, Operand.tmp 119], argTypes := #[34, 34] }, _, _, _, _⟩) rfl (fun K hK => ?_) ?_
            ·
              refine step_append_src X9 (by rfl) (.tmp 118) (.tmp 119) 34 (by rfl) wr.heap.size 59 i0 (.agg #[.int .i64 0, .int .i64 0, .int .i64 0]) 3 24 Try.underlying34 hi0 hz0 hz1 hz2 rfl (by decide) v9 p.nc (flatC (rcTo p.C p.nc)) (by rfl) HA9.out sa q.nc sc (flatC (rcTo q.C q.nc)) (by rfl) (HSQ.out X9 HM9.out.2.2.2) (flatC_one _) (by unfold maxLen; omega) (by omega) HL9.out.size ?_
              intro v10 X10 hown hgrow hat
              obtain ⟨a10, c10, rfl⟩ := own_slice' hown
              have HA10 := Lib.hid hown
              have HF10 := Lib.hid (Fr.grown hgrow)
              have HM10 := Lib.hid (HM9.out.fr HF10.out (fun q' e => Nat.le_trans HLW.out (own_low HA9.out e)))
              have HL10 := Lib.hid (HL9.out.trans (HF10.out.low HL9.out.size (fun q' hq' e => by have := own_low HA9.out e; omega)))
              have HZ10 := Lib.hid (And.intro HZ9.out.1 ((HF10.out.block _ (Array.getElem?_eq_some_iff.1 HZ9.out.2).1 (fun e => own_type_ne HA9.out HZ9.out.2 (by decide) e)).trans HZ9.out.2))
              clear hown hgrow hat HF10
              refine hK.out _ _ (HSC.out _ HM10.out) (fun hS => ?_)
              clear hK K
              try simp only [Act.put, List.setIfInBounds_toArray, List.set_cons_zero, List.set_cons_succ]
              refine wpAnyH_take (i := 21) (oi := ⟨some 121, Op.build 36 #[(0, Operand.tmp 112), (1, Operand.tmp 114), (2, Operand.tmp 120)], _, _, _, _⟩) (v := .agg #[.int .i64 (max p.lo q.lo), .int .i64 (min p.hi q.hi), .slice ra p.nr rc, (.slice a10 (p.nc + q.nc) c10)]) rfl (by kernel_rfl) (by kernel_rfl) (by kernel_rfl) (fun _ _ _ h => h) (Or.inl ⟨by rfl, ?_⟩) hS ?_
              · intro W' hSw; (try dsimp only at hSw); obtain ⟨s0, s1, s2, s3, s4, s5⟩ := hSw; go_simp
              try simp only [Act.put, List.setIfInBounds_toArray, List.set_cons_zero, List.set_cons_succ]
              refine wpAnyH_ready (rs := [23]) (by kernel_rfl) (by simp) ?_
              refine AllReadyH.cons (o := ⟨none, Op.store 36 (Operand.tmp 18) (Operand.tmp 121), _, _, _, _⟩) rfl (fun K hK => ?_) ?_
              ·
                have eb := HZ10.out.2
                obtain ⟨e0, e1, e2, e3⟩ := cells4 eb
                have f0 : X10.frozen? ⟨BZ8, 0, none⟩ = false := frozen_of_row _ _ 0 _ _ eb
                have f1 : X10.frozen? ⟨BZ8, 1, none⟩ = false := frozen_of_row _ _ 1 _ _ eb
                have f2 : X10.frozen? ⟨BZ8, 2, none⟩ = false := frozen_of_row _ _ 2 _ _ eb
                have f3 : X10.frozen? ⟨BZ8, 3, none⟩ = false := frozen_of_row _ _ 3 _ _ eb
                have HFS11 : Hid (Fr (fun k => k = BZ8) X10 ((((X10.setCell ⟨BZ8, 0, none⟩ (.int .i64 (max p.lo q.lo))).setCell ⟨BZ8, 1, none⟩ (.int .i64 (min p.hi q.hi))).setCell ⟨BZ8, 2, none⟩ (.slice ra p.nr rc)).setCell ⟨BZ8, 3, none⟩ (.slice a10 (p.nc + q.nc) c10))) := ((((Fr.set _ _ _ _).trans (Fr.set _ _ _ _)).trans (Fr.set _ _ _ _)).trans (Fr.set _ _ _ _))
                have HZS11 : Hid (((((X10.setCell ⟨BZ8, 0, none⟩ (.int .i64 (max p.lo q.lo))).setCell ⟨BZ8, 1, none⟩ (.int .i64 (min p.hi q.hi))).setCell ⟨BZ8, 2, none⟩ (.slice ra p.nr rc)).setCell ⟨BZ8, 3, none⟩ (.slice a10 (p.nc + q.nc) c10)).heap[BZ8]? = some (.cells #[.int .i64 (max p.lo q.lo), .int .i64 (min p.hi q.hi), .slice ra p.nr rc, .slice a10 (p.nc + q.nc) c10] 36 (0, 0))) := set4 eb _ _ _ _
                clear eb
                go_simp
                have HM11 := Lib.hid (HM10.out.fr HFS11.out (fun k e => by have := HZ10.out.1; have := HLW.out; omega))
                have HA11 := Lib.hid (own_fr HA10.out HFS11.out (fun g cur e1 _ hg e2 => own_type_ne' HZ10.out.2 hg (by decide) e2))
                have HL11 := Lib.hid (HL10.out.trans (HFS11.out.low HL10.out.size (fun k hk e => by have := HZ10.out.1; omega)))
                refine hK.out _ _ (HSC.out _ HM11.out) (fun hS => ?_)
                clear hK K
                try simp only [Act.put, List.setIfInBounds_toArray, List.set_cons_zero, List.set_cons_succ]
                clear e0 e1 e2 e3 f0 f1 f2 f3
                refine wpAnyH_done (by kernel_rfl) ?_ _
                go_wp2_with fail
                go_meet
                exact ⟨BZ8, (.slice a10 (p.nc + q.nc) c10), rfl, HM11.out, HZS11.out, by have := HA11.out; rw [flatC_append]; exact this, HL11.out⟩
              exact AllReadyH.nil
            exact AllReadyH.nil
          exact AllReadyH.nil
        exact AllReadyH.nil
      refine AllReadyH.cons (o := ⟨some 18, Op.alloc 36, _, _, _, _⟩) rfl (fun K hK => ?_) ?_
      ·
        go_simp
        have HF12 : Hid (Fr (fun _ => False) X (X.alloc (.cells #[.int .i64 0, .int .i64 0, .slice none 0 0, .slice none 0 0] 36))) := Fr.below (below_alloc X (.cells #[.int .i64 0, .int .i64 0, .slice none 0 0, .slice none 0 0] 36)) _
        have HM12 := Lib.hid (HM.out.fr HF12.out (fun _ (e : False) => e.elim))
        have HL12 := Lib.hid (HL.out.trans ((below_alloc X (.cells #[.int .i64 0, .int .i64 0, .slice none 0 0, .slice none 0 0] 36)).mono HL.out.size))
        have HZ12 : Hid (wr.heap.size ≤ X.heap.size ∧ (X.alloc (.cells #[.int .i64 0, .int .i64 0, .slice none 0 0, .slice none 0 0] 36)).heap[X.heap.size]? = some (.cells #[.int .i64 0, .int .i64 0, .slice none 0 0, .slice none 0 0] 36 (0, 0))) := ⟨HL.out.size, heap_alloc_new X _⟩
        refine hK.out _ _ (HSC.out _ HM12.out) (fun hS => ?_)
        clear hK K
        try simp only [Act.put, List.setIfInBounds_toArray, List.set_cons_zero, List.set_cons_succ]
        clear HF12
        generalize X.heap.size = BZ12 at *
        generalize X.alloc (.cells #[.int .i64 0, .int .i64 0, .slice none 0 0, .slice none 0 0] 36) = X12 at *
        refine wpAnyH_ready (rs := [15]) (by kernel_rfl) (by simp) ?_
        refine AllReadyH.cons (o := ⟨some 115, Op.buildSlice 34 0 #[], _, _, _, _⟩) rfl (fun K hK => ?_) ?_
        ·
          go_simp
          have HF13 : Hid (Fr (fun _ => False) X12 (X12.alloc (.cells #[] 59))) := Fr.below (below_alloc X12 (.cells #[] 59)) _
          have HM13 := Lib.hid (HM12.out.fr HF13.out (fun _ (e : False) => e.elim))
          have HL13 := Lib.hid (HL12.out.trans ((below_alloc X12 (.cells #[] 59)).mono HL12.out.size))
          have HZ13 := Lib.hid ((HF13.out.block _ (Array.getElem?_eq_some_iff.1 HZ12.out.2).1 (fun e => e)).trans HZ12.out.2)
          have HZ13 := Lib.hid (And.intro HZ12.out.1 HZ13.out)
          have HE13 := Lib.hid (own_empty X12 59 3 wr.heap.size HL12.out.size)
          refine hK.out _ _ (HSC.out _ HM13.out) (fun hS => ?_)
          clear hK K
          try simp only [Act.put, List.setIfInBounds_toArray, List.set_cons_zero, List.set_cons_succ]
          clear HF13
          generalize X12.heap.size = BE13 at *
          generalize X12.alloc (.cells #[] 59) = X13 at *
          refine wpAnyH_ready (rs := [18]) (by kernel_rfl) (by simp) ?_
          refine AllReadyH.cons (o := ⟨some 118, Op.call { callee := Callee.builtin Builtin.append, args := #[Operand.tmp 115, Operand.tmp 117], argTypes := #[34, 34] }, _, _, _, _⟩) rfl (fun K hK => ?_) ?_
          ·
            refine step_append_src X13 (by rfl) (.tmp 115) (.tmp 117) 34 (by rfl) wr.heap.size 59 i0 (.agg #[.int .i64 0, .int .i64 0, .int .i64 0]) 3 24 Try.underlying34 hi0 hz0 hz1 hz2 rfl (by decide) (.slice (some ⟨BE13, 0, none⟩) 0 0) 0 [] (by rfl) HE13.out ca p.nc cc (flatC (rcTo p.C p.nc)) (by rfl) (HSP.out X13 HM13.out.2.2.2) (flatC_one _) (by unfold maxLen; omega) (by omega) HL13.out.size ?_
            intro v14 X14 hown hgrow hat
            have hown' := own_cast hown (Nat.zero_add _) (List.nil_append _)
            have HA14 := Lib.hid hown'
            have HF14 := Lib.hid (Fr.grown hgrow)
            have HM14 := Lib.hid (HM13.out.fr HF14.out (fun q' e => Nat.le_trans HLW.out (own_low HE13.out e)))
            have HL14 := Lib.hid (HL13.out.trans (HF14.out.low HL13.out.size (fun q' hq' e => by have := own_low HE13.out e; omega)))
            have HZ14 := Lib.hid (And.intro HZ13.out.1 ((HF14.out.block _ (Array.getElem?_eq_some_iff.1 HZ13.out.2).1 (fun e => own_type_ne HE13.out HZ13.out.2 (by decide) e)).trans HZ13.out.2))
            clear hown hgrow hat HF14
            clear hown'
            refine hK.out _ _ (HSC.out _ HM14.out) (fun hS => ?_)
            clear hK K
            try simp only [Act.put, List.setIfInBounds_toArray, List.set_cons_zero, List.set_cons_succ]
            refine wpAnyH_ready (rs := [20]) (by kernel_rfl) (by simp) ?_
            refine AllReadyH.cons (o := ⟨some 120, Op.call { callee := Callee.builtin Builtin.append, args := #[Operand.tmp 118, Operand.tmp 119], argTypes := #[34, 34] }, _, _, _, _⟩) rfl (fun K hK => ?_) ?_
            ·
              refine step_append_src X14 (by rfl) (.tmp 118) (.tmp 119) 34 (by rfl) wr.heap.size 59 i0 (.agg #[.int .i64 0, .int .i64 0, .int .i64 0]) 3 24 Try.underlying34 hi0 hz0 hz1 hz2 rfl (by decide) v14 p.nc (flatC (rcTo p.C p.nc)) (by rfl) HA14.out sa q.nc sc (flatC (rcTo q.C q.nc)) (by rfl) (HSQ.out X14 HM14.out.2.2.2) (flatC_one _) (by unfold maxLen; omega) (by omega) HL14.out.size ?_
              intro v15 X15 hown hgrow hat
              obtain ⟨a15, c15, rfl⟩ := own_slice' hown
              have HA15 := Lib.hid hown
              have HF15 := Lib.hid (Fr.grown hgrow)
              have HM15 := Lib.hid (HM14.out.fr HF15.out (fun q' e => Nat.le_trans HLW.out (own_low HA14.out e)))
              have HL15 := Lib.hid (HL14.out.trans (HF15.out.low HL14.out.size (fun q' hq' e => by have := own_low HA14.out e; omega)))
              have HZ15 := Lib.hid (And.intro HZ14.out.1 ((HF15.out.block _ (Array.getElem?_eq_some_iff.1 HZ14.out.2).1 (fun e => own_type_ne HA14.out HZ14.out.2 (by decide) e)).trans HZ14.out.2))
              clear hown hgrow hat HF15
              refine hK.out _ _ (HSC.out _ HM15.out) (fun hS => ?_)
              clear hK K
              try simp only [Act.put, List.setIfInBounds_toArray, List.set_cons_zero, List.set_cons_succ]
              refine wpAnyH_take (i := 21) (oi := ⟨some 121, Op.build 36 #[(0, Operand.tmp 112), (1, Operand.tmp 114), (2, Operand.tmp 120)], _, _, _, _⟩) (v := .agg #[.int .i64 (max p.lo q.lo), .int .i64 (min p.hi q.hi), .slice ra p.nr rc, (.slice a15 (p.nc + q.nc) c15)]) rfl (by kernel_rfl) (by kernel_rfl) (by kernel_rfl) (fun _ _ _ h => h) (Or.inl ⟨by rfl, ?_⟩) hS ?_
              · intro W' hSw; (try dsimp only at hSw); obtain ⟨s0, s1, s2, s3, s4, s5⟩ := hSw; go_simp
              try simp only [Act.put, List.setIfInBounds_toArray, List.set_cons_zero, List.set_cons_succ]
              refine wpAnyH_ready (rs := [23]) (by kernel_rfl) (by simp) ?_
              refine AllReadyH.cons (o := ⟨none, Op.store 36 (Operand.tmp 18) (Operand.tmp 121), _, _, _, _⟩) rfl (fun K hK => ?_) ?_
              ·
                have eb := HZ15.out.2
                obtain ⟨e0, e1, e2, e3⟩ := cells4 eb
                have f0 : X15.frozen? ⟨BZ12, 0, none⟩ = false := frozen_of_row _ _ 0 _ _ eb
                have f1 : X15.frozen? ⟨BZ12, 1, none⟩ = false := frozen_of_row _ _ 1 _ _ eb
                have f2 : X15.frozen? ⟨BZ12, 2, none⟩ = false := frozen_of_row _ _ 2 _ _ eb
                have f3 : X15.frozen? ⟨BZ12, 3, none⟩ = false := frozen_of_row _ _ 3 _ _ eb
                have HFS16 : Hid (Fr (fun k => k = BZ12) X15 ((((X15.setCell ⟨BZ12, 0, none⟩ (.int .i64 (max p.lo q.lo))).setCell ⟨BZ12, 1, none⟩ (.int .i64 (min p.hi q.hi))).setCell ⟨BZ12, 2, none⟩ (.slice ra p.nr rc)).setCell ⟨BZ12, 3, none⟩ (.slice a15 (p.nc + q.nc) c15))) := ((((Fr.set _ _ _ _).trans (Fr.set _ _ _ _)).trans (Fr.set _ _ _ _)).trans (Fr.set _ _ _ _))
                have HZS16 : Hid (((((X15.setCell ⟨BZ12, 0, none⟩ (.int .i64 (max p.lo q.lo))).setCell ⟨BZ12, 1, none⟩ (.int .i64 (min p.hi q.hi))).setCell ⟨BZ12, 2, none⟩ (.slice ra p.nr rc)).setCell ⟨BZ12, 3, none⟩ (.slice a15 (p.nc + q.nc) c15)).heap[BZ12]? = some (.cells #[.int .i64 (max p.lo q.lo), .int .i64 (min p.hi q.hi), .slice ra p.nr rc, .slice a15 (p.nc + q.nc) c15] 36 (0, 0))) := set4 eb _ _ _ _
                clear eb
                go_simp
                have HM16 := Lib.hid (HM15.out.fr HFS16.out (fun k e => by have := HZ15.out.1; have := HLW.out; omega))
                have HA16 := Lib.hid (own_fr HA15.out HFS16.out (fun g cur e1 _ hg e2 => own_type_ne' HZ15.out.2 hg (by decide) e2))
                have HL16 := Lib.hid (HL15.out.trans (HFS16.out.low HL15.out.size (fun k hk e => by have := HZ15.out.1; omega)))
                refine hK.out _ _ (HSC.out _ HM16.out) (fun hS => ?_)
                clear hK K
                try simp only [Act.put, List.setIfInBounds_toArray, List.set_cons_zero, List.set_cons_succ]
                clear e0 e1 e2 e3 f0 f1 f2 f3
                refine wpAnyH_done (by kernel_rfl) ?_ _
                go_wp2_with fail
                go_meet
                exact ⟨BZ12, (.slice a15 (p.nc + q.nc) c15), rfl, HM16.out, HZS16.out, by have := HA16.out; rw [flatC_append]; exact this, HL16.out⟩
              exact AllReadyH.nil
            exact AllReadyH.nil
          exact AllReadyH.nil
        exact AllReadyH.nil
      exact AllReadyH.nil

    case rest =>
      obtain ⟨B, v2, rfl, hm, hbk, hown, hbl⟩ := hcut
      have HBc : Hid (Below w.heap.size w wc) := hm.2.2.2
      obtain ⟨x, HX, HXO⟩ := both_person (HP.out.below HBc.out) hown
      obtain ⟨va, vc, rfl⟩ := own_slice' hown
      obtain ⟨d0, d1, d2, d3⟩ := cells4 hbk
      have hsB := (Array.getElem?_eq_some_iff.1 hbk).1
      have HBK := Lib.hid hbk
      have HG := Lib.hid (HR8.out.kept hbl)
      clear hm hbk hown hbl HMw4 HMw5 HMw6 HMw7 HMw8 HSP HSQ hi0 hz0 hz1 hz2 HPA HQA
      go_wp2_with fail
      refine (fault_any _ x _ HX.out).mono ?_
      rintro _ w9 ⟨rfl, hb9⟩
      have HB9 := Lib.hid hb9
      clear hb9
      cases hx : (x.fault != 0)
      rotate_left
      · go_wp2_with (go_at_call 20; refine (HAW.out _).mono ?_; rintro _ w3 ⟨rfl, hb3⟩)
        go_ret
        exact ⟨rfl, below_step (below_step HBc.out HB9.out) hb3⟩
      have hxf : x.fault = 0 := by simpa using hx
      have HXF := Lib.hid hxf
      obtain ⟨xn1, xn2, _⟩ := Pers.ok_facts hxf
      have HBX : Hid (x.born = sharedL p q) := both_born HXO.out HRR.out HPF.out HQF.out hxf
      have HBE : Hid (x.bErr = togE p q) := by unfold Hid; rw [bErr_of hxf, togE_of HPF.out HQF.out, HBX.out]
      have HSN : Hid (Nrm (sharedL p q)) := (shared_has HPF.out HQF.out).2.1
      have hls := sharedL_length p q
      clear hxf d0 d1 d2 d3
      obtain ⟨d0, d1, d2, d3⟩ := cells4 ((HB9.out.block _ hsB).trans HBK.out)
      go_wp2_with fail
      refine (person_any _ x _ (HX.out.below HB9.out) (by omega) (by omega)).mono ?_
      rintro _ w10 ⟨u10, rfl, hu10, hb10⟩
      have HU10 := Lib.hid hu10
      go_wp2_with fail
      refine (Births_any _ x _ HU10.out (by omega) (by omega)).mono ?_
      rintro _ w11 ⟨v11, rfl, hr11, hb11⟩
      rw [HBX.out] at hr11
      rw [HBE.out]
      have HB11 : Hid (Below wc.heap.size wc w11) := below_step HB9.out (below_step hb10 hb11)
      obtain ⟨a11, c11, rfl⟩ := hr11.slice
      have HG1 := Lib.hid hr11.rg
      have HG2 := Lib.hid (HG.out.kept HB11.out)
      have hll : (((sharedL p q).length : Int) == ((sharedL p q).length : Int)) = true := by simp
      have htt : (togE p q == togE p q) = true := by simp
      have HIN : Hid (insB (sharedL p q) (sharedL p q) = true) := insB_self HSN.out
      clear d0 d1 d2 d3 hu10 hb10 hb11 hr11 hx
      go_wp2_with fail
      refine (inside_any _ _ _ _ _ (by omega) (by omega) HG2.out HG1.out).mono ?_
      rintro _ w12 ⟨rfl, hb12⟩
      rw [HIN.out]
      have HG3 := Lib.hid (HG1.out.kept hb12)
      have HG4 := Lib.hid (HG2.out.kept hb12)
      go_wp2_with fail
      refine (inside_any _ _ _ _ _ (by omega) (by omega) HG3.out HG4.out).mono ?_
      rintro _ w13 ⟨rfl, hb13⟩
      rw [HIN.out]
      go_wp2_with (go_at_call 20; refine (HAW.out _).mono ?_; rintro _ w14 ⟨rfl, hb14⟩)
      go_ret
      exact ⟨rfl, below_step (below_step (below_step (below_step HBc.out HB11.out) hb12) hb13) hb14⟩
end Go.Proofs.Ytagfcfojfjkmbaa
