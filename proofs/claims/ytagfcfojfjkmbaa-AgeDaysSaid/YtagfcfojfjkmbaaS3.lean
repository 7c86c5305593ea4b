/- AgeDays: the walk. -/
import Derived.Test.YtagfcfojfjkmbaaS2
namespace Go.Proofs.Ytagfcfojfjkmbaa
open Go.RowKit Go.Shelf

theorem on_fault {p : Pers} {day : Int} (h : p.fault ≠ 0) : p.on day = [] ∧ p.onE day = p.fault := by
  have h1 : p.onE day = p.fault := by unfold Pers.onE; rw [if_neg h]
  exact ⟨by unfold Pers.on; rw [if_neg (by rw [h1]; exact h)], h1⟩
theorem on_far {p : Pers} {day : Int} (h : p.fault = 0) (hd : inB day (-50000) 50000 = false) : p.on day = [] ∧ p.onE day = 2 := by
  have h1 : p.onE day = 2 := by unfold Pers.onE; rw [if_pos h, if_pos hd]
  exact ⟨by unfold Pers.on; rw [if_neg (by rw [h1]; decide)], h1⟩
theorem onG_late {day : Int} {r : Int × Int} {l : RL} (h : Nrm (r :: l)) (hd : day < r.1) : onG day (r :: l) = [] := by
  refine Nrm.ext (onG_facts day h).1 Nrm.nil fun n => ?_
  cases hb : hasR (onG day (r :: l)) n
  · rfl
  · obtain ⟨b, b1, b2, _⟩ := ((onG_facts day h).2 n).1 hb
    rw [h.low b (by omega)] at b1; cases b1
theorem on_near {p : Pers} {day : Int} (h : p.fault = 0) (hd : inB day (-50000) 50000 = true) : p.on day = onG day p.born ∧ p.onE day = if p.born = [] then 9 else if onG day p.born = [] then 7 else 0 := by
  obtain ⟨b1, _⟩ := born_has h
  have hE : p.onE day = match p.born with | [] => 9 | r :: _ => if day < r.1 then 7 else 0 := by
    unfold Pers.onE; rw [if_pos h, if_neg (by rw [hd]; decide)]; cases p.born <;> rfl
  cases hb : p.born with
  | nil =>
    have hE9 : p.onE day = 9 := by rw [hE, hb]
    rw [if_pos rfl, hE9]
    exact ⟨by unfold Pers.on; rw [if_neg (by rw [hE9]; decide)]; rfl, rfl⟩
  | cons r l =>
    rw [hb] at hE b1
    rw [if_neg (by simp), hE]
    by_cases hr : day < r.1
    · have he := onG_late b1 hr
      simp only [if_pos hr] at hE ⊢
      rw [he, if_pos rfl]
      exact ⟨by unfold Pers.on; rw [if_neg (by rw [hE]; decide)], rfl⟩
    · simp only [if_neg hr] at hE ⊢
      have hm : hasR (onG day (r :: l)) ((day - r.1) / 365) = true := ((onG_facts day b1).2 _).2 ⟨r.1, by have := b1.2 r List.mem_cons_self; simp [hasR_cons, this], by omega, rfl⟩
      have hne : onG day (r :: l) ≠ [] := fun e => by rw [e] at hm; cases hm
      rw [if_neg hne]
      refine ⟨?_, rfl⟩
      obtain ⟨o1, o2⟩ := on_facts h day hE
      obtain ⟨g1, g2⟩ := onG_facts day b1
      refine Nrm.ext o1 g1 fun n => ?_
      rw [Bool.eq_iff_iff, o2, g2, hb]

attribute [local go_sem ↓] Go.wp_at_zero Go.wp_at_succ
set_option maxRecDepth 100000 in
set_option maxHeartbeats 8000000 in
theorem ageDays_walk (v : Value) (p : Pers) (day : Int) (w : World) (h : PersIn w v p) :
    Calls Try.prog 4 #[v, .int .i64 day] w fun e w' => e = .returned (.bool true) ∧ Below w.heap.size w w' := by
  have HP := Lib.hid h
  have HAW := Lib.hid awake_any
  have HDAY := Lib.hid (isDayR_any day)
  obtain ⟨rv, cv, rfl, h1, h2⟩ := h
  obtain ⟨ra, rc, rfl⟩ := h1.slice
  obtain ⟨ca, cc, rfl⟩ := h2.slice
  clear h1 h2
  have HB0 : Hid (Below w.heap.size w (w.alloc (.cells #[.int .i64 p.lo, .int .i64 p.hi, .slice ra p.nr rc, .slice ca p.nc cc] 36))) := below_alloc _ _
  have HK0 : Hid ((w.alloc (.cells #[.int .i64 p.lo, .int .i64 p.hi, .slice ra p.nr rc, .slice ca p.nc cc] 36)).heap[w.heap.size]? = some (.cells #[.int .i64 p.lo, .int .i64 p.hi, .slice ra p.nr rc, .slice ca p.nc cc] 36 (0, 0))) := heap_alloc_new _ _
  cases ht : p.thin
  · go_enter Try.func4, Try.ntmps4
    go_wp2_with (first | (go_at_call 25; refine (thin_any _ p _ (HP.out.below HB0.out)).mono ?_; rintro _ w1 ⟨rfl, hb1⟩) | (go_at_call 20; refine (HAW.out _).mono ?_; rintro _ w3 ⟨rfl, hb3⟩))
    go_ret
    exact ⟨rfl, below_step (below_step HB0.out hb1) hb3⟩
  obtain ⟨pn1, pn2⟩ := thin_le ht
  go_enter Try.func4, Try.ntmps4
  go_wp2_with fail
  refine (thin_any _ p _ (HP.out.below HB0.out)).mono ?_
  rintro _ w1 ⟨rfl, hb1⟩
  have HK1 : Hid (w1.heap[w.heap.size]? = some (.cells #[.int .i64 p.lo, .int .i64 p.hi, .slice ra p.nr rc, .slice ca p.nc cc] 36 (0, 0))) := (hb1.block _ (by simp)).trans HK0.out
  have hs1 : w.heap.size < w1.heap.size := (Array.getElem?_eq_some_iff.1 HK1.out).1
  have HB1 : Hid (Below w.heap.size w w1) := below_step HB0.out hb1
  have HCELLS : Hid (∀ X : World, Below w1.heap.size w1 X → X.cell? ⟨w.heap.size, 0, none⟩ = some (.int .i64 p.lo) ∧ X.cell? ⟨w.heap.size, 1, none⟩ = some (.int .i64 p.hi) ∧ X.cell? ⟨w.heap.size, 2, none⟩ = some (.slice ra p.nr rc) ∧ X.cell? ⟨w.heap.size, 3, none⟩ = some (.slice ca p.nc cc)) := fun X hX => cells4 ((hX.block _ hs1).trans HK1.out)
  have HPX : Hid (∀ X : World, Below w1.heap.size w1 X → PersIn X (.agg #[.int .i64 p.lo, .int .i64 p.hi, .slice ra p.nr rc, .slice ca p.nc cc]) p) := fun X hX => HP.out.below (below_step HB1.out hX)
  obtain ⟨d0, d1, d2, d3⟩ := HCELLS.out w1 (Below.refl _ _)
  clear hb1 HB0 HK0
  go_wp2_with fail
  refine (person_any _ p _ (HPX.out _ (Below.refl _ _)) (by omega) (by omega)).mono ?_
  rintro _ w2 ⟨u2, rfl, hu2, hb2⟩
  have HU2 := Lib.hid hu2; clear hu2
  go_wp2_with fail
  refine (on_any _ p day _ HU2.out (by omega) (by omega)).mono ?_
  rintro _ w3 ⟨v3, rfl, hr3, hb3⟩
  have HB3 : Hid (Below w1.heap.size w1 w3) := below_step hb2 hb3
  have HR3 := Lib.hid hr3.rg
  have hon := on_length p day
  clear hr3 hb2 hb3 d0 d1 d2 d3
  obtain ⟨d0, d1, d2, d3⟩ := HCELLS.out _ HB3.out
  go_wp2_with fail
  refine (fault_any _ p _ (HPX.out _ HB3.out)).mono ?_
  rintro _ w4 ⟨rfl, hb4⟩
  have HR4 := Lib.hid (HR3.out.kept hb4)
  have HB4 : Hid (Below w1.heap.size w1 w4) := below_step HB3.out hb4
  clear hb4 d0 d1 d2 d3
  by_cases hf : p.fault = 0
  rotate_left
  · have hf0 : (p.fault == 0) = false := by simp [hf]
    obtain ⟨o1, o2⟩ := on_fault (day := day) hf
    have hpp : (p.fault == p.fault) = true := by simp
    have HRA : Hid (RgAt w4 v3 (p.on day)) := HR4.out
    rw [o1] at HRA
    rw [o2]
    have HRN : Hid (RgAt w4 (.slice none 0 0) []) := .inl ⟨rfl, _, _, rfl⟩
    have HRS := Lib.hid (ranges_same _ _ [] w4 HRA.out HRN.out (by simp))
    clear hf o1 o2
    go_wp2_with (first | (go_at_call 32; refine HRS.out.mono ?_; rintro _ w11 ⟨rfl, hb11⟩) | (go_at_call 20; refine (HAW.out _).mono ?_; rintro _ w12 ⟨rfl, hb12⟩))
    go_ret
    exact ⟨rfl, below_step (below_step (below_step HB1.out HB4.out) hb11) hb12⟩
  have hf0 : (p.fault == 0) = true := by simp [hf]
  have HPF := Lib.hid hf
  clear hf
  cases hd : inB day (-50000) 50000
  · obtain ⟨o1, o2⟩ := on_far HPF.out hd
    have HRA : Hid (RgAt w4 v3 (p.on day)) := HR4.out
    rw [o1] at HRA
    rw [o2]
    have HRN : Hid (RgAt w4 (.slice none 0 0) []) := .inl ⟨rfl, _, _, rfl⟩
    have HRS := Lib.hid (ranges_same _ _ [] w4 HRA.out HRN.out (by simp))
    clear o1 o2
    rw [hd] at HDAY
    go_wp2_with (first | (go_at_call 29; refine (HDAY.out _).mono ?_; rintro _ _ ⟨rfl, rfl⟩) | (go_at_call 32; refine HRS.out.mono ?_; rintro _ w11 ⟨rfl, hb11⟩) | (go_at_call 20; refine (HAW.out _).mono ?_; rintro _ w12 ⟨rfl, hb12⟩))
    go_ret
    exact ⟨rfl, below_step (below_step (below_step HB1.out HB4.out) hb11) hb12⟩
  obtain ⟨o1, o2⟩ := on_near HPF.out hd
  rw [o1] at HR4 hon
  have HOO := Lib.hid o2
  rw [hd] at HDAY
  have hdd : -50000 ≤ day ∧ day ≤ 50000 := by simpa [inB] using hd
  have hbl := born_length p
  have HBI := Lib.hid (born_in p)
  have HBN := Lib.hid (born_has HPF.out).1
  clear o1 o2
  obtain ⟨d0, d1, d2, d3⟩ := HCELLS.out _ HB4.out
  go_wp2_with (go_at_call 29; refine (HDAY.out _).mono ?_; rintro _ _ ⟨rfl, rfl⟩)
  refine (refBirths_any _ p _ (HPX.out _ HB4.out) HPF.out).mono ?_
  rintro _ w5 ⟨v5, rfl, hr5, hb5⟩
  have HB5 : Hid (Below w1.heap.size w1 w5) := below_step HB4.out hb5
  have HR45 := Lib.hid (HR4.out.kept hb5)
  have HR5 := Lib.hid hr5
  obtain ⟨a5, c5, rfl⟩ := hr5.slice
  clear hr5 hb5 d0 d1 d2 d3 HR4 HR3
  go_wp2_with fail
  refine (refOn_any _ p.born day _ HR5.out HBN.out HBI.out (by omega) hdd).mono ?_
  rintro _ w6 ⟨v6, rfl, hr6, hb6⟩
  have HB6 : Hid (Below w1.heap.size w1 w6) := below_step HB5.out hb6
  have HRS := Lib.hid (ranges_same _ _ (onG day p.born) _ (HR45.out.kept hb6) hr6 (by omega))
  obtain ⟨a6, c6, rfl⟩ := hr6.slice
  clear hr6 hb6
  have HOE : Hid (p.born = [] → onG day p.born = []) := fun e => by rw [e]; rfl
  generalize onG day p.born = G at *
  by_cases hb : p.born = []
  · have hg := HOE.out hb
    have hoe : p.onE day = 9 := by rw [HOO.out, if_pos hb]
    subst hg
    rw [hb, hoe]
    simp only [List.length_nil]
    clear hb hoe
    go_wp2_with (first | (go_at_call 32; refine HRS.out.mono ?_; rintro _ w11 ⟨rfl, hb11⟩) | (go_at_call 20; refine (HAW.out _).mono ?_; rintro _ w12 ⟨rfl, hb12⟩))
    go_ret
    exact ⟨rfl, below_step (below_step (below_step HB1.out HB6.out) hb11) hb12⟩
  have hl0 : ((p.born.length : Int) == 0) = false := by rw [beq_eq_false_iff_ne]; intro e; exact hb (List.eq_nil_of_length_eq_zero (by omega))
  by_cases hg : G = []
  · have hoe : p.onE day = 7 := by rw [HOO.out, if_neg hb, if_pos hg]
    subst hg
    rw [hoe]
    simp only [List.length_nil]
    clear hb hoe
    go_wp2_with (first | (go_at_call 32; refine HRS.out.mono ?_; rintro _ w11 ⟨rfl, hb11⟩) | (go_at_call 20; refine (HAW.out _).mono ?_; rintro _ w12 ⟨rfl, hb12⟩))
    go_ret
    exact ⟨rfl, below_step (below_step (below_step HB1.out HB6.out) hb11) hb12⟩
  · have hg0 : ((G.length : Int) == 0) = false := by rw [beq_eq_false_iff_ne]; intro e; exact hg (List.eq_nil_of_length_eq_zero (by omega))
    have hoe : p.onE day = 0 := by rw [HOO.out, if_neg hb, if_neg hg]
    rw [hoe]
    have hz0 : ((0 : Int) == p.fault) = true := by rw [HPF.out]; rfl
    clear hb hg hoe
    go_wp2_with (first | (go_at_call 32; refine HRS.out.mono ?_; rintro _ w11 ⟨rfl, hb11⟩) | (go_at_call 20; refine (HAW.out _).mono ?_; rintro _ w12 ⟨rfl, hb12⟩))
    go_ret
    exact ⟨rfl, below_step (below_step (below_step HB1.out HB6.out) hb11) hb12⟩
end Go.Proofs.Ytagfcfojfjkmbaa
