/- Reference: Leave; AgeLeaves: the walk. -/
import Derived.Test.YtagfcfojfjkmbaaR5
import Derived.Test.YtagfcfojfjkmbaaJ1
namespace Go.Proofs.Ytagfcfojfjkmbaa
open Go.RowKit Go.Shelf

theorem llt_tri : ∀ {a b : List Nat}, a.length = b.length → ¬ llt a b → ¬ llt b a → a = b
  | [], [], _, _, _ => rfl
  | [], _ :: _, h, _, _ => by simp at h
  | _ :: _, [], h, _, _ => by simp at h
  | x :: a, y :: b, h, h1, h2 => by
    have hxy : x = y := by
      rcases Nat.lt_trichotomy x y with h' | h' | h'
      · exact absurd (.inl h') h1
      · exact h'
      · exact absurd (.inl h') h2
    subst hxy
    rw [llt_tri (a := a) (b := b) (by simpa using h) (fun h' => h1 (.inr ⟨rfl, h'⟩)) (fun h' => h2 (.inr ⟨rfl, h'⟩))]
theorem lessN_tri {a b : List Nat} (h1 : ¬ lessN a b) (h2 : ¬ lessN b a) : a = b := by
  have hl : a.length = b.length := by
    rcases Nat.lt_trichotomy a.length b.length with h | h | h
    · exact absurd (.inl h) h1
    · exact h
    · exact absurd (.inl h) h2
  exact llt_tri hl (fun h => h1 (.inr ⟨hl, h⟩)) (fun h => h2 (.inr ⟨hl.symm, h⟩))
theorem llt_trans : ∀ {a b c : List Nat}, llt a b → llt b c → llt a c
  | [], _, _, h, _ => by cases h
  | _ :: _, [], _, h, _ => by cases h
  | _ :: _, _ :: _, [], _, h => by cases h
  | x :: a, y :: b, z :: c, h1, h2 => by
    rcases h1 with h1 | ⟨rfl, h1⟩
    · rcases h2 with h2 | ⟨rfl, h2⟩
      · exact .inl (by omega)
      · exact .inl h1
    · rcases h2 with h2 | ⟨rfl, h2⟩
      · exact .inl h2
      · exact .inr ⟨rfl, llt_trans h1 h2⟩
theorem lessN_trans {a b c : List Nat} (h1 : lessN a b) (h2 : lessN b c) : lessN a c := by
  rcases h1 with h1 | ⟨e1, h1⟩
  · rcases h2 with h2 | ⟨e2, h2⟩
    · exact .inl (by omega)
    · exact .inl (by omega)
  · rcases h2 with h2 | ⟨e2, h2⟩
    · exact .inl (by omega)
    · exact .inr ⟨by omega, llt_trans h1 h2⟩

/-- The best of the days before d. -/
def Best (p : Pers) (d : Int) (l : List Nat) : Prop := (∃ b, p.lo ≤ b ∧ b ≤ p.hi ∧ l = p.denies b) ∧ ∀ b, p.lo ≤ b → b < d → ¬ lessN (p.denies b) l
theorem Best.step {p : Pers} {d : Int} {l : List Nat} (h : Best p d l) (h0 : p.lo ≤ d) (h1 : d ≤ p.hi) : Best p (d + 1) (if lessB (castL (p.denies d)) (castL l) = true then p.denies d else l) := by
  obtain ⟨h2, h3⟩ := h
  split
  · rename_i hl
    have hl := (lessB_iff _ _).1 hl
    refine ⟨⟨d, h0, h1, rfl⟩, fun b hb0 hb1 hlt => ?_⟩
    by_cases e : b = d
    · subst e
      rcases hlt with h | ⟨_, h⟩
      · omega
      · exact lltirr h
    · exact h3 b hb0 (by omega) (lessN_trans hlt hl)
  · rename_i hl
    rw [lessB_iff] at hl
    refine ⟨h2, fun b hb0 hb1 => ?_⟩
    by_cases e : b = d
    · subst e; exact hl
    · exact h3 b hb0 (by omega)
where
  lltirr : ∀ {a : List Nat}, llt a a → False
    | [], h => by cases h
    | _ :: _, h => by
      rcases h with h | ⟨_, h⟩
      · omega
      · exact lltirr h
theorem Best.end {p : Pers} {d : Int} {l : List Nat} (hp : p.fault = 0) (h : Best p d l) (hd : p.hi < d) : castL l = p.leave := by
  obtain ⟨⟨b, h0, h1, rfl⟩, h3⟩ := h
  obtain ⟨c, c0, c1, e, hc⟩ := leave_denies hp
  rw [e, lessN_tri (hc b h0 h1) (h3 c c0 (by omega))]
theorem denies_le (p : Pers) (hp : p.fault = 0) (b : Int) : (p.denies b).length ≤ 8 := by
  obtain ⟨_, n8, _⟩ := Pers.ok_facts hp
  have := dnTo_length p b p.nc
  have e : dnTo p b p.nc = p.denies b := rfl
  rw [e] at this; omega

set_option maxRecDepth 100000 in
set_option maxHeartbeats 8000000 in
theorem refLeave_any (v : Value) (p : Pers) (w : World) (h : PersIn w v p) (hp : p.fault = 0) :
    Calls Try.prog 35 #[v] w (GivesN w p.leave) := by
  obtain ⟨pn1, pn2, pn3, pl1, pl2, pl3, pl4, pl5, _⟩ := Pers.ok_facts hp
  have HPF := Lib.hid hp; clear hp
  have HP := Lib.hid h
  obtain ⟨rv, cv, rfl, h1, h2⟩ := h
  obtain ⟨ra, rc, rfl⟩ := h1.slice
  obtain ⟨ca, cc, rfl⟩ := h2.slice
  clear h1 h2
  have HB0 : Hid (Below w.heap.size w (w.alloc (.cells #[.int .i64 p.lo, .int .i64 p.hi, .slice ra p.nr rc, .slice ca p.nc cc] 36))) := below_alloc _ _
  have HK0 : Hid ((w.alloc (.cells #[.int .i64 p.lo, .int .i64 p.hi, .slice ra p.nr rc, .slice ca p.nc cc] 36)).heap[w.heap.size]? = some (.cells #[.int .i64 p.lo, .int .i64 p.hi, .slice ra p.nr rc, .slice ca p.nc cc] 36 (0, 0))) := heap_alloc_new _ _
  go_enter Try.func35, Try.ntmps35
  go_wp2_with fail
  refine (refAges_any _ p _ (HP.out.below HB0.out) HPF.out).mono ?_
  rintro _ w1 ⟨u1, rfl, hf1, hb1⟩
  have HK1 : Hid (w1.heap[w.heap.size]? = some (.cells #[.int .i64 p.lo, .int .i64 p.hi, .slice ra p.nr rc, .slice ca p.nc cc] 36 (0, 0))) := (hb1.block _ (by simp)).trans HK0.out
  have HB1 : Hid (Below w.heap.size w w1) := below_step HB0.out hb1
  have hs1 := (Array.getElem?_eq_some_iff.1 HK1.out).1
  have HF1 := Lib.hid hf1
  obtain ⟨ua, uc, rfl⟩ := hf1.slice
  obtain ⟨d0, d1, d2, d3⟩ := cells4 HK1.out
  clear hf1 hb1 HB0 HK0
  go_wp2_with fail
  refine (denies_any _ _ p p.lo _ (HP.out.below HB1.out) HPF.out HF1.out pl1 (by omega)).mono ?_
  rintro _ w2 ⟨v2, rfl, hi2, hb2⟩
  have HI2 := Lib.hid hi2
  have HB2 : Hid (Below w1.heap.size w1 w2) := hb2
  have HU0 : Hid (Best p p.lo (p.denies p.lo)) := ⟨⟨p.lo, Int.le_refl _, pl5, rfl⟩, fun b h0 h1 => by omega⟩
  clear hi2 hb2 d0 d1 d2 d3
  obtain ⟨d0, d1, d2, d3⟩ := cells4 ((HB2.out.block _ hs1).trans HK1.out)
  go_wp2_with fail
  clear d0 d1 d2 d3
  go_loopw [4, 5] (fun v i wr => ∃ d : Int, p.lo ≤ d ∧ d ≤ p.hi + 1 ∧ i = .int .i64 d ∧ ∃ l : List Nat, Best p d l ∧ IL wr v (castL l) ∧ Below w1.heap.size w1 wr) (fun _ i _ => (p.hi + 1 - intOf i).toNat)
  case atStart => exact ⟨p.lo, Int.le_refl _, by omega, rfl, _, HU0.out, HI2.out, HB2.out⟩
  case round =>
    clear HU0 HI2 HB2
    obtain ⟨d, hd0, hd1, rfl, l, hup, hil, hbl⟩ := hrel
    obtain ⟨av, ac, rfl⟩ := hil.ints.len
    have HUP := Lib.hid hup; have HIL := Lib.hid hil; have HBL := Lib.hid hbl
    have HBW : Hid (Below w.heap.size w wr) := below_step HB1.out hbl
    obtain ⟨d0, d1, d2, d3⟩ := cells4 ((hbl.block _ hs1).trans HK1.out)
    clear hup hil hbl
    by_cases hdh : d ≤ p.hi
    · go_wp2_with fail
      refine (denies_any _ _ p d _ (HP.out.below HBW.out) HPF.out (HF1.out.below HBL.out) (by omega) (by omega)).mono ?_
      rintro _ w3 ⟨v3, rfl, hi3, hb3⟩
      have HI3 := Lib.hid hi3
      obtain ⟨a3, c3, rfl⟩ := hi3.ints.len
      have HB3 : Hid (Below w1.heap.size w1 w3) := below_step HBL.out hb3
      have HIL3 := Lib.hid (HIL.out.below hb3)
      have HLE := Lib.hid (denies_le p HPF.out d)
      have HST := Lib.hid (HUP.out.step hd0 hdh)
      clear hi3 hb3 d0 d1 d2 d3
      go_wp2_with fail
      refine (less_any _ _ (castL (p.denies d)) (castL l) _ HI3.out.ints HIL3.out.ints (by rw [castL_length]; have := HLE.out; omega)).mono ?_
      rintro _ w4 ⟨rfl, hb4⟩
      have HI4 := Lib.hid (HI3.out.below hb4)
      have HIL4 := Lib.hid (HIL3.out.below hb4)
      have HB4 : Hid (Below w1.heap.size w1 w4) := below_step HB3.out hb4
      clear hb4
      cases hls : lessB (castL (p.denies d)) (castL l)
      · have HS2 : Hid (Best p (d + 1) l) := by have := HST.out; rw [hls] at this; exact this
        go_wp2_with fail
        go_roundw
        case rel => exact ⟨d + 1, by omega, by omega, rfl, l, HS2.out, HIL4.out, HB4.out⟩
        case measure => simp [intOf]; omega
      · have HS2 : Hid (Best p (d + 1) (p.denies d)) := by have := HST.out; rw [hls] at this; exact this
        go_wp2_with fail
        go_roundw
        case rel => exact ⟨d + 1, by omega, by omega, rfl, p.denies d, HS2.out, HI4.out, HB4.out⟩
        case measure => simp [intOf]; omega
    · have HE : Hid (castL l = p.leave) := HUP.out.end HPF.out (by omega)
      go_wp2
      go_ret
      exact ⟨_, rfl, by rw [← HE.out]; exact HIL.out, HBW.out⟩

set_option maxRecDepth 100000 in
set_option maxHeartbeats 8000000 in
theorem ageLeaves_walk (v : Value) (p : Pers) (w : World) (h : PersIn w v p) :
    Calls Try.prog 5 #[v] w fun e w' => e = .returned (.bool true) ∧ Below w.heap.size w w' := by
  have HP := Lib.hid h
  have HAW := Lib.hid awake_any
  obtain ⟨rv, cv, rfl, h1, h2⟩ := h
  obtain ⟨ra, rc, rfl⟩ := h1.slice
  obtain ⟨ca, cc, rfl⟩ := h2.slice
  clear h1 h2
  have HB0 : Hid (Below w.heap.size w (w.alloc (.cells #[.int .i64 p.lo, .int .i64 p.hi, .slice ra p.nr rc, .slice ca p.nc cc] 36))) := below_alloc _ _
  have HK0 : Hid ((w.alloc (.cells #[.int .i64 p.lo, .int .i64 p.hi, .slice ra p.nr rc, .slice ca p.nc cc] 36)).heap[w.heap.size]? = some (.cells #[.int .i64 p.lo, .int .i64 p.hi, .slice ra p.nr rc, .slice ca p.nc cc] 36 (0, 0))) := heap_alloc_new _ _
  cases ht : p.thin
  · go_enter Try.func5, Try.ntmps5
    go_wp2_with (first | (go_at_call 25; refine (thin_any _ p _ (HP.out.below HB0.out)).mono ?_; rintro _ w1 ⟨rfl, hb1⟩) | (go_at_call 20; refine (HAW.out _).mono ?_; rintro _ w3 ⟨rfl, hb3⟩))
    go_ret
    exact ⟨rfl, below_step (below_step HB0.out hb1) hb3⟩
  obtain ⟨pn1, pn2⟩ := thin_le ht
  go_enter Try.func5, Try.ntmps5
  go_wp2_with fail
  refine (thin_any _ p _ (HP.out.below HB0.out)).mono ?_
  rintro _ w1 ⟨rfl, hb1⟩
  have HK1 : Hid (w1.heap[w.heap.size]? = some (.cells #[.int .i64 p.lo, .int .i64 p.hi, .slice ra p.nr rc, .slice ca p.nc cc] 36 (0, 0))) := (hb1.block _ (by simp)).trans HK0.out
  have hs1 : w.heap.size < w1.heap.size := (Array.getElem?_eq_some_iff.1 HK1.out).1
  have HB1 : Hid (Below w.heap.size w w1) := below_step HB0.out hb1
  have HCELLS : Hid (∀ X : World, Below w1.heap.size w1 X → X.cell? ⟨w.heap.size, 0, none⟩ = some (.int .i64 p.lo) ∧ X.cell? ⟨w.heap.size, 1, none⟩ = some (.int .i64 p.hi) ∧ X.cell? ⟨w.heap.size, 2, none⟩ = some (.slice ra p.nr rc) ∧ X.cell? ⟨w.heap.size, 3, none⟩ = some (.slice ca p.nc cc)) := fun X hX => cells4 ((hX.block _ hs1).trans HK1.out)
  have HPX : Hid (∀ X : World, Below w1.heap.size w1 X → PersIn X (.agg #[.int .i64 p.lo, .int .i64 p.hi, .slice ra p.nr rc, .slice ca p.nc cc]) p) := fun X hX => HP.out.below (below_step HB1.out hX)
  obtain ⟨d0, d1, d2, d3⟩ := HCELLS.out w1 (Below.refl _ _)
  clear hb1 HB0 HK0
  go_wp2_with fail
  refine (person_any _ p _ (HPX.out _ (Below.refl _ _)) (by omega) (by omega)).mono ?_
  rintro _ w2 ⟨u2, rfl, hu2, hb2⟩
  have HU2 := Lib.hid hu2; clear hu2
  go_wp2_with fail
  refine (leave_any _ p _ HU2.out (by omega) (by omega)).mono ?_
  rintro _ w3 ⟨v3, rfl, hi3, hb3⟩
  have HB3 : Hid (Below w1.heap.size w1 w3) := below_step hb2 hb3
  have HI3 := Lib.hid hi3
  obtain ⟨a3, c3, rfl⟩ := hi3.ints.len
  clear hi3 hb2 hb3 d0 d1 d2 d3
  obtain ⟨d0, d1, d2, d3⟩ := HCELLS.out _ HB3.out
  go_wp2_with fail
  refine (fault_any _ p _ (HPX.out _ HB3.out)).mono ?_
  rintro _ w4 ⟨rfl, hb4⟩
  have HI4 := Lib.hid (HI3.out.below hb4)
  have HB4 : Hid (Below w1.heap.size w1 w4) := below_step HB3.out hb4
  clear hb4 d0 d1 d2 d3
  have hpp : (p.fault == p.fault) = true := by simp
  by_cases hf : p.fault = 0
  · have hf0 : (p.fault != 0) = false := by simp [hf]
    have hf1 : (p.fault == 0) = true := by simp [hf]
    have HPF := Lib.hid hf
    have HLE := Lib.hid (leave_le hf)
    clear hf
    obtain ⟨d0, d1, d2, d3⟩ := HCELLS.out _ HB4.out
    go_wp2_with fail
    refine (refLeave_any _ p _ (HPX.out _ HB4.out) HPF.out).mono ?_
    rintro _ w5 ⟨v5, rfl, hi5, hb5⟩
    have HI5 := Lib.hid hi5
    obtain ⟨a5, c5, rfl⟩ := hi5.ints.len
    have HB5 : Hid (Below w1.heap.size w1 w5) := below_step HB4.out hb5
    have HI45 := Lib.hid (HI4.out.below hb5)
    have HEQ : Hid (eqL p.leave.length p.leave.length (fun j => p.leave.getD j 0) (fun j => p.leave.getD j 0) = true) := by unfold Hid eqL; simp [allB]
    clear hi5 hb5 d0 d1 d2 d3
    go_wp2_with fail
    refine (ints_any _ _ p.leave.length p.leave.length _ _ _ HI45.out.ints HI5.out.ints (by have := HLE.out; omega) (by have := HLE.out; omega)).mono ?_
    rintro _ w6 ⟨rfl, hb6⟩
    rw [HEQ.out]
    go_wp2_with (go_at_call 20; refine (HAW.out _).mono ?_; rintro _ w12 ⟨rfl, hb12⟩)
    go_ret
    exact ⟨rfl, below_step (below_step (below_step HB1.out HB5.out) hb6) hb12⟩
  · have hf0 : (p.fault != 0) = true := by simp [hf]
    have hln : p.leave = [] := by unfold Pers.leave; rw [if_neg hf]
    rw [hln]
    clear hf hln
    go_wp2_with (go_at_call 20; refine (HAW.out _).mono ?_; rintro _ w12 ⟨rfl, hb12⟩)
    go_ret
    exact ⟨rfl, below_step (below_step HB1.out HB4.out) hb12⟩
end Go.Proofs.Ytagfcfojfjkmbaa
