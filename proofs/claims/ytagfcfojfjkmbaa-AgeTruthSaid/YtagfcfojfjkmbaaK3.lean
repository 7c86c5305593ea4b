/- AgeTruth: the walk. -/
import Derived.Test.YtagfcfojfjkmbaaK2
import Derived.Deep.DeepCutAuto
namespace Go.Proofs.Ytagfcfojfjkmbaa
open Go.RowKit Go.Shelf

theorem ne_of_has {l : RL} {b : Int} (h : hasR l b = true) : l ≠ [] := by rintro rfl; simp [hasR] at h

set_option maxRecDepth 100000 in
set_option maxHeartbeats 8000000 in
theorem ageTruth_walk (v wv : Value) (p : Pers) (n : Nat) (z : Nat → Int) (dd : Int) (w : World) (h : PersIn w v p) (hz : WordsIn w wv n z) (hn : n ≤ maxLen) (hd0 : 0 ≤ dd) (hd1 : dd ≤ 65535) :
    Calls Try.prog 12 #[v, wv, .int .u16 dd] w fun e w' => e = .returned (.bool true) ∧ Below w.heap.size w w' := by
  have HP := Lib.hid h
  have HAW := Lib.hid awake_any
  obtain ⟨rv, cv, rfl, h1, h2⟩ := h
  obtain ⟨ra, rc, rfl⟩ := h1.slice
  obtain ⟨ca, cc, rfl⟩ := h2.slice
  clear h1 h2
  have HZ := Lib.hid hz
  obtain ⟨la, lc, rfl⟩ := hz.len
  clear hz
  have HNN := Lib.hid hn; clear hn
  have HB0 : Hid (Below w.heap.size w (w.alloc (.cells #[.int .i64 p.lo, .int .i64 p.hi, .slice ra p.nr rc, .slice ca p.nc cc] 36))) := below_alloc _ _
  have HK0 : Hid ((w.alloc (.cells #[.int .i64 p.lo, .int .i64 p.hi, .slice ra p.nr rc, .slice ca p.nc cc] 36)).heap[w.heap.size]? = some (.cells #[.int .i64 p.lo, .int .i64 p.hi, .slice ra p.nr rc, .slice ca p.nc cc] 36 (0, 0))) := heap_alloc_new _ _
  cases hp : (p.fault == 0)
  · go_enter Try.func12, Try.ntmps12
    go_wp2_with (first | (go_at_call 36; refine (ready_any _ p _ (HP.out.below HB0.out)).mono ?_; rintro _ w1 ⟨rfl, hb1⟩) | (go_at_call 20; refine (HAW.out _).mono ?_; rintro _ w3 ⟨rfl, hb3⟩))
    go_ret
    exact ⟨rfl, below_step (below_step HB0.out hb1) hb3⟩
  have hpf : p.fault = 0 := by simpa using hp
  obtain ⟨pn1, pn2, pn3, pl1, pl2, pl3, pl4, pl5, _⟩ := Pers.ok_facts hpf
  have HPF := Lib.hid hpf; clear hpf
  go_enter Try.func12, Try.ntmps12
  go_wp2_with fail
  refine (ready_any _ p _ (HP.out.below HB0.out)).mono ?_
  rintro _ w1 ⟨rfl, hb1⟩
  have HK1 : Hid (w1.heap[w.heap.size]? = some (.cells #[.int .i64 p.lo, .int .i64 p.hi, .slice ra p.nr rc, .slice ca p.nc cc] 36 (0, 0))) := (hb1.block _ (by simp)).trans HK0.out
  have HB1 : Hid (Below w.heap.size w w1) := below_step HB0.out hb1
  obtain ⟨d0, d1, d2, d3⟩ := cells4 HK1.out
  clear hb1 HB0 HK0
  go_wp2_with fail
  refine (truly_any _ _ p n z _ (HP.out.below HB1.out) HPF.out (HZ.out.below HB1.out) HNN.out).mono ?_
  rintro _ w2 ⟨u2, x, birth, rfl, HX2, HTO, hb2⟩
  obtain ⟨xf, xb1, xb2, xh⟩ := HTO.out
  have HB2 : Hid (Below w.heap.size w w2) := below_step HB1.out hb2
  have HXF := Lib.hid xf; have HXH := Lib.hid xh
  obtain ⟨xn1, xn2, xn3, xl1, xl2, xl3, xl4, xl5, _⟩ := Pers.ok_facts xf
  have hX2 := HX2.out
  obtain ⟨xr, xc, rfl, g1, g2⟩ := hX2
  obtain ⟨xra, xrc, rfl⟩ := g1.slice
  obtain ⟨xca, xcc, rfl⟩ := g2.slice
  have HNE : Hid (x.born ≠ []) := ne_of_has xh
  have HBE : Hid (x.bErr = 0) := by unfold Hid; rw [bErr_of xf, if_neg HNE.out]
  have HLV : Hid (x.leave = []) := (leave_nil xf).2 HNE.out
  have hlb := born_length x
  clear hb2 HK1 d0 d1 d2 d3 g1 g2 xf xh hp
  have HBX : Hid (Below w2.heap.size w2 (w2.alloc (.cells #[.int .i64 x.lo, .int .i64 x.hi, .slice xra x.nr xrc, .slice xca x.nc xcc] 36))) := below_alloc _ _
  have HKX : Hid ((w2.alloc (.cells #[.int .i64 x.lo, .int .i64 x.hi, .slice xra x.nr xrc, .slice xca x.nc xcc] 36)).heap[w2.heap.size]? = some (.cells #[.int .i64 x.lo, .int .i64 x.hi, .slice xra x.nr xrc, .slice xca x.nc xcc] 36 (0, 0))) := heap_alloc_new _ _
  go_wp2_with fail
  refine (person_any _ x _ (HX2.out.below HBX.out) (by omega) (by omega)).mono ?_
  rintro _ w3 ⟨u3, rfl, hu3, hb3⟩
  have HU3 := Lib.hid hu3
  go_wp2_with fail
  refine (Births_any _ x _ HU3.out (by omega) (by omega)).mono ?_
  rintro _ w4 ⟨v4, rfl, hr4, hb4⟩
  have HR4 := Lib.hid hr4
  have HB4 : Hid (Below w2.heap.size w2 w4) := below_step (below_step HBX.out hb3) hb4
  have HK4 : Hid (w4.heap[w2.heap.size]? = some (.cells #[.int .i64 x.lo, .int .i64 x.hi, .slice xra x.nr xrc, .slice xca x.nc xcc] 36 (0, 0))) := ((below_step hb3 hb4).block _ (by simp)).trans HKX.out
  have hs4 := (Array.getElem?_eq_some_iff.1 HK4.out).1
  obtain ⟨d0, d1, d2, d3⟩ := cells4 HK4.out
  rw [HBE.out]
  clear hu3 hb3 hb4 hr4 HKX HBX
  go_wp2_with fail
  refine (person_any _ x _ (HX2.out.below HB4.out) (by omega) (by omega)).mono ?_
  rintro _ w5 ⟨u5, rfl, hu5, hb5⟩
  have HU5 := Lib.hid hu5
  go_wp2_with fail
  refine (leave_any _ x _ HU5.out (by omega) (by omega)).mono ?_
  rintro _ w6 ⟨v6, rfl, hi6, hb6⟩
  have HB46 : Hid (Below w4.heap.size w4 w6) := below_step hb5 hb6
  have HB6 : Hid (Below w2.heap.size w2 w6) := below_step HB4.out HB46.out
  have HR6 := Lib.hid (HR4.out.rg.kept HB46.out)
  rw [HXF.out]
  obtain ⟨a6, c6, rfl⟩ := hi6.ints.len
  rw [HLV.out]
  clear d0 d1 d2 d3 hu5 hb5 hb6 hi6
  obtain ⟨d0, d1, d2, d3⟩ := cells4 ((HB46.out.block _ hs4).trans HK4.out)
  go_wp2_with fail
  refine (has_any _ x.born _ _ (by omega) HR6.out).mono ?_
  rintro _ _ ⟨rfl, rfl⟩
  rw [HXH.out]
  go_wp2_with fail
  refine (person_any _ x _ (HX2.out.below HB6.out) (by omega) (by omega)).mono ?_
  rintro _ w7 ⟨u7, rfl, hu7, hb7⟩
  have HU7 := Lib.hid hu7
  go_wp2_with fail
  refine (prove_any _ x _ _ HU7.out (by omega) (by omega)).mono ?_
  rintro _ w8 ⟨rfl, hb8⟩
  rw [HXH.out]
  have HB68 : Hid (Below w6.heap.size w6 w8) := below_step hb7 hb8
  have HB8 : Hid (Below w2.heap.size w2 w8) := below_step HB6.out HB68.out
  clear d0 d1 d2 d3 hu7 hb7 hb8
  have hs6 := (Array.getElem?_eq_some_iff.1 ((HB46.out.block _ hs4).trans HK4.out)).1
  obtain ⟨d0, d1, d2, d3⟩ := cells4 ((HB68.out.block _ hs6).trans ((HB46.out.block _ hs4).trans HK4.out))
  go_upto_region 8 with fail
  go_cut [13] (fun s wx => ∃ on : Int, s = .int .i64 on ∧ birth ≤ on ∧ on ≤ 50000 ∧ wx = w8)
  case first =>
    go_wp2_with fail
    all_goals
      go_meet
      exact ⟨_, rfl, by omega, by omega, rfl⟩
  obtain ⟨on, rfl, hon1, hon2, rfl⟩ := hcut
  have HOE : Hid (x.onE on = 0) := onE_ok HXF.out ⟨by omega, by omega⟩ HXH.out hon1
  have HOH : Hid (hasR (x.on on) ((on - birth) / 365) = true) := ((on_facts HXF.out on HOE.out).2 _).2 ⟨birth, HXH.out, hon1, rfl⟩
  have HAGE : Hid (∀ W : World, Calls Try.prog 52 #[.int .i64 birth, .int .i64 on] W fun r w' => r = .returned (.tuple #[.int .i64 ((on - birth) / 365), .int .i64 0]) ∧ W = w') := fun W => (age_any birth on W).mono fun r w' ⟨h1, h2⟩ => by
    have hE : agE birth on = 0 := by unfold agE; rw [if_pos ⟨by simp [inB]; omega, by simp [inB]; omega, hon1⟩]
    have hR : agR birth on = (on - birth) / 365 := by unfold agR; rw [if_pos hE]
    rw [hE, hR] at h1
    exact ⟨h1, h2⟩
  go_wp2_with fail
  refine (person_any _ x _ (HX2.out.below HB8.out) (by omega) (by omega)).mono ?_
  rintro _ w9 ⟨u9, rfl, hu9, hb9⟩
  have HU9 := Lib.hid hu9
  go_wp2_with fail
  refine (on_any _ x on _ HU9.out (by omega) (by omega)).mono ?_
  rintro _ w10 ⟨v10, rfl, hr10, hb10⟩
  rw [HOE.out]
  have HR10 := Lib.hid hr10
  have HB10 : Hid (Below w2.heap.size w2 w10) := below_step HB8.out (below_step hb9 hb10)
  have HOL : Hid ((x.on on).length ≤ 1000) := on_length x on
  clear d0 d1 d2 d3 hu9 hb9 hb10 hr10
  go_wp2_with fail
  refine (HAGE.out _).mono ?_
  rintro _ _ ⟨rfl, rfl⟩
  go_wp2_with fail
  refine (has_any _ (x.on on) _ _ (by have := HOL.out; omega) HR10.out.rg).mono ?_
  rintro _ _ ⟨rfl, rfl⟩
  rw [HOH.out]
  go_wp2_with (go_at_call 20; refine (HAW.out _).mono ?_; rintro _ w12 ⟨rfl, hb12⟩)
  go_ret
  exact ⟨rfl, below_step (below_step HB2.out HB10.out) hb12⟩
end Go.Proofs.Ytagfcfojfjkmbaa
