/- Walk: CheckMap. Printed by gen_wd.py. -/
import Derived.Test.YtpnkgjkoophckaaWC
namespace Go.Proofs.Ytpnkgjkoophckaa
open Go.RowKit Go.Shelf

theorem cells2 {W : World} {B : Nat} {a b : Value} {t : TypeId} {f : Nat × Nat} (h : W.heap[B]? = some (.cells #[a, b] t f)) : W.cell? ⟨B, 0, none⟩ = some a ∧ W.cell? ⟨B, 1, none⟩ = some b :=
  ⟨cell_of_row _ _ 0 _ _ _ h, cell_of_row _ _ 1 _ _ _ h⟩
theorem fault_eq (m : Mp) : m.fault = if 8 < m.nw ∨ 20 < m.nr then 3 else if (decide (1 ≤ m.nw) && allB (fun i => insideR (m.wk i) 0 50) m.nw && allB m.roadOk m.nr) = true then 0 else 1 := rfl
set_option maxHeartbeats 4000000 in
theorem check_any (x : MV) (m : Mp) (w : World) (h : MpIn w x m) (hnw : m.nw ≤ 100000) (hlen : m.nr ≤ 100000) :
    Calls Try.prog 51 #[.agg #[.slice x.wa m.nw x.wc, .slice x.ra m.nr x.rc]] w fun e w' => e = .returned (.int .i64 m.fault) ∧ Below w.heap.size w w' := by
  have HAW := Lib.hid (fun W (hW : Below w.heap.size w W) => all_work m.nw x.wa x.wc m.wk W hnw (h.wk.below hW))
  have HRO := Lib.hid (fun W (hW : Below w.heap.size w W) => roads_any x m W (h.below hW) hnw hlen)
  have HFA := Lib.hid (fault_eq m)
  clear h
  generalize allB (fun i => insideR (m.wk i) 0 50) m.nw = r1 at *
  generalize allB m.roadOk m.nr = r2 at *
  generalize m.fault = ft at *
  generalize m.nw = n at *
  generalize m.nr = q at *
  have HB0 : Hid (Below w.heap.size w (w.alloc (.cells #[.slice x.wa n x.wc, .slice x.ra q x.rc] 37))) := below_alloc _ _
  have HK0 : Hid ((w.alloc (.cells #[.slice x.wa n x.wc, .slice x.ra q x.rc] 37)).heap[w.heap.size]? = some (.cells #[.slice x.wa n x.wc, .slice x.ra q x.rc] 37 (0, 0))) := heap_alloc_new _ _
  have HX0 : Hid (Below (w.alloc (.cells #[.slice x.wa n x.wc, .slice x.ra q x.rc] 37)).heap.size (w.alloc (.cells #[.slice x.wa n x.wc, .slice x.ra q x.rc] 37)) (w.alloc (.cells #[.slice x.wa n x.wc, .slice x.ra q x.rc] 37))) := Below.refl _ _
  have HCE : Hid (∀ X : World, Below (w.alloc (.cells #[.slice x.wa n x.wc, .slice x.ra q x.rc] 37)).heap.size (w.alloc (.cells #[.slice x.wa n x.wc, .slice x.ra q x.rc] 37)) X → X.cell? ⟨w.heap.size, 0, none⟩ = some (.slice x.wa n x.wc) ∧ X.cell? ⟨w.heap.size, 1, none⟩ = some (.slice x.ra q x.rc)) := fun X hX => cells2 ((hX.block _ (by simp)).trans HK0.out)
  go_enter Try.func51, Try.ntmps51
  by_cases k1 : 8 < n
  · go_wp2_with (fail)
    go_ret
    exact ⟨ret_int (by rw [HFA.out]; rw [if_pos (.inl k1)]), HB0.out.trans (HX0.out.mono HB0.out.size)⟩
  by_cases k2 : 20 < q
  · go_wp2_with (fail)
    go_ret
    exact ⟨ret_int (by rw [HFA.out]; rw [if_pos (.inr k2)]), HB0.out.trans (HX0.out.mono HB0.out.size)⟩
  by_cases k3 : n = 0
  · subst k3
    go_wp2_with (fail)
    go_ret
    exact ⟨ret_int (by rw [HFA.out]; rw [if_neg (by omega), if_neg (by simp)]), HB0.out.trans (HX0.out.mono HB0.out.size)⟩
  cases r1
  · go_wp2_with (first | (go_at_call 83; refine (HAW.out _ (HB0.out.trans (HX0.out.mono HB0.out.size))).mono ?_; rintro _ x1 ⟨rfl, hb⟩; have HX1 := Lib.hid (below_step HX0.out hb); obtain ⟨d0, d1⟩ := HCE.out _ HX1.out; clear hb))
    go_ret
    exact ⟨ret_int (by rw [HFA.out]; rw [if_neg (by omega), if_neg (by simp)]), HB0.out.trans (HX1.out.mono HB0.out.size)⟩
  cases r2
  · go_wp2_with (first | (go_at_call 83; refine (HAW.out _ (HB0.out.trans (HX0.out.mono HB0.out.size))).mono ?_; rintro _ x1 ⟨rfl, hb⟩; have HX1 := Lib.hid (below_step HX0.out hb); obtain ⟨d0, d1⟩ := HCE.out _ HX1.out; clear hb) | (go_at_call 85; refine (HRO.out _ (HB0.out.trans (HX1.out.mono HB0.out.size))).mono ?_; rintro _ x2 ⟨rfl, hb⟩; have HX2 := Lib.hid (below_step HX1.out hb); obtain ⟨d0, d1⟩ := HCE.out _ HX2.out; clear hb))
    go_ret
    exact ⟨ret_int (by rw [HFA.out]; rw [if_neg (by omega), if_neg (by simp)]), HB0.out.trans (HX2.out.mono HB0.out.size)⟩
  · go_wp2_with (first | (go_at_call 83; refine (HAW.out _ (HB0.out.trans (HX0.out.mono HB0.out.size))).mono ?_; rintro _ x1 ⟨rfl, hb⟩; have HX1 := Lib.hid (below_step HX0.out hb); obtain ⟨d0, d1⟩ := HCE.out _ HX1.out; clear hb) | (go_at_call 85; refine (HRO.out _ (HB0.out.trans (HX1.out.mono HB0.out.size))).mono ?_; rintro _ x2 ⟨rfl, hb⟩; have HX2 := Lib.hid (below_step HX1.out hb); obtain ⟨d0, d1⟩ := HCE.out _ HX2.out; clear hb))
    go_ret
    exact ⟨ret_int (by rw [HFA.out]; rw [if_neg (by omega), if_pos (by simp; omega)]), HB0.out.trans (HX2.out.mono HB0.out.size)⟩
end Go.Proofs.Ytpnkgjkoophckaa
