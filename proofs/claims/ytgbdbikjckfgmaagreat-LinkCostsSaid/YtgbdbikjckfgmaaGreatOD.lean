/- Link: LinkCosts' walk. Printed by gen_od.py. -/
import Derived.Test.YtgbdbikjckfgmaaGreatOC
namespace Go.Proofs.YtgbdbikjckfgmaaGreat
open Go.RowKit Go.Shelf

set_option maxRecDepth 100000 in
set_option maxHeartbeats 32000000 in
theorem linkCosts_thick (x : FV) (f : Fl) (o k : Int) (w : World) (h : FlQ QR w x f) (ht : f.thin = false) :
    Calls Tryz.prog 5 #[.agg #[.slice x.oa f.no x.oc, .slice x.na f.nw x.nc, .slice x.ma f.nm x.mc], .int .i64 o, .int .i64 k] w fun e w' => e = .returned (.bool true) ∧ Below w.heap.size w w' := by
  obtain ⟨oa, oc, na, nc, ma, mc⟩ := x
  have HTH := Lib.hid (thinW ⟨oa, oc, na, nc, ma, mc⟩ f w h false ht)
  clear h ht
  dsimp only at HTH ⊢
  generalize f.no = no at *
  generalize f.nw = nw at *
  generalize f.nm = nm at *
  have HA := Lib.hid ((BF.base w).alloc #[.slice oa no oc, .slice na nw nc, .slice ma nm mc] 25)
  go_enter Tryz.func5, Tryz.ntmps5
  have c0 := HA.out.cell (.head _) 0
  have c1 := HA.out.cell (.head _) 1
  have c2 := HA.out.cell (.head _) 2
  go_wp2_with fail
  refine (HTH.out _ HA.out.fr).mono ?_
  rintro _ w1 ⟨rfl, hb⟩
  have HA' := Lib.hid (HA.out.below hb)
  clear HA
  have HA := HA'
  clear HA'
  clear hb c0 c1 c2
  go_wp2_with fail
  refine (awake5_any _).mono ?_
  rintro _ w2 ⟨rfl, hb⟩
  have HA' := Lib.hid (HA.out.below hb)
  clear HA
  have HA := HA'
  clear HA'
  clear hb
  go_wp2_with fail
  go_ret
  exact ⟨rfl, HA.out.fr⟩
set_option maxRecDepth 100000 in
set_option maxHeartbeats 32000000 in
theorem linkCosts_bad (x : FV) (f : Fl) (o k : Int) (w : World) (h : FlQ QR w x f) (ht : f.thin = true) (hf : f.fault ≠ 0) :
    Calls Tryz.prog 5 #[.agg #[.slice x.oa f.no x.oc, .slice x.na f.nw x.nc, .slice x.ma f.nm x.mc], .int .i64 o, .int .i64 k] w fun e w' => e = .returned (.bool true) ∧ Below w.heap.size w w' := by
  obtain ⟨oa, oc, na, nc, ma, mc⟩ := x
  have HTH := Lib.hid (thinW ⟨oa, oc, na, nc, ma, mc⟩ f w h true ht)
  have HFI := Lib.hid (fileW ⟨oa, oc, na, nc, ma, mc⟩ f w h ht)
  have HPA : Hid (∀ (z : FV) X, FlQ QP X z f → Calls Tryz.prog 31 #[.agg #[.slice z.oa f.no z.oc, .slice z.na f.nw z.nc, .slice z.ma f.nm z.mc], .int .i64 o, .int .i64 k] X fun e w' => e = .returned (.tuple #[.int .i64 0, .int .i64 f.fault]) ∧ Below X.heap.size X w') := fun z X hq => costF_bad o k z f X hq (by have := (thin_bd ht).1; omega) (by have := (thin_bd ht).2.1; omega) (by have := (thin_bd ht).2.2.1; omega) hf
  have HFA := Lib.hid (faultW ⟨oa, oc, na, nc, ma, mc⟩ f w h f.fault rfl)
  have kf : (f.fault == 0) = false := by simp [hf]
  clear h ht hf
  dsimp only at HTH HFI HFA ⊢
  generalize f.fault = ft at *
  generalize f.no = no at *
  generalize f.nw = nw at *
  generalize f.nm = nm at *
  have HA := Lib.hid ((BF.base w).alloc #[.slice oa no oc, .slice na nw nc, .slice ma nm mc] 25)
  go_enter Tryz.func5, Tryz.ntmps5
  have c0 := HA.out.cell (.head _) 0
  have c1 := HA.out.cell (.head _) 1
  have c2 := HA.out.cell (.head _) 2
  go_wp2_with fail
  refine (HTH.out _ HA.out.fr).mono ?_
  rintro _ w1 ⟨rfl, hb⟩
  have HA' := Lib.hid (HA.out.below hb)
  clear HA
  have HA := HA'
  clear HA'
  clear hb c0 c1 c2
  have c0 := HA.out.cell (.head _) 0
  have c1 := HA.out.cell (.head _) 1
  have c2 := HA.out.cell (.head _) 2
  go_wp2_with fail
  refine (HFI.out _ HA.out.fr).mono ?_
  rintro _ w2 ⟨z, rfl, hq, hb⟩
  have HA' := Lib.hid (HA.out.below hb)
  clear HA
  have HA := HA'
  clear HA'
  have HQ := Lib.hid hq
  clear hq hb c0 c1 c2
  go_wp2_with fail
  refine (HPA.out z _ HQ.out).mono ?_
  rintro _ w3 ⟨rfl, hb⟩
  have HA' := Lib.hid (HA.out.below hb)
  clear HA
  have HA := HA'
  clear HA'
  clear hb
  clear HQ
  have c0 := HA.out.cell (.head _) 0
  have c1 := HA.out.cell (.head _) 1
  have c2 := HA.out.cell (.head _) 2
  go_wp2_with fail
  refine (HFA.out _ HA.out.fr).mono ?_
  rintro _ w4 ⟨rfl, hb⟩
  have HA' := Lib.hid (HA.out.below hb)
  clear HA
  have HA := HA'
  clear HA'
  clear hb c0 c1 c2
  go_wp2_with fail
  refine (awake5_any _).mono ?_
  rintro _ w5 ⟨rfl, hb⟩
  have HA' := Lib.hid (HA.out.below hb)
  clear HA
  have HA := HA'
  clear HA'
  clear hb
  go_wp2_with fail
  go_ret
  exact ⟨rfl, HA.out.fr⟩
set_option maxRecDepth 100000 in
set_option maxHeartbeats 32000000 in
theorem linkCosts_out1 (x : FV) (f : Fl) (o k : Int) (w : World) (h : FlQ QR w x f) (ht : f.thin = true) (hf : f.fault = 0) (h1 : inB o 0 ((f.no : Int) - 1) = false) :
    Calls Tryz.prog 5 #[.agg #[.slice x.oa f.no x.oc, .slice x.na f.nw x.nc, .slice x.ma f.nm x.mc], .int .i64 o, .int .i64 k] w fun e w' => e = .returned (.bool true) ∧ Below w.heap.size w w' := by
  obtain ⟨oa, oc, na, nc, ma, mc⟩ := x
  have OK := Lib.hid (Fl.ok hf)
  have hno := OK.out.no
  have hnw := OK.out.nw
  have HCV : f.costV o k = (0, 2) := by unfold Fl.costV; rw [h1]; rfl
  have HTH := Lib.hid (thinW ⟨oa, oc, na, nc, ma, mc⟩ f w h true ht)
  have HFI := Lib.hid (fileW ⟨oa, oc, na, nc, ma, mc⟩ f w h ht)
  have HPA : Hid (∀ (z : FV) X, FlQ QP X z f → Calls Tryz.prog 31 #[.agg #[.slice z.oa f.no z.oc, .slice z.na f.nw z.nc, .slice z.ma f.nm z.mc], .int .i64 o, .int .i64 k] X fun e w' => e = .returned (.tuple #[.int .i64 0, .int .i64 2]) ∧ Below X.heap.size X w') := fun z X hq => by
    have h := costF_ok o k z f X hq hf
    rw [HCV] at h
    exact h
  have HFA := Lib.hid (faultW ⟨oa, oc, na, nc, ma, mc⟩ f w h 0 hf)
  have kw1 : IntKind.i64.wrap ((f.no : Int) - 1) = (f.no : Int) - 1 := IntWalk.i64_in _ (by omega)
  have kw2 : IntKind.i64.wrap ((f.nw : Int) - 1) = (f.nw : Int) - 1 := IntWalk.i64_in _ (by omega)
  have HI1 : Hid (∀ X, Calls Tryz.prog 32 #[.int .i64 o, .int .i64 0, .int .i64 ((f.no : Int) - 1)] X fun e w' => e = .returned (.bool false) ∧ X = w') := fun X => by rw [← h1]; exact refIn_any _ _ _ X
  clear h1
  clear h ht hf OK HCV
  dsimp only at HTH HFI HFA ⊢
  generalize f.no = no at *
  generalize f.nw = nw at *
  generalize f.nm = nm at *
  have HA := Lib.hid ((BF.base w).alloc #[.slice oa no oc, .slice na nw nc, .slice ma nm mc] 25)
  go_enter Tryz.func5, Tryz.ntmps5
  have c0 := HA.out.cell (.head _) 0
  have c1 := HA.out.cell (.head _) 1
  have c2 := HA.out.cell (.head _) 2
  go_wp2_with fail
  refine (HTH.out _ HA.out.fr).mono ?_
  rintro _ w1 ⟨rfl, hb⟩
  have HA' := Lib.hid (HA.out.below hb)
  clear HA
  have HA := HA'
  clear HA'
  clear hb c0 c1 c2
  have c0 := HA.out.cell (.head _) 0
  have c1 := HA.out.cell (.head _) 1
  have c2 := HA.out.cell (.head _) 2
  go_wp2_with fail
  refine (HFI.out _ HA.out.fr).mono ?_
  rintro _ w2 ⟨z, rfl, hq, hb⟩
  have HA' := Lib.hid (HA.out.below hb)
  clear HA
  have HA := HA'
  clear HA'
  have HQ := Lib.hid hq
  clear hq hb c0 c1 c2
  go_wp2_with fail
  refine (HPA.out z _ HQ.out).mono ?_
  rintro _ w3 ⟨rfl, hb⟩
  have HA' := Lib.hid (HA.out.below hb)
  clear HA
  have HA := HA'
  clear HA'
  clear hb
  clear HQ
  have c0 := HA.out.cell (.head _) 0
  have c1 := HA.out.cell (.head _) 1
  have c2 := HA.out.cell (.head _) 2
  go_wp2_with fail
  refine (HFA.out _ HA.out.fr).mono ?_
  rintro _ w4 ⟨rfl, hb⟩
  have HA' := Lib.hid (HA.out.below hb)
  clear HA
  have HA := HA'
  clear HA'
  clear hb c0 c1 c2
  have c0 := HA.out.cell (.head _) 0
  have c1 := HA.out.cell (.head _) 1
  have c2 := HA.out.cell (.head _) 2
  go_wp2_with fail
  refine (HI1.out _).mono ?_
  rintro _ wi ⟨rfl, rfl⟩
  clear c0 c1 c2
  go_wp2_with fail
  refine (awake5_any _).mono ?_
  rintro _ w5 ⟨rfl, hb⟩
  have HA' := Lib.hid (HA.out.below hb)
  clear HA
  have HA := HA'
  clear HA'
  clear hb
  go_wp2_with fail
  go_ret
  exact ⟨rfl, HA.out.fr⟩
set_option maxRecDepth 100000 in
set_option maxHeartbeats 32000000 in
theorem linkCosts_out2 (x : FV) (f : Fl) (o k : Int) (w : World) (h : FlQ QR w x f) (ht : f.thin = true) (hf : f.fault = 0) (h1 : inB o 0 ((f.no : Int) - 1) = true) (h2 : inB k 0 ((f.nw : Int) - 1) = false) :
    Calls Tryz.prog 5 #[.agg #[.slice x.oa f.no x.oc, .slice x.na f.nw x.nc, .slice x.ma f.nm x.mc], .int .i64 o, .int .i64 k] w fun e w' => e = .returned (.bool true) ∧ Below w.heap.size w w' := by
  obtain ⟨oa, oc, na, nc, ma, mc⟩ := x
  have OK := Lib.hid (Fl.ok hf)
  have hno := OK.out.no
  have hnw := OK.out.nw
  have HCV : f.costV o k = (0, 2) := by unfold Fl.costV; rw [h1, h2]; rfl
  have HTH := Lib.hid (thinW ⟨oa, oc, na, nc, ma, mc⟩ f w h true ht)
  have HFI := Lib.hid (fileW ⟨oa, oc, na, nc, ma, mc⟩ f w h ht)
  have HPA : Hid (∀ (z : FV) X, FlQ QP X z f → Calls Tryz.prog 31 #[.agg #[.slice z.oa f.no z.oc, .slice z.na f.nw z.nc, .slice z.ma f.nm z.mc], .int .i64 o, .int .i64 k] X fun e w' => e = .returned (.tuple #[.int .i64 0, .int .i64 2]) ∧ Below X.heap.size X w') := fun z X hq => by
    have h := costF_ok o k z f X hq hf
    rw [HCV] at h
    exact h
  have HFA := Lib.hid (faultW ⟨oa, oc, na, nc, ma, mc⟩ f w h 0 hf)
  have kw1 : IntKind.i64.wrap ((f.no : Int) - 1) = (f.no : Int) - 1 := IntWalk.i64_in _ (by omega)
  have kw2 : IntKind.i64.wrap ((f.nw : Int) - 1) = (f.nw : Int) - 1 := IntWalk.i64_in _ (by omega)
  have HI1 : Hid (∀ X, Calls Tryz.prog 32 #[.int .i64 o, .int .i64 0, .int .i64 ((f.no : Int) - 1)] X fun e w' => e = .returned (.bool true) ∧ X = w') := fun X => by rw [← h1]; exact refIn_any _ _ _ X
  have HI2 : Hid (∀ X, Calls Tryz.prog 32 #[.int .i64 k, .int .i64 0, .int .i64 ((f.nw : Int) - 1)] X fun e w' => e = .returned (.bool false) ∧ X = w') := fun X => by rw [← h2]; exact refIn_any _ _ _ X
  clear h1 h2
  clear h ht hf OK HCV
  dsimp only at HTH HFI HFA ⊢
  generalize f.no = no at *
  generalize f.nw = nw at *
  generalize f.nm = nm at *
  have HA := Lib.hid ((BF.base w).alloc #[.slice oa no oc, .slice na nw nc, .slice ma nm mc] 25)
  go_enter Tryz.func5, Tryz.ntmps5
  have c0 := HA.out.cell (.head _) 0
  have c1 := HA.out.cell (.head _) 1
  have c2 := HA.out.cell (.head _) 2
  go_wp2_with fail
  refine (HTH.out _ HA.out.fr).mono ?_
  rintro _ w1 ⟨rfl, hb⟩
  have HA' := Lib.hid (HA.out.below hb)
  clear HA
  have HA := HA'
  clear HA'
  clear hb c0 c1 c2
  have c0 := HA.out.cell (.head _) 0
  have c1 := HA.out.cell (.head _) 1
  have c2 := HA.out.cell (.head _) 2
  go_wp2_with fail
  refine (HFI.out _ HA.out.fr).mono ?_
  rintro _ w2 ⟨z, rfl, hq, hb⟩
  have HA' := Lib.hid (HA.out.below hb)
  clear HA
  have HA := HA'
  clear HA'
  have HQ := Lib.hid hq
  clear hq hb c0 c1 c2
  go_wp2_with fail
  refine (HPA.out z _ HQ.out).mono ?_
  rintro _ w3 ⟨rfl, hb⟩
  have HA' := Lib.hid (HA.out.below hb)
  clear HA
  have HA := HA'
  clear HA'
  clear hb
  clear HQ
  have c0 := HA.out.cell (.head _) 0
  have c1 := HA.out.cell (.head _) 1
  have c2 := HA.out.cell (.head _) 2
  go_wp2_with fail
  refine (HFA.out _ HA.out.fr).mono ?_
  rintro _ w4 ⟨rfl, hb⟩
  have HA' := Lib.hid (HA.out.below hb)
  clear HA
  have HA := HA'
  clear HA'
  clear hb c0 c1 c2
  have c0 := HA.out.cell (.head _) 0
  have c1 := HA.out.cell (.head _) 1
  have c2 := HA.out.cell (.head _) 2
  go_wp2_with fail
  refine (HI1.out _).mono ?_
  rintro _ wi ⟨rfl, rfl⟩
  go_wp2_with fail
  refine (HI2.out _).mono ?_
  rintro _ wi ⟨rfl, rfl⟩
  clear c0 c1 c2
  go_wp2_with fail
  refine (awake5_any _).mono ?_
  rintro _ w5 ⟨rfl, hb⟩
  have HA' := Lib.hid (HA.out.below hb)
  clear HA
  have HA := HA'
  clear HA'
  clear hb
  go_wp2_with fail
  go_ret
  exact ⟨rfl, HA.out.fr⟩
set_option maxRecDepth 100000 in
set_option maxHeartbeats 32000000 in
theorem linkCosts_no (x : FV) (f : Fl) (o k : Int) (w : World) (h : FlQ QR w x f) (ht : f.thin = true) (hf : f.fault = 0) (h1 : inB o 0 ((f.no : Int) - 1) = true) (h2 : inB k 0 ((f.nw : Int) - 1) = true) (hg : f.g o.toNat k.toNat = false) :
    Calls Tryz.prog 5 #[.agg #[.slice x.oa f.no x.oc, .slice x.na f.nw x.nc, .slice x.ma f.nm x.mc], .int .i64 o, .int .i64 k] w fun e w' => e = .returned (.bool true) ∧ Below w.heap.size w w' := by
  obtain ⟨oa, oc, na, nc, ma, mc⟩ := x
  have OK := Lib.hid (Fl.ok hf)
  have hno := OK.out.no
  have hnw := OK.out.nw
  obtain ⟨i, rfl, hi⟩ : ∃ i : Nat, o = i ∧ i < f.no := by simp only [inB, Bool.and_eq_true, decide_eq_true_eq] at h1; exact ⟨o.toNat, by omega, by omega⟩
  obtain ⟨j, rfl, hj⟩ : ∃ j : Nat, k = j ∧ j < f.nw := by simp only [inB, Bool.and_eq_true, decide_eq_true_eq] at h2; exact ⟨k.toNat, by omega, by omega⟩
  have hi8 : i < 8 := by omega
  have hj8 : j < 8 := by omega
  rw [Int.toNat_natCast, Int.toNat_natCast] at hg
  have HCV : f.costV i j = (0, 7) := by unfold Fl.costV; rw [h1, h2]; show (if f.g (i : Int).toNat (j : Int).toNat = true then _ else _) = _; rw [Int.toNat_natCast, Int.toNat_natCast, hg]; rfl
  have HTH := Lib.hid (thinW ⟨oa, oc, na, nc, ma, mc⟩ f w h true ht)
  have HFI := Lib.hid (fileW ⟨oa, oc, na, nc, ma, mc⟩ f w h ht)
  have HPA : Hid (∀ (z : FV) X, FlQ QP X z f → Calls Tryz.prog 31 #[.agg #[.slice z.oa f.no z.oc, .slice z.na f.nw z.nc, .slice z.ma f.nm z.mc], .int .i64 (i : Int), .int .i64 (j : Int)] X fun e w' => e = .returned (.tuple #[.int .i64 0, .int .i64 7]) ∧ Below X.heap.size X w') := fun z X hq => by
    have h := costF_ok i j z f X hq hf
    rw [HCV] at h
    exact h
  have HFA := Lib.hid (faultW ⟨oa, oc, na, nc, ma, mc⟩ f w h 0 hf)
  have kw1 : IntKind.i64.wrap ((f.no : Int) - 1) = (f.no : Int) - 1 := IntWalk.i64_in _ (by omega)
  have kw2 : IntKind.i64.wrap ((f.nw : Int) - 1) = (f.nw : Int) - 1 := IntWalk.i64_in _ (by omega)
  clear HCV
  have HI1 : Hid (∀ X, Calls Tryz.prog 32 #[.int .i64 (i : Int), .int .i64 0, .int .i64 ((f.no : Int) - 1)] X fun e w' => e = .returned (.bool true) ∧ X = w') := fun X => by rw [← h1]; exact refIn_any _ _ _ X
  have HI2 : Hid (∀ X, Calls Tryz.prog 32 #[.int .i64 (j : Int), .int .i64 0, .int .i64 ((f.nw : Int) - 1)] X fun e w' => e = .returned (.bool true) ∧ X = w') := fun X => by rw [← h2]; exact refIn_any _ _ _ X
  have HGR := Lib.hid (graphedW ⟨oa, oc, na, nc, ma, mc⟩ f w h hf)
  have HIS : Hid (∀ X, Calls Tryz.prog 25 #[.agg (a8 (gI f.g)), .int .i64 (i : Int), .int .i64 (j : Int)] X fun e w' => e = .returned (.bool false) ∧ Below X.heap.size X w') := fun X => by rw [← hg]; exact is_any f.g i j X hi8 hj8
  clear hg
  generalize f.g = g at *
  clear h1 h2
  clear h ht hf OK
  dsimp only at HTH HFI HFA HGR ⊢
  generalize f.no = no at *
  generalize f.nw = nw at *
  generalize f.nm = nm at *
  have HA := Lib.hid ((BF.base w).alloc #[.slice oa no oc, .slice na nw nc, .slice ma nm mc] 25)
  go_enter Tryz.func5, Tryz.ntmps5
  have c0 := HA.out.cell (.head _) 0
  have c1 := HA.out.cell (.head _) 1
  have c2 := HA.out.cell (.head _) 2
  go_wp2_with fail
  refine (HTH.out _ HA.out.fr).mono ?_
  rintro _ w1 ⟨rfl, hb⟩
  have HA' := Lib.hid (HA.out.below hb)
  clear HA
  have HA := HA'
  clear HA'
  clear hb c0 c1 c2
  have c0 := HA.out.cell (.head _) 0
  have c1 := HA.out.cell (.head _) 1
  have c2 := HA.out.cell (.head _) 2
  go_wp2_with fail
  refine (HFI.out _ HA.out.fr).mono ?_
  rintro _ w2 ⟨z, rfl, hq, hb⟩
  have HA' := Lib.hid (HA.out.below hb)
  clear HA
  have HA := HA'
  clear HA'
  have HQ := Lib.hid hq
  clear hq hb c0 c1 c2
  go_wp2_with fail
  refine (HPA.out z _ HQ.out).mono ?_
  rintro _ w3 ⟨rfl, hb⟩
  have HA' := Lib.hid (HA.out.below hb)
  clear HA
  have HA := HA'
  clear HA'
  clear hb
  clear HQ
  have c0 := HA.out.cell (.head _) 0
  have c1 := HA.out.cell (.head _) 1
  have c2 := HA.out.cell (.head _) 2
  go_wp2_with fail
  refine (HFA.out _ HA.out.fr).mono ?_
  rintro _ w4 ⟨rfl, hb⟩
  have HA' := Lib.hid (HA.out.below hb)
  clear HA
  have HA := HA'
  clear HA'
  clear hb c0 c1 c2
  have c0 := HA.out.cell (.head _) 0
  have c1 := HA.out.cell (.head _) 1
  have c2 := HA.out.cell (.head _) 2
  go_wp2_with fail
  refine (HI1.out _).mono ?_
  rintro _ wi ⟨rfl, rfl⟩
  go_wp2_with fail
  refine (HI2.out _).mono ?_
  rintro _ wi ⟨rfl, rfl⟩
  clear c0 c1 c2
  have c0 := HA.out.cell (.head _) 0
  have c1 := HA.out.cell (.head _) 1
  have c2 := HA.out.cell (.head _) 2
  go_wp2_with fail
  refine (HGR.out _ HA.out.fr).mono ?_
  rintro _ w5 ⟨rfl, hb⟩
  have HA' := Lib.hid (HA.out.below hb)
  clear HA
  have HA := HA'
  clear HA'
  clear hb c0 c1 c2
  have HS := Lib.hid (HA.out.alloc (a8 fun _ => 0) 40)
  have HGH := Lib.hid (HS.out.bk _ _ _ (.head _)).2
  have HGS := Lib.hid (graph_info (gI g))
  have HGZ : Hid ((a8 fun _ => (0 : Int)).size = (a8 (gI g)).size) := by unfold Hid; rw [a8_size, a8_size]
  have hb := below_setw (Below.refl w5.heap.size w5) #[.int .i64 0, .int .i64 0, .int .i64 0, .int .i64 0, .int .i64 0, .int .i64 0, .int .i64 0, .int .i64 0] (a8 (gI g)) 40
  have HA' : Hid (BF w ((w5.alloc (.cells #[.int .i64 0, .int .i64 0, .int .i64 0, .int .i64 0, .int .i64 0, .int .i64 0, .int .i64 0, .int .i64 0] 40)).setRow w5.heap.size (a8 (gI g))) [(w5.heap.size, a8 (gI g), 40), (w.heap.size, #[.slice oa no oc, .slice na nw nc, .slice ma nm mc], 25)]) := HA.out.setw _ _
  have HA' := Lib.hid (HA.out.below hb)
  clear HA
  have HA := HA'
  clear HA'
  clear HA hb
  have HA := HA'
  clear HA'
  go_upto_region 10 with (first | (refine wpList_store_row (o := ⟨none, .store 40 (.tmp 11) (.tmp 48), _, _, _, _⟩) rfl 40 (.tmp 11) (.tmp 48) rfl w5.heap.size (a8 (gI g)) rfl rfl 40 (a8 fun _ => 0) HGH.out HGS.out HGZ.out (a8_one _) ?_) | (refine step_store_row (o := ⟨none, .store 40 (.tmp 11) (.tmp 48), _, _, _, _⟩) rfl 40 (.tmp 11) (.tmp 48) rfl w5.heap.size (a8 (gI g)) rfl rfl 40 (a8 fun _ => 0) HGH.out HGS.out HGZ.out (a8_one _) ?_))
  generalize ((w5.alloc (.cells #[.int .i64 0, .int .i64 0, .int .i64 0, .int .i64 0, .int .i64 0, .int .i64 0, .int .i64 0, .int .i64 0] 40)).setRow w5.heap.size (a8 (gI g))) = wg at *
  generalize w5.heap.size = GB at *
  clear HS HGH HGZ HTH HFI HPA HFA HGR
  have HGH := Lib.hid (HA.out.bk _ _ _ (.head _)).2
  go_wp2_with (refine wpList_load_row (o := ⟨some 49, .load 40 (.tmp 11), _, _, _, _⟩) rfl 40 (.tmp 11) rfl GB rfl 40 (a8 (gI g)) (0, 0) _ HGH.out Tryz.underlying40 rfl HGS.out ?_)
  refine (HIS.out _).mono ?_
  rintro _ wq ⟨rfl, hb⟩
  have HA' := Lib.hid (HA.out.below hb)
  clear HA
  have HA := HA'
  clear HA'
  clear hb HGH
  go_wp2_with fail
  refine (awake5_any _).mono ?_
  rintro _ w6 ⟨rfl, hb⟩
  have HA' := Lib.hid (HA.out.below hb)
  clear HA
  have HA := HA'
  clear HA'
  clear hb
  go_wp2_with fail
  go_ret
  exact ⟨rfl, HA.out.fr⟩
set_option maxRecDepth 100000 in
set_option maxHeartbeats 32000000 in
theorem linkCosts_yes (x : FV) (f : Fl) (o k : Int) (w : World) (h : FlQ QR w x f) (ht : f.thin = true) (hf : f.fault = 0) (h1 : inB o 0 ((f.no : Int) - 1) = true) (h2 : inB k 0 ((f.nw : Int) - 1) = true) (hg : f.g o.toNat k.toNat = true) :
    Calls Tryz.prog 5 #[.agg #[.slice x.oa f.no x.oc, .slice x.na f.nw x.nc, .slice x.ma f.nm x.mc], .int .i64 o, .int .i64 k] w fun e w' => e = .returned (.bool true) ∧ Below w.heap.size w w' := by
  obtain ⟨oa, oc, na, nc, ma, mc⟩ := x
  have OK := Lib.hid (Fl.ok hf)
  have hno := OK.out.no
  have hnw := OK.out.nw
  obtain ⟨i, rfl, hi⟩ : ∃ i : Nat, o = i ∧ i < f.no := by simp only [inB, Bool.and_eq_true, decide_eq_true_eq] at h1; exact ⟨o.toNat, by omega, by omega⟩
  obtain ⟨j, rfl, hj⟩ : ∃ j : Nat, k = j ∧ j < f.nw := by simp only [inB, Bool.and_eq_true, decide_eq_true_eq] at h2; exact ⟨k.toNat, by omega, by omega⟩
  have hi8 : i < 8 := by omega
  have hj8 : j < 8 := by omega
  rw [Int.toNat_natCast, Int.toNat_natCast] at hg
  have HCV : f.costV i j = (f.cost i j, 0) := by unfold Fl.costV; rw [h1, h2]; show (if f.g (i : Int).toNat (j : Int).toNat = true then _ else _) = _; rw [Int.toNat_natCast, Int.toNat_natCast, hg]; rfl
  have HTH := Lib.hid (thinW ⟨oa, oc, na, nc, ma, mc⟩ f w h true ht)
  have HFI := Lib.hid (fileW ⟨oa, oc, na, nc, ma, mc⟩ f w h ht)
  have HPA : Hid (∀ (z : FV) X, FlQ QP X z f → Calls Tryz.prog 31 #[.agg #[.slice z.oa f.no z.oc, .slice z.na f.nw z.nc, .slice z.ma f.nm z.mc], .int .i64 (i : Int), .int .i64 (j : Int)] X fun e w' => e = .returned (.tuple #[.int .i64 (f.cost i j), .int .i64 0]) ∧ Below X.heap.size X w') := fun z X hq => by
    have h := costF_ok i j z f X hq hf
    rw [HCV] at h
    exact h
  have HFA := Lib.hid (faultW ⟨oa, oc, na, nc, ma, mc⟩ f w h 0 hf)
  have kw1 : IntKind.i64.wrap ((f.no : Int) - 1) = (f.no : Int) - 1 := IntWalk.i64_in _ (by omega)
  have kw2 : IntKind.i64.wrap ((f.nw : Int) - 1) = (f.nw : Int) - 1 := IntWalk.i64_in _ (by omega)
  clear HCV
  have HI1 : Hid (∀ X, Calls Tryz.prog 32 #[.int .i64 (i : Int), .int .i64 0, .int .i64 ((f.no : Int) - 1)] X fun e w' => e = .returned (.bool true) ∧ X = w') := fun X => by rw [← h1]; exact refIn_any _ _ _ X
  have HI2 : Hid (∀ X, Calls Tryz.prog 32 #[.int .i64 (j : Int), .int .i64 0, .int .i64 ((f.nw : Int) - 1)] X fun e w' => e = .returned (.bool true) ∧ X = w') := fun X => by rw [← h2]; exact refIn_any _ _ _ X
  have HGR := Lib.hid (graphedW ⟨oa, oc, na, nc, ma, mc⟩ f w h hf)
  have HIS : Hid (∀ X, Calls Tryz.prog 25 #[.agg (a8 (gI f.g)), .int .i64 (i : Int), .int .i64 (j : Int)] X fun e w' => e = .returned (.bool true) ∧ Below X.heap.size X w') := fun X => by rw [← hg]; exact is_any f.g i j X hi8 hj8
  have HRC := Lib.hid (fun X => rCost_any f.g i j X hi8 hj8)
  rw [OK.out.rCost] at HRC
  generalize f.cost i j = cst at *
  clear hg
  generalize f.g = g at *
  clear h1 h2
  clear h ht hf OK
  dsimp only at HTH HFI HFA HGR ⊢
  generalize f.no = no at *
  generalize f.nw = nw at *
  generalize f.nm = nm at *
  have HA := Lib.hid ((BF.base w).alloc #[.slice oa no oc, .slice na nw nc, .slice ma nm mc] 25)
  go_enter Tryz.func5, Tryz.ntmps5
  have c0 := HA.out.cell (.head _) 0
  have c1 := HA.out.cell (.head _) 1
  have c2 := HA.out.cell (.head _) 2
  go_wp2_with fail
  refine (HTH.out _ HA.out.fr).mono ?_
  rintro _ w1 ⟨rfl, hb⟩
  have HA' := Lib.hid (HA.out.below hb)
  clear HA
  have HA := HA'
  clear HA'
  clear hb c0 c1 c2
  have c0 := HA.out.cell (.head _) 0
  have c1 := HA.out.cell (.head _) 1
  have c2 := HA.out.cell (.head _) 2
  go_wp2_with fail
  refine (HFI.out _ HA.out.fr).mono ?_
  rintro _ w2 ⟨z, rfl, hq, hb⟩
  have HA' := Lib.hid (HA.out.below hb)
  clear HA
  have HA := HA'
  clear HA'
  have HQ := Lib.hid hq
  clear hq hb c0 c1 c2
  go_wp2_with fail
  refine (HPA.out z _ HQ.out).mono ?_
  rintro _ w3 ⟨rfl, hb⟩
  have HA' := Lib.hid (HA.out.below hb)
  clear HA
  have HA := HA'
  clear HA'
  clear hb
  clear HQ
  have c0 := HA.out.cell (.head _) 0
  have c1 := HA.out.cell (.head _) 1
  have c2 := HA.out.cell (.head _) 2
  go_wp2_with fail
  refine (HFA.out _ HA.out.fr).mono ?_
  rintro _ w4 ⟨rfl, hb⟩
  have HA' := Lib.hid (HA.out.below hb)
  clear HA
  have HA := HA'
  clear HA'
  clear hb c0 c1 c2
  have c0 := HA.out.cell (.head _) 0
  have c1 := HA.out.cell (.head _) 1
  have c2 := HA.out.cell (.head _) 2
  go_wp2_with fail
  refine (HI1.out _).mono ?_
  rintro _ wi ⟨rfl, rfl⟩
  go_wp2_with fail
  refine (HI2.out _).mono ?_
  rintro _ wi ⟨rfl, rfl⟩
  clear c0 c1 c2
  have c0 := HA.out.cell (.head _) 0
  have c1 := HA.out.cell (.head _) 1
  have c2 := HA.out.cell (.head _) 2
  go_wp2_with fail
  refine (HGR.out _ HA.out.fr).mono ?_
  rintro _ w5 ⟨rfl, hb⟩
  have HA' := Lib.hid (HA.out.below hb)
  clear HA
  have HA := HA'
  clear HA'
  clear hb c0 c1 c2
  have HS := Lib.hid (HA.out.alloc (a8 fun _ => 0) 40)
  have HGH := Lib.hid (HS.out.bk _ _ _ (.head _)).2
  have HGS := Lib.hid (graph_info (gI g))
  have HGZ : Hid ((a8 fun _ => (0 : Int)).size = (a8 (gI g)).size) := by unfold Hid; rw [a8_size, a8_size]
  have hb := below_setw (Below.refl w5.heap.size w5) #[.int .i64 0, .int .i64 0, .int .i64 0, .int .i64 0, .int .i64 0, .int .i64 0, .int .i64 0, .int .i64 0] (a8 (gI g)) 40
  have HA' : Hid (BF w ((w5.alloc (.cells #[.int .i64 0, .int .i64 0, .int .i64 0, .int .i64 0, .int .i64 0, .int .i64 0, .int .i64 0, .int .i64 0] 40)).setRow w5.heap.size (a8 (gI g))) [(w5.heap.size, a8 (gI g), 40), (w.heap.size, #[.slice oa no oc, .slice na nw nc, .slice ma nm mc], 25)]) := HA.out.setw _ _
  have HA' := Lib.hid (HA.out.below hb)
  clear HA
  have HA := HA'
  clear HA'
  clear HA hb
  have HA := HA'
  clear HA'
  go_upto_region 10 with (first | (refine wpList_store_row (o := ⟨none, .store 40 (.tmp 11) (.tmp 48), _, _, _, _⟩) rfl 40 (.tmp 11) (.tmp 48) rfl w5.heap.size (a8 (gI g)) rfl rfl 40 (a8 fun _ => 0) HGH.out HGS.out HGZ.out (a8_one _) ?_) | (refine step_store_row (o := ⟨none, .store 40 (.tmp 11) (.tmp 48), _, _, _, _⟩) rfl 40 (.tmp 11) (.tmp 48) rfl w5.heap.size (a8 (gI g)) rfl rfl 40 (a8 fun _ => 0) HGH.out HGS.out HGZ.out (a8_one _) ?_))
  generalize ((w5.alloc (.cells #[.int .i64 0, .int .i64 0, .int .i64 0, .int .i64 0, .int .i64 0, .int .i64 0, .int .i64 0, .int .i64 0] 40)).setRow w5.heap.size (a8 (gI g))) = wg at *
  generalize w5.heap.size = GB at *
  clear HS HGH HGZ HTH HFI HPA HFA HGR
  have HGH := Lib.hid (HA.out.bk _ _ _ (.head _)).2
  go_wp2_with (refine wpList_load_row (o := ⟨some 49, .load 40 (.tmp 11), _, _, _, _⟩) rfl 40 (.tmp 11) rfl GB rfl 40 (a8 (gI g)) (0, 0) _ HGH.out Tryz.underlying40 rfl HGS.out ?_)
  refine (HIS.out _).mono ?_
  rintro _ wq ⟨rfl, hb⟩
  have HA' := Lib.hid (HA.out.below hb)
  clear HA
  have HA := HA'
  clear HA'
  clear hb HGH
  have HGH := Lib.hid (HA.out.bk _ _ _ (.head _)).2
  go_wp2_with (refine wpList_load_row (o := ⟨some 54, .load 40 (.tmp 11), _, _, _, _⟩) rfl 40 (.tmp 11) rfl GB rfl 40 (a8 (gI g)) (0, 0) _ HGH.out Tryz.underlying40 rfl HGS.out ?_)
  refine (HRC.out _).mono ?_
  rintro _ wr ⟨rfl, hb⟩
  have HA' := Lib.hid (HA.out.below hb)
  clear HA
  have HA := HA'
  clear HA'
  clear hb HGH
  go_wp2_with fail
  refine (awake5_any _).mono ?_
  rintro _ w6 ⟨rfl, hb⟩
  have HA' := Lib.hid (HA.out.below hb)
  clear HA
  have HA := HA'
  clear HA'
  clear hb
  go_wp2_with fail
  go_ret
  exact ⟨rfl, HA.out.fr⟩
theorem linkCosts_walk (x : FV) (f : Fl) (o k : Int) (w : World) (h : FlLaw w x f) : Calls Tryz.prog 5 #[.agg #[.slice x.oa f.no x.oc, .slice x.na f.nw x.nc, .slice x.ma f.nm x.mc], .int .i64 o, .int .i64 k] w fun e w' => e = .returned (.bool true) ∧ Below w.heap.size w w' := by
  cases ht : f.thin
  · exact linkCosts_thick x f o k w h.l ht
  · by_cases hf : f.fault = 0
    · cases h1 : inB o 0 ((f.no : Int) - 1)
      · exact linkCosts_out1 x f o k w h.l ht hf h1
      · cases h2 : inB k 0 ((f.nw : Int) - 1)
        · exact linkCosts_out2 x f o k w h.l ht hf h1 h2
        · cases hg : f.g o.toNat k.toNat
          · exact linkCosts_no x f o k w h.l ht hf h1 h2 hg
          · exact linkCosts_yes x f o k w h.l ht hf h1 h2 hg
    · exact linkCosts_bad x f o k w h.l ht hf
end Go.Proofs.YtgbdbikjckfgmaaGreat
