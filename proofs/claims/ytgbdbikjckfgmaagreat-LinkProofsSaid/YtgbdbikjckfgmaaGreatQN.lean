/- Link: LinkProofs' walk. Printed by gen_qn.py. -/
import Derived.Test.YtgbdbikjckfgmaaGreatQJ
import Derived.Test.YtgbdbikjckfgmaaGreatRB
import Derived.Test.YtgbdbikjckfgmaaGreatQB
import Derived.Test.YtgbdbikjckfgmaaGreatQD
import Derived.Test.YtgbdbikjckfgmaaGreatQF
import Derived.Test.YtgbdbikjckfgmaaGreatPJ
import Derived.Test.YtgbdbikjckfgmaaGreatOG
namespace Go.Proofs.YtgbdbikjckfgmaaGreat
open Go.RowKit Go.Shelf

set_option maxRecDepth 100000 in
set_option maxHeartbeats 32000000 in
theorem linkProofs_thick (x : FV) (f : Fl) (a1 a2 a3 : Option Addr) (n1 d1 n2 d2 n3 d3 : Nat) (many : Int) (w : World) (h : FlQ QR w x f) (ht : f.thin = false) :
    Calls Tryz.prog 16 #[.agg #[.slice x.oa f.no x.oc, .slice x.na f.nw x.nc, .slice x.ma f.nm x.mc], .slice a1 n1 d1, .slice a2 n2 d2, .slice a3 n3 d3, .int .i64 many] w fun e w' => e = .returned (.bool true) ∧ Below w.heap.size w w' := by
  obtain ⟨oa, oc, na, nc, ma, mc⟩ := x
  have HTH := Lib.hid (thinW ⟨oa, oc, na, nc, ma, mc⟩ f w h false ht)
  clear h ht
  dsimp only at HTH ⊢
  generalize f.no = no at *
  generalize f.nw = nw at *
  generalize f.nm = nm at *
  have HA := Lib.hid ((BF.base w).alloc #[.slice oa no oc, .slice na nw nc, .slice ma nm mc] 25)
  go_enter Tryz.func16, Tryz.ntmps16
  have c0 := HA.out.cell (.head _) 0
  have c1 := HA.out.cell (.head _) 1
  have c2 := HA.out.cell (.head _) 2
  go_wp2_with fail
  refine (HTH.out _ HA.out.fr).mono ?_
  rintro _ w1 ⟨rfl, hb⟩
  have HA' := Lib.hid (HA.out.below hb)
  clear HA
  have HA := HA'
  clear HA'
  clear hb c0 c1 c2
  go_wp2_with fail
  refine (awake5_any _).mono ?_
  rintro _ w2 ⟨rfl, hb⟩
  have HA' := Lib.hid (HA.out.below hb)
  clear HA
  have HA := HA'
  clear HA'
  clear hb
  go_wp2_with fail
  go_ret
  exact ⟨rfl, HA.out.fr⟩
set_option maxRecDepth 100000 in
set_option maxHeartbeats 32000000 in
theorem linkProofs_long (x : FV) (f : Fl) (a1 a2 a3 : Option Addr) (n1 d1 n2 d2 n3 d3 : Nat) (many : Int) (w : World) (h : FlQ QR w x f) (ht : f.thin = true) (hl : 11 < n1 ∨ 11 < n2 ∨ 11 < n3) :
    Calls Tryz.prog 16 #[.agg #[.slice x.oa f.no x.oc, .slice x.na f.nw x.nc, .slice x.ma f.nm x.mc], .slice a1 n1 d1, .slice a2 n2 d2, .slice a3 n3 d3, .int .i64 many] w fun e w' => e = .returned (.bool true) ∧ Below w.heap.size w w' := by
  obtain ⟨oa, oc, na, nc, ma, mc⟩ := x
  have HTH := Lib.hid (thinW ⟨oa, oc, na, nc, ma, mc⟩ f w h true ht)
  clear h ht
  dsimp only at HTH ⊢
  generalize f.no = no at *
  generalize f.nw = nw at *
  generalize f.nm = nm at *
  have HA := Lib.hid ((BF.base w).alloc #[.slice oa no oc, .slice na nw nc, .slice ma nm mc] 25)
  go_enter Tryz.func16, Tryz.ntmps16
  have c0 := HA.out.cell (.head _) 0
  have c1 := HA.out.cell (.head _) 1
  have c2 := HA.out.cell (.head _) 2
  go_wp2_with fail
  refine (HTH.out _ HA.out.fr).mono ?_
  rintro _ w1 ⟨rfl, hb⟩
  have HA' := Lib.hid (HA.out.below hb)
  clear HA
  have HA := HA'
  clear HA'
  clear hb c0 c1 c2
  by_cases q0 : 11 < n1
  · have p0 : (11 : Int) < (n1 : Int) := by omega
    go_wp2_with fail
    refine (awake5_any _).mono ?_
    rintro _ w2 ⟨rfl, hb⟩
    have HA' := Lib.hid (HA.out.below hb)
    clear HA
    have HA := HA'
    clear HA'
    clear hb
    go_wp2_with fail
    go_ret
    exact ⟨rfl, HA.out.fr⟩
  have p0 : ¬ (11 : Int) < (n1 : Int) := by omega
  by_cases q1 : 11 < n2
  · have p1 : (11 : Int) < (n2 : Int) := by omega
    go_wp2_with fail
    refine (awake5_any _).mono ?_
    rintro _ w2 ⟨rfl, hb⟩
    have HA' := Lib.hid (HA.out.below hb)
    clear HA
    have HA := HA'
    clear HA'
    clear hb
    go_wp2_with fail
    go_ret
    exact ⟨rfl, HA.out.fr⟩
  have p1 : ¬ (11 : Int) < (n2 : Int) := by omega
  have q2 : 11 < n3 := by omega
  have p2 : (11 : Int) < (n3 : Int) := by omega
  clear hl
  go_wp2_with fail
  refine (awake5_any _).mono ?_
  rintro _ w2 ⟨rfl, hb⟩
  have HA' := Lib.hid (HA.out.below hb)
  clear HA
  have HA := HA'
  clear HA'
  clear hb
  go_wp2_with fail
  go_ret
  exact ⟨rfl, HA.out.fr⟩
set_option maxRecDepth 100000 in
set_option maxHeartbeats 32000000 in
theorem linkProofs_bad (x : FV) (f : Fl) (a1 a2 a3 : Option Addr) (n1 d1 n2 d2 n3 d3 : Nat) (many : Int) (z1 z2 z3 : Nat → Int) (w : World) (h : FlQ QR w x f) (ht : f.thin = true) (hf : f.fault ≠ 0) (hi1 : IntsIn w (.slice a1 n1 d1) n1 z1) (hi2 : IntsIn w (.slice a2 n2 d2) n2 z2) (hi3 : IntsIn w (.slice a3 n3 d3) n3 z3) (hn1 : n1 ≤ 11) (hn2 : n2 ≤ 11) (hn3 : n3 ≤ 11) :
    Calls Tryz.prog 16 #[.agg #[.slice x.oa f.no x.oc, .slice x.na f.nw x.nc, .slice x.ma f.nm x.mc], .slice a1 n1 d1, .slice a2 n2 d2, .slice a3 n3 d3, .int .i64 many] w fun e w' => e = .returned (.bool true) ∧ Below w.heap.size w w' := by
  obtain ⟨oa, oc, na, nc, ma, mc⟩ := x
  have HTH := Lib.hid (thinW ⟨oa, oc, na, nc, ma, mc⟩ f w h true ht)
  have HFI := Lib.hid (fileW ⟨oa, oc, na, nc, ma, mc⟩ f w h ht)
  have HC3 : Hid (∀ (z : FV) X, FlQ QP X z f → Calls Tryz.prog 53 #[.agg #[.slice z.oa f.no z.oc, .slice z.na f.nw z.nc, .slice z.ma f.nm z.mc]] X fun e w' => e = .returned (.tuple #[.slice none 0 0, .slice none 0 0, .int .i64 f.fault]) ∧ Below X.heap.size X w') := fun z X hq => coverF_bad z f X hq (by have := (thin_bd ht).1; omega) (by have := (thin_bd ht).2.1; omega) (by have := (thin_bd ht).2.2.1; omega) hf
  have HP5 : Hid (∀ (z : FV) X a c, FlQ QP X z f → Calls Tryz.prog 48 #[.agg #[.slice z.oa f.no z.oc, .slice z.na f.nw z.nc, .slice z.ma f.nm z.mc], .slice a n1 c, .int .i64 many] X fun e w' => e = .returned (.bool false) ∧ Below X.heap.size X w') := fun z X a c hq => provM_bad z f _ many X hq (by have := (thin_bd ht).1; omega) (by have := (thin_bd ht).2.1; omega) (by have := (thin_bd ht).2.2.1; omega) hf
  have HP6 : Hid (∀ (z : FV) X a c b d, FlQ QP X z f → Calls Tryz.prog 52 #[.agg #[.slice z.oa f.no z.oc, .slice z.na f.nw z.nc, .slice z.ma f.nm z.mc], .slice a n2 c, .slice b n3 d, .int .i64 many] X fun e w' => e = .returned (.bool false) ∧ Below X.heap.size X w') := fun z X a c b d hq => provC_bad z f (.slice a n2 c) (.slice b n3 d) rfl rfl many X hq (by have := (thin_bd ht).1; omega) (by have := (thin_bd ht).2.1; omega) (by have := (thin_bd ht).2.2.1; omega) hf a b n2 n3 c d rfl rfl
  have HI1 := Lib.hid (listW a1 n1 d1 z1 w (by omega) hi1)
  have HI2 := Lib.hid (listW a2 n2 d2 z2 w (by omega) hi2)
  have HI3 := Lib.hid (listW a3 n3 d3 z3 w (by omega) hi3)
  have p1 : ¬ (11 : Int) < (n1 : Int) := by omega
  have p2 : ¬ (11 : Int) < (n2 : Int) := by omega
  have p3 : ¬ (11 : Int) < (n3 : Int) := by omega
  have HFA := Lib.hid (faultW ⟨oa, oc, na, nc, ma, mc⟩ f w h f.fault rfl)
  have kf : (f.fault != 0) = true := by simp [hf]
  clear h ht hf hi1 hi2 hi3
  dsimp only at HTH HFI HFA ⊢
  generalize f.fault = ft at *
  generalize f.no = no at *
  generalize f.nw = nw at *
  generalize f.nm = nm at *
  have HA := Lib.hid ((BF.base w).alloc #[.slice oa no oc, .slice na nw nc, .slice ma nm mc] 25)
  go_enter Tryz.func16, Tryz.ntmps16
  have c0 := HA.out.cell (.head _) 0
  have c1 := HA.out.cell (.head _) 1
  have c2 := HA.out.cell (.head _) 2
  go_wp2_with fail
  refine (HTH.out _ HA.out.fr).mono ?_
  rintro _ w1 ⟨rfl, hb⟩
  have HA' := Lib.hid (HA.out.below hb)
  clear HA
  have HA := HA'
  clear HA'
  clear hb c0 c1 c2
  have c0 := HA.out.cell (.head _) 0
  have c1 := HA.out.cell (.head _) 1
  have c2 := HA.out.cell (.head _) 2
  go_wp2_with fail
  refine (HFI.out _ HA.out.fr).mono ?_
  rintro _ w2 ⟨z, rfl, hq, hb⟩
  have HA' := Lib.hid (HA.out.below hb)
  clear HA
  have HA := HA'
  clear HA'
  have HQ := Lib.hid hq
  clear hq hb c0 c1 c2
  go_wp2_with fail
  refine (HC3.out z _ HQ.out).mono ?_
  rintro _ w3 ⟨rfl, hb⟩
  have HA' := Lib.hid (HA.out.below hb)
  clear HA
  have HA := HA'
  clear HA'
  clear hb
  clear HQ
  have c0 := HA.out.cell (.head _) 0
  have c1 := HA.out.cell (.head _) 1
  have c2 := HA.out.cell (.head _) 2
  go_wp2_with fail
  refine (HFI.out _ HA.out.fr).mono ?_
  rintro _ w4 ⟨z, rfl, hq, hb⟩
  have HA' := Lib.hid (HA.out.below hb)
  clear HA
  have HA := HA'
  clear HA'
  have HQ := Lib.hid hq
  clear hq hb c0 c1 c2
  go_wp2_with fail
  refine (HI1.out _ HA.out.fr).mono ?_
  rintro _ w5 ⟨bX1, cX1, rfl, hlX1, hb⟩
  have HA' := Lib.hid (HA.out.below hb)
  clear HA
  have HA := HA'
  clear HA'
  have HQ' := Lib.hid (HQ.out.below QP.k hb)
  clear HQ
  have HQ := HQ'
  clear HQ'
  have HLX1 := Lib.hid hlX1
  clear hlX1 hb
  go_wp2_with fail
  refine (HP5.out z _ _ _ HQ.out).mono ?_
  rintro _ w6 ⟨rfl, hb⟩
  have HA' := Lib.hid (HA.out.below hb)
  clear HA
  have HA := HA'
  clear HA'
  have HLX1' := Lib.hid (HLX1.out.below hb)
  clear HLX1
  have HLX1 := HLX1'
  clear HLX1'
  clear hb
  clear HQ
  clear HLX1
  have c0 := HA.out.cell (.head _) 0
  have c1 := HA.out.cell (.head _) 1
  have c2 := HA.out.cell (.head _) 2
  go_wp2_with fail
  refine (HFI.out _ HA.out.fr).mono ?_
  rintro _ w7 ⟨z, rfl, hq, hb⟩
  have HA' := Lib.hid (HA.out.below hb)
  clear HA
  have HA := HA'
  clear HA'
  have HQ := Lib.hid hq
  clear hq hb c0 c1 c2
  go_wp2_with fail
  refine (HI2.out _ HA.out.fr).mono ?_
  rintro _ w8 ⟨bX2, cX2, rfl, hlX2, hb⟩
  have HA' := Lib.hid (HA.out.below hb)
  clear HA
  have HA := HA'
  clear HA'
  have HQ' := Lib.hid (HQ.out.below QP.k hb)
  clear HQ
  have HQ := HQ'
  clear HQ'
  have HLX2 := Lib.hid hlX2
  clear hlX2 hb
  go_wp2_with fail
  refine (HI3.out _ HA.out.fr).mono ?_
  rintro _ w9 ⟨bX3, cX3, rfl, hlX3, hb⟩
  have HA' := Lib.hid (HA.out.below hb)
  clear HA
  have HA := HA'
  clear HA'
  have HLX2' := Lib.hid (HLX2.out.below hb)
  clear HLX2
  have HLX2 := HLX2'
  clear HLX2'
  have HQ' := Lib.hid (HQ.out.below QP.k hb)
  clear HQ
  have HQ := HQ'
  clear HQ'
  have HLX3 := Lib.hid hlX3
  clear hlX3 hb
  go_wp2_with fail
  refine (HP6.out z _ _ _ _ _ HQ.out).mono ?_
  rintro _ w10 ⟨rfl, hb⟩
  have HA' := Lib.hid (HA.out.below hb)
  clear HA
  have HA := HA'
  clear HA'
  have HLX2' := Lib.hid (HLX2.out.below hb)
  clear HLX2
  have HLX2 := HLX2'
  clear HLX2'
  have HLX3' := Lib.hid (HLX3.out.below hb)
  clear HLX3
  have HLX3 := HLX3'
  clear HLX3'
  clear hb
  clear HQ
  clear HLX2
  clear HLX3
  have c0 := HA.out.cell (.head _) 0
  have c1 := HA.out.cell (.head _) 1
  have c2 := HA.out.cell (.head _) 2
  go_wp2_with fail
  refine (HFA.out _ HA.out.fr).mono ?_
  rintro _ w11 ⟨rfl, hb⟩
  have HA' := Lib.hid (HA.out.below hb)
  clear HA
  have HA := HA'
  clear HA'
  clear hb c0 c1 c2
  go_wp2_with fail
  refine (awake5_any _).mono ?_
  rintro _ w12 ⟨rfl, hb⟩
  have HA' := Lib.hid (HA.out.below hb)
  clear HA
  have HA := HA'
  clear HA'
  clear hb
  go_wp2_with fail
  go_ret
  exact ⟨rfl, HA.out.fr⟩
set_option maxRecDepth 100000 in
set_option maxHeartbeats 32000000 in
theorem linkProofs_ok (x : FV) (f : Fl) (a1 a2 a3 : Option Addr) (n1 d1 n2 d2 n3 d3 : Nat) (many : Int) (z1 z2 z3 : Nat → Int) (w : World) (h : FlQ QR w x f) (ht : f.thin = true) (hf : f.fault = 0) (hi1 : IntsIn w (.slice a1 n1 d1) n1 z1) (hi2 : IntsIn w (.slice a2 n2 d2) n2 z2) (hi3 : IntsIn w (.slice a3 n3 d3) n3 z3) (hr1 : ∀ j, j < n1 → rng64 (z1 j)) (hn1 : n1 ≤ 11) (hn2 : n2 ≤ 11) (hn3 : n3 ≤ 11) :
    Calls Tryz.prog 16 #[.agg #[.slice x.oa f.no x.oc, .slice x.na f.nw x.nc, .slice x.ma f.nm x.mc], .slice a1 n1 d1, .slice a2 n2 d2, .slice a3 n3 d3, .int .i64 many] w fun e w' => e = .returned (.bool true) ∧ Below w.heap.size w w' := by
  obtain ⟨oa, oc, na, nc, ma, mc⟩ := x
  have OK := Lib.hid (Fl.ok hf)
  have hno := OK.out.no
  have hnw := OK.out.nw
  have HTH := Lib.hid (thinW ⟨oa, oc, na, nc, ma, mc⟩ f w h true ht)
  have HFI := Lib.hid (fileW ⟨oa, oc, na, nc, ma, mc⟩ f w h ht)
  have HC3 : Hid (∀ (z : FV) X, FlQ QP X z f → Calls Tryz.prog 53 #[.agg #[.slice z.oa f.no z.oc, .slice z.na f.nw z.nc, .slice z.ma f.nm z.mc]] X (GivesCv X f)) := fun z X hq => coverF_ok z f X hq hf
  obtain ⟨mb, hmb⟩ : ∃ mb, f.isM n1 z1 = mb := ⟨_, rfl⟩
  obtain ⟨sz, hsz⟩ : ∃ sz : Int, (if mb = true then (cntM z1 n1 : Int) else 0) = sz := ⟨_, rfl⟩
  obtain ⟨bis, hbis⟩ : ∃ bis, (mb && decide (many ≤ sz)) = bis := ⟨_, rfl⟩
  obtain ⟨cb, hcb⟩ : ∃ cb, f.isC n2 z2 n3 z3 = cb := ⟨_, rfl⟩
  obtain ⟨bcv, hbcv⟩ : ∃ bcv, (cb && decide ((n2 : Int) + (n3 : Int) ≤ many)) = bcv := ⟨_, rfl⟩
  have HP5 : Hid (∀ (z : FV) X a c, FlQ QP X z f → IntsIn X (.slice a n1 c) n1 z1 → Calls Tryz.prog 48 #[.agg #[.slice z.oa f.no z.oc, .slice z.na f.nw z.nc, .slice z.ma f.nm z.mc], .slice a n1 c, .int .i64 many] X fun e w' => e = .returned (.bool bis) ∧ Below X.heap.size X w') := fun z X a c hq hl => by
    have h := provM_ok z f a n1 c z1 many X hq hf hl hr1 (by omega)
    rw [hmb] at h
    have e : (mb && decide (many ≤ (cntM z1 n1 : Int))) = bis := by
      rw [← hbis, ← hsz]
      cases mb
      · rfl
      · rw [if_pos rfl]
    rw [e] at h
    exact h
  have HP6 : Hid (∀ (z : FV) X a c b d, FlQ QP X z f → IntsIn X (.slice a n2 c) n2 z2 → IntsIn X (.slice b n3 d) n3 z3 → Calls Tryz.prog 52 #[.agg #[.slice z.oa f.no z.oc, .slice z.na f.nw z.nc, .slice z.ma f.nm z.mc], .slice a n2 c, .slice b n3 d, .int .i64 many] X fun e w' => e = .returned (.bool bcv) ∧ Below X.heap.size X w') := fun z X a c b d hq h1 h2 => by
    have h := provC_ok z f a b n2 n3 c d z2 z3 many X hq hf h1 h2 (by omega) (by omega)
    rw [hcb, hbcv] at h
    exact h
  have HI1 := Lib.hid (listW a1 n1 d1 z1 w (by omega) hi1)
  have HI2 := Lib.hid (listW a2 n2 d2 z2 w (by omega) hi2)
  have HI3 := Lib.hid (listW a3 n3 d3 z3 w (by omega) hi3)
  have p1 : ¬ (11 : Int) < (n1 : Int) := by omega
  have p2 : ¬ (11 : Int) < (n2 : Int) := by omega
  have p3 : ¬ (11 : Int) < (n3 : Int) := by omega
  have HFA := Lib.hid (faultW ⟨oa, oc, na, nc, ma, mc⟩ f w h 0 hf)
  have HGR := Lib.hid (graphedW ⟨oa, oc, na, nc, ma, mc⟩ f w h hf)
  have HMG := Lib.hid (fun X => mostR_any f.g X)
  rw [OK.out.rMost] at HMG
  have HIM := Lib.hid (fun X (hX : Below w.heap.size w X) => isMatch_any ⟨oa, oc, na, nc, ma, mc⟩ f a1 n1 d1 z1 X hf (hi1.below hX) (by omega))
  rw [hmb, hsz] at HIM
  have HIC := Lib.hid (fun X (hX : Below w.heap.size w X) => rIsCover_any ⟨oa, oc, na, nc, ma, mc⟩ f a2 a3 n2 n3 d2 d3 z2 z3 X hf (hi2.below hX) (hi3.below hX) (by omega) (by omega))
  rw [hcb] at HIC
  have HIK : Hid (∀ X (l1 l2 : List Nat) a c b d, IntsIn X (.slice a l1.length c) l1.length (nz l1) → IntsIn X (.slice b l2.length d) l2.length (nz l2) → f.isC l1.length (nz l1) l2.length (nz l2) = true → l1.length + l2.length = f.most → Calls Tryz.prog 54 #[.agg #[.slice oa f.no oc, .slice na f.nw nc, .slice ma f.nm mc], .agg (a8 (gI f.g)), .slice a l1.length c, .slice b l2.length d] X fun e w' => e = .returned (.bool true) ∧ Below X.heap.size X w') := fun X l1 l2 a c b d h1 h2 hc hs => by
    have hms := OK.out.most8
    have h := rIsCover_any ⟨oa, oc, na, nc, ma, mc⟩ f a b l1.length l2.length c d (nz l1) (nz l2) X hf h1 h2 (by omega) (by omega)
    rw [hc] at h
    exact h
  have hms : f.most ≤ 8 := OK.out.most8
  have HBI := Lib.hid hbis
  have HBC := Lib.hid hbcv
  unfold GivesCv GivesA at HC3
  clear h ht hf OK hi1 hi2 hi3 hr1 hmb hsz hbis hcb hbcv
  dsimp only at HTH HFI HFA HGR HIM HIC ⊢
  generalize f.isC = isC at *
  generalize f.most = mst at *
  generalize f.g = g at *
  generalize f.no = no at *
  generalize f.nw = nw at *
  generalize f.nm = nm at *
  have HA := Lib.hid ((BF.base w).alloc #[.slice oa no oc, .slice na nw nc, .slice ma nm mc] 25)
  go_enter Tryz.func16, Tryz.ntmps16
  have c0 := HA.out.cell (.head _) 0
  have c1 := HA.out.cell (.head _) 1
  have c2 := HA.out.cell (.head _) 2
  go_wp2_with fail
  refine (HTH.out _ HA.out.fr).mono ?_
  rintro _ w1 ⟨rfl, hb⟩
  have HA' := Lib.hid (HA.out.below hb)
  clear HA
  have HA := HA'
  clear HA'
  clear hb c0 c1 c2
  have c0 := HA.out.cell (.head _) 0
  have c1 := HA.out.cell (.head _) 1
  have c2 := HA.out.cell (.head _) 2
  go_wp2_with fail
  refine (HFI.out _ HA.out.fr).mono ?_
  rintro _ w2 ⟨z, rfl, hq, hb⟩
  have HA' := Lib.hid (HA.out.below hb)
  clear HA
  have HA := HA'
  clear HA'
  have HQ := Lib.hid hq
  clear hq hb c0 c1 c2
  go_wp2_with fail
  refine (HC3.out z _ HQ.out).mono ?_
  rintro _ w3 ⟨l1, l2, ⟨ca, cc, cb1, cd, rfl, ho, hn, hb⟩, hc, hs⟩
  have HCV := Lib.hid hc
  have HCS := Lib.hid hs
  clear hc hs HQ
  have HA' := Lib.hid (HA.out.below hb)
  clear HA
  have HA := HA'
  clear HA'
  have HCO := Lib.hid ho
  have HCN := Lib.hid hn
  clear ho hn hb
  have hlm := HCS.out
  have hl1 : l1.length ≤ 8 := by omega
  have hl2 : l2.length ≤ 8 := by omega
  have HLM : Hid ((l1.length : Int) + (l2.length : Int) = (mst : Int)) := by unfold Hid; omega
  clear hlm
  have c0 := HA.out.cell (.head _) 0
  have c1 := HA.out.cell (.head _) 1
  have c2 := HA.out.cell (.head _) 2
  go_wp2_with fail
  refine (HFI.out _ HA.out.fr).mono ?_
  rintro _ w4 ⟨z, rfl, hq, hb⟩
  have HA' := Lib.hid (HA.out.below hb)
  clear HA
  have HA := HA'
  clear HA'
  have HCO' := Lib.hid (HCO.out.below hb)
  clear HCO
  have HCO := HCO'
  clear HCO'
  have HCN' := Lib.hid (HCN.out.below hb)
  clear HCN
  have HCN := HCN'
  clear HCN'
  have HQ := Lib.hid hq
  clear hq hb c0 c1 c2
  go_wp2_with fail
  refine (HI1.out _ HA.out.fr).mono ?_
  rintro _ w5 ⟨bX1, cX1, rfl, hlX1, hb⟩
  have HA' := Lib.hid (HA.out.below hb)
  clear HA
  have HA := HA'
  clear HA'
  have HCO' := Lib.hid (HCO.out.below hb)
  clear HCO
  have HCO := HCO'
  clear HCO'
  have HCN' := Lib.hid (HCN.out.below hb)
  clear HCN
  have HCN := HCN'
  clear HCN'
  have HQ' := Lib.hid (HQ.out.below QP.k hb)
  clear HQ
  have HQ := HQ'
  clear HQ'
  have HLX1 := Lib.hid hlX1
  clear hlX1 hb
  go_wp2_with fail
  refine (HP5.out z _ _ _ HQ.out HLX1.out).mono ?_
  rintro _ w6 ⟨rfl, hb⟩
  have HA' := Lib.hid (HA.out.below hb)
  clear HA
  have HA := HA'
  clear HA'
  have HCO' := Lib.hid (HCO.out.below hb)
  clear HCO
  have HCO := HCO'
  clear HCO'
  have HCN' := Lib.hid (HCN.out.below hb)
  clear HCN
  have HCN := HCN'
  clear HCN'
  have HLX1' := Lib.hid (HLX1.out.below hb)
  clear HLX1
  have HLX1 := HLX1'
  clear HLX1'
  clear hb
  clear HQ
  clear HLX1
  have c0 := HA.out.cell (.head _) 0
  have c1 := HA.out.cell (.head _) 1
  have c2 := HA.out.cell (.head _) 2
  go_wp2_with fail
  refine (HFI.out _ HA.out.fr).mono ?_
  rintro _ w7 ⟨z, rfl, hq, hb⟩
  have HA' := Lib.hid (HA.out.below hb)
  clear HA
  have HA := HA'
  clear HA'
  have HCO' := Lib.hid (HCO.out.below hb)
  clear HCO
  have HCO := HCO'
  clear HCO'
  have HCN' := Lib.hid (HCN.out.below hb)
  clear HCN
  have HCN := HCN'
  clear HCN'
  have HQ := Lib.hid hq
  clear hq hb c0 c1 c2
  go_wp2_with fail
  refine (HI2.out _ HA.out.fr).mono ?_
  rintro _ w8 ⟨bX2, cX2, rfl, hlX2, hb⟩
  have HA' := Lib.hid (HA.out.below hb)
  clear HA
  have HA := HA'
  clear HA'
  have HCO' := Lib.hid (HCO.out.below hb)
  clear HCO
  have HCO := HCO'
  clear HCO'
  have HCN' := Lib.hid (HCN.out.below hb)
  clear HCN
  have HCN := HCN'
  clear HCN'
  have HQ' := Lib.hid (HQ.out.below QP.k hb)
  clear HQ
  have HQ := HQ'
  clear HQ'
  have HLX2 := Lib.hid hlX2
  clear hlX2 hb
  go_wp2_with fail
  refine (HI3.out _ HA.out.fr).mono ?_
  rintro _ w9 ⟨bX3, cX3, rfl, hlX3, hb⟩
  have HA' := Lib.hid (HA.out.below hb)
  clear HA
  have HA := HA'
  clear HA'
  have HCO' := Lib.hid (HCO.out.below hb)
  clear HCO
  have HCO := HCO'
  clear HCO'
  have HCN' := Lib.hid (HCN.out.below hb)
  clear HCN
  have HCN := HCN'
  clear HCN'
  have HLX2' := Lib.hid (HLX2.out.below hb)
  clear HLX2
  have HLX2 := HLX2'
  clear HLX2'
  have HQ' := Lib.hid (HQ.out.below QP.k hb)
  clear HQ
  have HQ := HQ'
  clear HQ'
  have HLX3 := Lib.hid hlX3
  clear hlX3 hb
  go_wp2_with fail
  refine (HP6.out z _ _ _ _ _ HQ.out HLX2.out HLX3.out).mono ?_
  rintro _ w10 ⟨rfl, hb⟩
  have HA' := Lib.hid (HA.out.below hb)
  clear HA
  have HA := HA'
  clear HA'
  have HCO' := Lib.hid (HCO.out.below hb)
  clear HCO
  have HCO := HCO'
  clear HCO'
  have HCN' := Lib.hid (HCN.out.below hb)
  clear HCN
  have HCN := HCN'
  clear HCN'
  have HLX2' := Lib.hid (HLX2.out.below hb)
  clear HLX2
  have HLX2 := HLX2'
  clear HLX2'
  have HLX3' := Lib.hid (HLX3.out.below hb)
  clear HLX3
  have HLX3 := HLX3'
  clear HLX3'
  clear hb
  clear HQ
  clear HLX2
  clear HLX3
  have c0 := HA.out.cell (.head _) 0
  have c1 := HA.out.cell (.head _) 1
  have c2 := HA.out.cell (.head _) 2
  go_wp2_with fail
  refine (HFA.out _ HA.out.fr).mono ?_
  rintro _ w11 ⟨rfl, hb⟩
  have HA' := Lib.hid (HA.out.below hb)
  clear HA
  have HA := HA'
  clear HA'
  have HCO' := Lib.hid (HCO.out.below hb)
  clear HCO
  have HCO := HCO'
  clear HCO'
  have HCN' := Lib.hid (HCN.out.below hb)
  clear HCN
  have HCN := HCN'
  clear HCN'
  clear hb c0 c1 c2
  have c0 := HA.out.cell (.head _) 0
  have c1 := HA.out.cell (.head _) 1
  have c2 := HA.out.cell (.head _) 2
  go_wp2_with fail
  refine (HGR.out _ HA.out.fr).mono ?_
  rintro _ w12 ⟨rfl, hb⟩
  have HA' := Lib.hid (HA.out.below hb)
  clear HA
  have HA := HA'
  clear HA'
  have HCO' := Lib.hid (HCO.out.below hb)
  clear HCO
  have HCO := HCO'
  clear HCO'
  have HCN' := Lib.hid (HCN.out.below hb)
  clear HCN
  have HCN := HCN'
  clear HCN'
  clear hb c0 c1 c2
  have HS := Lib.hid (HA.out.alloc (a8 fun _ => 0) 40)
  have HGH := Lib.hid (HS.out.bk _ _ _ (.head _)).2
  have HGS := Lib.hid (graph_info (gI g))
  have HGZ : Hid ((a8 fun _ => (0 : Int)).size = (a8 (gI g)).size) := by unfold Hid; rw [a8_size, a8_size]
  have hb := below_setw (Below.refl w12.heap.size w12) #[.int .i64 0, .int .i64 0, .int .i64 0, .int .i64 0, .int .i64 0, .int .i64 0, .int .i64 0, .int .i64 0] (a8 (gI g)) 40
  have HA' : Hid (BF w ((w12.alloc (.cells #[.int .i64 0, .int .i64 0, .int .i64 0, .int .i64 0, .int .i64 0, .int .i64 0, .int .i64 0, .int .i64 0] 40)).setRow w12.heap.size (a8 (gI g))) [(w12.heap.size, a8 (gI g), 40), (w.heap.size, #[.slice oa no oc, .slice na nw nc, .slice ma nm mc], 25)]) := HA.out.setw _ _
  have HCO' := Lib.hid (HCO.out.below hb)
  clear HCO
  have HCO := HCO'
  clear HCO'
  have HCN' := Lib.hid (HCN.out.below hb)
  clear HCN
  have HCN := HCN'
  clear HCN'
  clear HA hb
  have HA := HA'
  clear HA'
  go_upto_region 10 with (first | (refine wpList_store_row (o := ⟨none, .store 40 (.tmp 17) (.tmp 87), _, _, _, _⟩) rfl 40 (.tmp 17) (.tmp 87) rfl w12.heap.size (a8 (gI g)) rfl rfl 40 (a8 fun _ => 0) HGH.out HGS.out HGZ.out (a8_one _) ?_) | (refine step_store_row (o := ⟨none, .store 40 (.tmp 17) (.tmp 87), _, _, _, _⟩) rfl 40 (.tmp 17) (.tmp 87) rfl w12.heap.size (a8 (gI g)) rfl rfl 40 (a8 fun _ => 0) HGH.out HGS.out HGZ.out (a8_one _) ?_))
  generalize ((w12.alloc (.cells #[.int .i64 0, .int .i64 0, .int .i64 0, .int .i64 0, .int .i64 0, .int .i64 0, .int .i64 0, .int .i64 0] 40)).setRow w12.heap.size (a8 (gI g))) = wg0 at *
  generalize w12.heap.size = GB at *
  clear HS HGH HGZ HTH HFI HC3 HP5 HP6 HI1 HI2 HI3 HFA HGR
  have HGH := Lib.hid (HA.out.bk _ _ _ (.head _)).2
  have c0 := HA.out.cell (.tail _ (.head _)) 0
  have c1 := HA.out.cell (.tail _ (.head _)) 1
  have c2 := HA.out.cell (.tail _ (.head _)) 2
  go_wp2_with (refine wpList_load_row (o := ⟨some 90, .load 40 (.tmp 17), _, _, _, _⟩) rfl 40 (.tmp 17) rfl GB rfl 40 (a8 (gI g)) (0, 0) _ HGH.out Tryz.underlying40 rfl HGS.out ?_)
  refine (HIM.out _ HA.out.fr).mono ?_
  rintro _ wg1 ⟨rfl, hb⟩
  generalize gI g = G at *
  rw [a8_l8] at HIC HMG
  unfold l8 at HIC HMG
  have HIK2 : Hid (∀ X (l1 l2 : List Nat) a c b d, IntsIn X (.slice a l1.length c) l1.length (nz l1) → IntsIn X (.slice b l2.length d) l2.length (nz l2) → isC l1.length (nz l1) l2.length (nz l2) = true → l1.length + l2.length = mst → Calls Tryz.prog 54 #[.agg #[.slice oa no oc, .slice na nw nc, .slice ma nm mc], .agg #[.int .i64 (G 0), .int .i64 (G 1), .int .i64 (G 2), .int .i64 (G 3), .int .i64 (G 4), .int .i64 (G 5), .int .i64 (G 6), .int .i64 (G 7)], .slice a l1.length c, .slice b l2.length d] X fun e w' => e = .returned (.bool true) ∧ Below X.heap.size X w') := HIK.out
  clear HIK
  have HIK := HIK2
  clear HIK2
  have HA' := Lib.hid (HA.out.below hb)
  clear HA
  have HA := HA'
  clear HA'
  have HCO' := Lib.hid (HCO.out.below hb)
  clear HCO
  have HCO := HCO'
  clear HCO'
  have HCN' := Lib.hid (HCN.out.below hb)
  clear HCN
  have HCN := HCN'
  clear HCN'
  clear hb HGH HIM c0 c1 c2
  cases mb
  · obtain rfl : bis = false := by have h := HBI.out; simpa using h.symm
    clear HBI
    have g0 := (HA.out.cell (.head _) 0).trans (a8_get G (by decide))
    have g1 := (HA.out.cell (.head _) 1).trans (a8_get G (by decide))
    have g2 := (HA.out.cell (.head _) 2).trans (a8_get G (by decide))
    have g3 := (HA.out.cell (.head _) 3).trans (a8_get G (by decide))
    have g4 := (HA.out.cell (.head _) 4).trans (a8_get G (by decide))
    have g5 := (HA.out.cell (.head _) 5).trans (a8_get G (by decide))
    have g6 := (HA.out.cell (.head _) 6).trans (a8_get G (by decide))
    have g7 := (HA.out.cell (.head _) 7).trans (a8_get G (by decide))
    have c0 := HA.out.cell (.tail _ (.head _)) 0
    have c1 := HA.out.cell (.tail _ (.head _)) 1
    have c2 := HA.out.cell (.tail _ (.head _)) 2
    go_wp2_with fail
    refine (HIC.out _ HA.out.fr).mono ?_
    rintro _ wj1 ⟨rfl, hb⟩
    have HA' := Lib.hid (HA.out.below hb)
    clear HA
    have HA := HA'
    clear HA'
    have HCO' := Lib.hid (HCO.out.below hb)
    clear HCO
    have HCO := HCO'
    clear HCO'
    have HCN' := Lib.hid (HCN.out.below hb)
    clear HCN
    have HCN := HCN'
    clear HCN'
    clear hb HIC c0 c1 c2 g0 g1 g2 g3 g4 g5 g6 g7
    cases cb
    · obtain rfl : bcv = false := by have h := HBC.out; simpa using h.symm
      clear HBC
      have g0 := (HA.out.cell (.head _) 0).trans (a8_get G (by decide))
      have g1 := (HA.out.cell (.head _) 1).trans (a8_get G (by decide))
      have g2 := (HA.out.cell (.head _) 2).trans (a8_get G (by decide))
      have g3 := (HA.out.cell (.head _) 3).trans (a8_get G (by decide))
      have g4 := (HA.out.cell (.head _) 4).trans (a8_get G (by decide))
      have g5 := (HA.out.cell (.head _) 5).trans (a8_get G (by decide))
      have g6 := (HA.out.cell (.head _) 6).trans (a8_get G (by decide))
      have g7 := (HA.out.cell (.head _) 7).trans (a8_get G (by decide))
      have c0 := HA.out.cell (.tail _ (.head _)) 0
      have c1 := HA.out.cell (.tail _ (.head _)) 1
      have c2 := HA.out.cell (.tail _ (.head _)) 2
      have HLM2 := HLM.out
      go_wp2_with fail
      refine (HIK.out _ l1 l2 _ _ _ _ HCO.out HCN.out HCV.out HCS.out).mono ?_
      rintro _ wk1 ⟨rfl, hb⟩
      have HA' := Lib.hid (HA.out.below hb)
      clear HA
      have HA := HA'
      clear HA'
      clear hb c0 c1 c2 HIK HCO HCN g0 g1 g2 g3 g4 g5 g6 g7
      have g0 := (HA.out.cell (.head _) 0).trans (a8_get G (by decide))
      have g1 := (HA.out.cell (.head _) 1).trans (a8_get G (by decide))
      have g2 := (HA.out.cell (.head _) 2).trans (a8_get G (by decide))
      have g3 := (HA.out.cell (.head _) 3).trans (a8_get G (by decide))
      have g4 := (HA.out.cell (.head _) 4).trans (a8_get G (by decide))
      have g5 := (HA.out.cell (.head _) 5).trans (a8_get G (by decide))
      have g6 := (HA.out.cell (.head _) 6).trans (a8_get G (by decide))
      have g7 := (HA.out.cell (.head _) 7).trans (a8_get G (by decide))
      have kq : ((l1.length : Int) + (l2.length : Int) == (mst : Int)) = true := by rw [HLM2]; simp
      clear HLM2
      go_wp2_with fail
      refine (HMG.out _).mono ?_
      rintro _ wk2 ⟨rfl, hb⟩
      have HA' := Lib.hid (HA.out.below hb)
      clear HA
      have HA := HA'
      clear HA'
      clear hb HMG g0 g1 g2 g3 g4 g5 g6 g7
      go_wp2_with fail
      refine (awake5_any _).mono ?_
      rintro _ wk3 ⟨rfl, hb⟩
      have HA4 := Lib.hid (HA.out.below hb)
      clear hb
      go_wp2_with fail
      go_ret
      exact ⟨rfl, HA4.out.fr⟩
    · by_cases hcv : (n2 : Int) + (n3 : Int) ≤ many
      · obtain rfl : bcv = true := by have h := HBC.out; rw [decide_eq_true hcv] at h; exact h.symm
        clear HBC
        have g0 := (HA.out.cell (.head _) 0).trans (a8_get G (by decide))
        have g1 := (HA.out.cell (.head _) 1).trans (a8_get G (by decide))
        have g2 := (HA.out.cell (.head _) 2).trans (a8_get G (by decide))
        have g3 := (HA.out.cell (.head _) 3).trans (a8_get G (by decide))
        have g4 := (HA.out.cell (.head _) 4).trans (a8_get G (by decide))
        have g5 := (HA.out.cell (.head _) 5).trans (a8_get G (by decide))
        have g6 := (HA.out.cell (.head _) 6).trans (a8_get G (by decide))
        have g7 := (HA.out.cell (.head _) 7).trans (a8_get G (by decide))
        have c0 := HA.out.cell (.tail _ (.head _)) 0
        have c1 := HA.out.cell (.tail _ (.head _)) 1
        have c2 := HA.out.cell (.tail _ (.head _)) 2
        have HLM2 := HLM.out
        go_wp2_with fail
        refine (HIK.out _ l1 l2 _ _ _ _ HCO.out HCN.out HCV.out HCS.out).mono ?_
        rintro _ wk1 ⟨rfl, hb⟩
        have HA' := Lib.hid (HA.out.below hb)
        clear HA
        have HA := HA'
        clear HA'
        clear hb c0 c1 c2 HIK HCO HCN g0 g1 g2 g3 g4 g5 g6 g7
        have g0 := (HA.out.cell (.head _) 0).trans (a8_get G (by decide))
        have g1 := (HA.out.cell (.head _) 1).trans (a8_get G (by decide))
        have g2 := (HA.out.cell (.head _) 2).trans (a8_get G (by decide))
        have g3 := (HA.out.cell (.head _) 3).trans (a8_get G (by decide))
        have g4 := (HA.out.cell (.head _) 4).trans (a8_get G (by decide))
        have g5 := (HA.out.cell (.head _) 5).trans (a8_get G (by decide))
        have g6 := (HA.out.cell (.head _) 6).trans (a8_get G (by decide))
        have g7 := (HA.out.cell (.head _) 7).trans (a8_get G (by decide))
        have kq : ((l1.length : Int) + (l2.length : Int) == (mst : Int)) = true := by rw [HLM2]; simp
        clear HLM2
        go_wp2_with fail
        refine (HMG.out _).mono ?_
        rintro _ wk2 ⟨rfl, hb⟩
        have HA' := Lib.hid (HA.out.below hb)
        clear HA
        have HA := HA'
        clear HA'
        clear hb HMG g0 g1 g2 g3 g4 g5 g6 g7
        go_wp2_with fail
        refine (awake5_any _).mono ?_
        rintro _ wk3 ⟨rfl, hb⟩
        have HA4 := Lib.hid (HA.out.below hb)
        clear hb
        go_wp2_with fail
        go_ret
        exact ⟨rfl, HA4.out.fr⟩
      · obtain rfl : bcv = false := by have h := HBC.out; rw [decide_eq_false hcv] at h; exact h.symm
        clear HBC
        have g0 := (HA.out.cell (.head _) 0).trans (a8_get G (by decide))
        have g1 := (HA.out.cell (.head _) 1).trans (a8_get G (by decide))
        have g2 := (HA.out.cell (.head _) 2).trans (a8_get G (by decide))
        have g3 := (HA.out.cell (.head _) 3).trans (a8_get G (by decide))
        have g4 := (HA.out.cell (.head _) 4).trans (a8_get G (by decide))
        have g5 := (HA.out.cell (.head _) 5).trans (a8_get G (by decide))
        have g6 := (HA.out.cell (.head _) 6).trans (a8_get G (by decide))
        have g7 := (HA.out.cell (.head _) 7).trans (a8_get G (by decide))
        have c0 := HA.out.cell (.tail _ (.head _)) 0
        have c1 := HA.out.cell (.tail _ (.head _)) 1
        have c2 := HA.out.cell (.tail _ (.head _)) 2
        have HLM2 := HLM.out
        go_wp2_with fail
        refine (HIK.out _ l1 l2 _ _ _ _ HCO.out HCN.out HCV.out HCS.out).mono ?_
        rintro _ wk1 ⟨rfl, hb⟩
        have HA' := Lib.hid (HA.out.below hb)
        clear HA
        have HA := HA'
        clear HA'
        clear hb c0 c1 c2 HIK HCO HCN g0 g1 g2 g3 g4 g5 g6 g7
        have g0 := (HA.out.cell (.head _) 0).trans (a8_get G (by decide))
        have g1 := (HA.out.cell (.head _) 1).trans (a8_get G (by decide))
        have g2 := (HA.out.cell (.head _) 2).trans (a8_get G (by decide))
        have g3 := (HA.out.cell (.head _) 3).trans (a8_get G (by decide))
        have g4 := (HA.out.cell (.head _) 4).trans (a8_get G (by decide))
        have g5 := (HA.out.cell (.head _) 5).trans (a8_get G (by decide))
        have g6 := (HA.out.cell (.head _) 6).trans (a8_get G (by decide))
        have g7 := (HA.out.cell (.head _) 7).trans (a8_get G (by decide))
        have kq : ((l1.length : Int) + (l2.length : Int) == (mst : Int)) = true := by rw [HLM2]; simp
        clear HLM2
        go_wp2_with fail
        refine (HMG.out _).mono ?_
        rintro _ wk2 ⟨rfl, hb⟩
        have HA' := Lib.hid (HA.out.below hb)
        clear HA
        have HA := HA'
        clear HA'
        clear hb HMG g0 g1 g2 g3 g4 g5 g6 g7
        go_wp2_with fail
        refine (awake5_any _).mono ?_
        rintro _ wk3 ⟨rfl, hb⟩
        have HA4 := Lib.hid (HA.out.below hb)
        clear hb
        go_wp2_with fail
        go_ret
        exact ⟨rfl, HA4.out.fr⟩
  · by_cases hmn : many ≤ sz
    · obtain rfl : bis = true := by have h := HBI.out; rw [decide_eq_true hmn] at h; exact h.symm
      clear HBI
      have g0 := (HA.out.cell (.head _) 0).trans (a8_get G (by decide))
      have g1 := (HA.out.cell (.head _) 1).trans (a8_get G (by decide))
      have g2 := (HA.out.cell (.head _) 2).trans (a8_get G (by decide))
      have g3 := (HA.out.cell (.head _) 3).trans (a8_get G (by decide))
      have g4 := (HA.out.cell (.head _) 4).trans (a8_get G (by decide))
      have g5 := (HA.out.cell (.head _) 5).trans (a8_get G (by decide))
      have g6 := (HA.out.cell (.head _) 6).trans (a8_get G (by decide))
      have g7 := (HA.out.cell (.head _) 7).trans (a8_get G (by decide))
      have c0 := HA.out.cell (.tail _ (.head _)) 0
      have c1 := HA.out.cell (.tail _ (.head _)) 1
      have c2 := HA.out.cell (.tail _ (.head _)) 2
      go_wp2_with fail
      refine (HIC.out _ HA.out.fr).mono ?_
      rintro _ wj1 ⟨rfl, hb⟩
      have HA' := Lib.hid (HA.out.below hb)
      clear HA
      have HA := HA'
      clear HA'
      have HCO' := Lib.hid (HCO.out.below hb)
      clear HCO
      have HCO := HCO'
      clear HCO'
      have HCN' := Lib.hid (HCN.out.below hb)
      clear HCN
      have HCN := HCN'
      clear HCN'
      clear hb HIC c0 c1 c2 g0 g1 g2 g3 g4 g5 g6 g7
      cases cb
      · obtain rfl : bcv = false := by have h := HBC.out; simpa using h.symm
        clear HBC
        have g0 := (HA.out.cell (.head _) 0).trans (a8_get G (by decide))
        have g1 := (HA.out.cell (.head _) 1).trans (a8_get G (by decide))
        have g2 := (HA.out.cell (.head _) 2).trans (a8_get G (by decide))
        have g3 := (HA.out.cell (.head _) 3).trans (a8_get G (by decide))
        have g4 := (HA.out.cell (.head _) 4).trans (a8_get G (by decide))
        have g5 := (HA.out.cell (.head _) 5).trans (a8_get G (by decide))
        have g6 := (HA.out.cell (.head _) 6).trans (a8_get G (by decide))
        have g7 := (HA.out.cell (.head _) 7).trans (a8_get G (by decide))
        have c0 := HA.out.cell (.tail _ (.head _)) 0
        have c1 := HA.out.cell (.tail _ (.head _)) 1
        have c2 := HA.out.cell (.tail _ (.head _)) 2
        have HLM2 := HLM.out
        go_wp2_with fail
        refine (HIK.out _ l1 l2 _ _ _ _ HCO.out HCN.out HCV.out HCS.out).mono ?_
        rintro _ wk1 ⟨rfl, hb⟩
        have HA' := Lib.hid (HA.out.below hb)
        clear HA
        have HA := HA'
        clear HA'
        clear hb c0 c1 c2 HIK HCO HCN g0 g1 g2 g3 g4 g5 g6 g7
        have g0 := (HA.out.cell (.head _) 0).trans (a8_get G (by decide))
        have g1 := (HA.out.cell (.head _) 1).trans (a8_get G (by decide))
        have g2 := (HA.out.cell (.head _) 2).trans (a8_get G (by decide))
        have g3 := (HA.out.cell (.head _) 3).trans (a8_get G (by decide))
        have g4 := (HA.out.cell (.head _) 4).trans (a8_get G (by decide))
        have g5 := (HA.out.cell (.head _) 5).trans (a8_get G (by decide))
        have g6 := (HA.out.cell (.head _) 6).trans (a8_get G (by decide))
        have g7 := (HA.out.cell (.head _) 7).trans (a8_get G (by decide))
        have kq : ((l1.length : Int) + (l2.length : Int) == (mst : Int)) = true := by rw [HLM2]; simp
        clear HLM2
        go_wp2_with fail
        refine (HMG.out _).mono ?_
        rintro _ wk2 ⟨rfl, hb⟩
        have HA' := Lib.hid (HA.out.below hb)
        clear HA
        have HA := HA'
        clear HA'
        clear hb HMG g0 g1 g2 g3 g4 g5 g6 g7
        go_wp2_with fail
        refine (awake5_any _).mono ?_
        rintro _ wk3 ⟨rfl, hb⟩
        have HA4 := Lib.hid (HA.out.below hb)
        clear hb
        go_wp2_with fail
        go_ret
        exact ⟨rfl, HA4.out.fr⟩
      · by_cases hcv : (n2 : Int) + (n3 : Int) ≤ many
        · obtain rfl : bcv = true := by have h := HBC.out; rw [decide_eq_true hcv] at h; exact h.symm
          clear HBC
          have g0 := (HA.out.cell (.head _) 0).trans (a8_get G (by decide))
          have g1 := (HA.out.cell (.head _) 1).trans (a8_get G (by decide))
          have g2 := (HA.out.cell (.head _) 2).trans (a8_get G (by decide))
          have g3 := (HA.out.cell (.head _) 3).trans (a8_get G (by decide))
          have g4 := (HA.out.cell (.head _) 4).trans (a8_get G (by decide))
          have g5 := (HA.out.cell (.head _) 5).trans (a8_get G (by decide))
          have g6 := (HA.out.cell (.head _) 6).trans (a8_get G (by decide))
          have g7 := (HA.out.cell (.head _) 7).trans (a8_get G (by decide))
          have c0 := HA.out.cell (.tail _ (.head _)) 0
          have c1 := HA.out.cell (.tail _ (.head _)) 1
          have c2 := HA.out.cell (.tail _ (.head _)) 2
          have HLM2 := HLM.out
          go_wp2_with fail
          refine (HIK.out _ l1 l2 _ _ _ _ HCO.out HCN.out HCV.out HCS.out).mono ?_
          rintro _ wk1 ⟨rfl, hb⟩
          have HA' := Lib.hid (HA.out.below hb)
          clear HA
          have HA := HA'
          clear HA'
          clear hb c0 c1 c2 HIK HCO HCN g0 g1 g2 g3 g4 g5 g6 g7
          have g0 := (HA.out.cell (.head _) 0).trans (a8_get G (by decide))
          have g1 := (HA.out.cell (.head _) 1).trans (a8_get G (by decide))
          have g2 := (HA.out.cell (.head _) 2).trans (a8_get G (by decide))
          have g3 := (HA.out.cell (.head _) 3).trans (a8_get G (by decide))
          have g4 := (HA.out.cell (.head _) 4).trans (a8_get G (by decide))
          have g5 := (HA.out.cell (.head _) 5).trans (a8_get G (by decide))
          have g6 := (HA.out.cell (.head _) 6).trans (a8_get G (by decide))
          have g7 := (HA.out.cell (.head _) 7).trans (a8_get G (by decide))
          have kq : ((l1.length : Int) + (l2.length : Int) == (mst : Int)) = true := by rw [HLM2]; simp
          clear HLM2
          go_wp2_with fail
          refine (HMG.out _).mono ?_
          rintro _ wk2 ⟨rfl, hb⟩
          have HA' := Lib.hid (HA.out.below hb)
          clear HA
          have HA := HA'
          clear HA'
          clear hb HMG g0 g1 g2 g3 g4 g5 g6 g7
          go_wp2_with fail
          refine (awake5_any _).mono ?_
          rintro _ wk3 ⟨rfl, hb⟩
          have HA4 := Lib.hid (HA.out.below hb)
          clear hb
          go_wp2_with fail
          go_ret
          exact ⟨rfl, HA4.out.fr⟩
        · obtain rfl : bcv = false := by have h := HBC.out; rw [decide_eq_false hcv] at h; exact h.symm
          clear HBC
          have g0 := (HA.out.cell (.head _) 0).trans (a8_get G (by decide))
          have g1 := (HA.out.cell (.head _) 1).trans (a8_get G (by decide))
          have g2 := (HA.out.cell (.head _) 2).trans (a8_get G (by decide))
          have g3 := (HA.out.cell (.head _) 3).trans (a8_get G (by decide))
          have g4 := (HA.out.cell (.head _) 4).trans (a8_get G (by decide))
          have g5 := (HA.out.cell (.head _) 5).trans (a8_get G (by decide))
          have g6 := (HA.out.cell (.head _) 6).trans (a8_get G (by decide))
          have g7 := (HA.out.cell (.head _) 7).trans (a8_get G (by decide))
          have c0 := HA.out.cell (.tail _ (.head _)) 0
          have c1 := HA.out.cell (.tail _ (.head _)) 1
          have c2 := HA.out.cell (.tail _ (.head _)) 2
          have HLM2 := HLM.out
          go_wp2_with fail
          refine (HIK.out _ l1 l2 _ _ _ _ HCO.out HCN.out HCV.out HCS.out).mono ?_
          rintro _ wk1 ⟨rfl, hb⟩
          have HA' := Lib.hid (HA.out.below hb)
          clear HA
          have HA := HA'
          clear HA'
          clear hb c0 c1 c2 HIK HCO HCN g0 g1 g2 g3 g4 g5 g6 g7
          have g0 := (HA.out.cell (.head _) 0).trans (a8_get G (by decide))
          have g1 := (HA.out.cell (.head _) 1).trans (a8_get G (by decide))
          have g2 := (HA.out.cell (.head _) 2).trans (a8_get G (by decide))
          have g3 := (HA.out.cell (.head _) 3).trans (a8_get G (by decide))
          have g4 := (HA.out.cell (.head _) 4).trans (a8_get G (by decide))
          have g5 := (HA.out.cell (.head _) 5).trans (a8_get G (by decide))
          have g6 := (HA.out.cell (.head _) 6).trans (a8_get G (by decide))
          have g7 := (HA.out.cell (.head _) 7).trans (a8_get G (by decide))
          have kq : ((l1.length : Int) + (l2.length : Int) == (mst : Int)) = true := by rw [HLM2]; simp
          clear HLM2
          go_wp2_with fail
          refine (HMG.out _).mono ?_
          rintro _ wk2 ⟨rfl, hb⟩
          have HA' := Lib.hid (HA.out.below hb)
          clear HA
          have HA := HA'
          clear HA'
          clear hb HMG g0 g1 g2 g3 g4 g5 g6 g7
          go_wp2_with fail
          refine (awake5_any _).mono ?_
          rintro _ wk3 ⟨rfl, hb⟩
          have HA4 := Lib.hid (HA.out.below hb)
          clear hb
          go_wp2_with fail
          go_ret
          exact ⟨rfl, HA4.out.fr⟩
    · obtain rfl : bis = false := by have h := HBI.out; rw [decide_eq_false hmn] at h; exact h.symm
      clear HBI
      have g0 := (HA.out.cell (.head _) 0).trans (a8_get G (by decide))
      have g1 := (HA.out.cell (.head _) 1).trans (a8_get G (by decide))
      have g2 := (HA.out.cell (.head _) 2).trans (a8_get G (by decide))
      have g3 := (HA.out.cell (.head _) 3).trans (a8_get G (by decide))
      have g4 := (HA.out.cell (.head _) 4).trans (a8_get G (by decide))
      have g5 := (HA.out.cell (.head _) 5).trans (a8_get G (by decide))
      have g6 := (HA.out.cell (.head _) 6).trans (a8_get G (by decide))
      have g7 := (HA.out.cell (.head _) 7).trans (a8_get G (by decide))
      have c0 := HA.out.cell (.tail _ (.head _)) 0
      have c1 := HA.out.cell (.tail _ (.head _)) 1
      have c2 := HA.out.cell (.tail _ (.head _)) 2
      go_wp2_with fail
      refine (HIC.out _ HA.out.fr).mono ?_
      rintro _ wj1 ⟨rfl, hb⟩
      have HA' := Lib.hid (HA.out.below hb)
      clear HA
      have HA := HA'
      clear HA'
      have HCO' := Lib.hid (HCO.out.below hb)
      clear HCO
      have HCO := HCO'
      clear HCO'
      have HCN' := Lib.hid (HCN.out.below hb)
      clear HCN
      have HCN := HCN'
      clear HCN'
      clear hb HIC c0 c1 c2 g0 g1 g2 g3 g4 g5 g6 g7
      cases cb
      · obtain rfl : bcv = false := by have h := HBC.out; simpa using h.symm
        clear HBC
        have g0 := (HA.out.cell (.head _) 0).trans (a8_get G (by decide))
        have g1 := (HA.out.cell (.head _) 1).trans (a8_get G (by decide))
        have g2 := (HA.out.cell (.head _) 2).trans (a8_get G (by decide))
        have g3 := (HA.out.cell (.head _) 3).trans (a8_get G (by decide))
        have g4 := (HA.out.cell (.head _) 4).trans (a8_get G (by decide))
        have g5 := (HA.out.cell (.head _) 5).trans (a8_get G (by decide))
        have g6 := (HA.out.cell (.head _) 6).trans (a8_get G (by decide))
        have g7 := (HA.out.cell (.head _) 7).trans (a8_get G (by decide))
        have c0 := HA.out.cell (.tail _ (.head _)) 0
        have c1 := HA.out.cell (.tail _ (.head _)) 1
        have c2 := HA.out.cell (.tail _ (.head _)) 2
        have HLM2 := HLM.out
        go_wp2_with fail
        refine (HIK.out _ l1 l2 _ _ _ _ HCO.out HCN.out HCV.out HCS.out).mono ?_
        rintro _ wk1 ⟨rfl, hb⟩
        have HA' := Lib.hid (HA.out.below hb)
        clear HA
        have HA := HA'
        clear HA'
        clear hb c0 c1 c2 HIK HCO HCN g0 g1 g2 g3 g4 g5 g6 g7
        have g0 := (HA.out.cell (.head _) 0).trans (a8_get G (by decide))
        have g1 := (HA.out.cell (.head _) 1).trans (a8_get G (by decide))
        have g2 := (HA.out.cell (.head _) 2).trans (a8_get G (by decide))
        have g3 := (HA.out.cell (.head _) 3).trans (a8_get G (by decide))
        have g4 := (HA.out.cell (.head _) 4).trans (a8_get G (by decide))
        have g5 := (HA.out.cell (.head _) 5).trans (a8_get G (by decide))
        have g6 := (HA.out.cell (.head _) 6).trans (a8_get G (by decide))
        have g7 := (HA.out.cell (.head _) 7).trans (a8_get G (by decide))
        have kq : ((l1.length : Int) + (l2.length : Int) == (mst : Int)) = true := by rw [HLM2]; simp
        clear HLM2
        go_wp2_with fail
        refine (HMG.out _).mono ?_
        rintro _ wk2 ⟨rfl, hb⟩
        have HA' := Lib.hid (HA.out.below hb)
        clear HA
        have HA := HA'
        clear HA'
        clear hb HMG g0 g1 g2 g3 g4 g5 g6 g7
        go_wp2_with fail
        refine (awake5_any _).mono ?_
        rintro _ wk3 ⟨rfl, hb⟩
        have HA4 := Lib.hid (HA.out.below hb)
        clear hb
        go_wp2_with fail
        go_ret
        exact ⟨rfl, HA4.out.fr⟩
      · by_cases hcv : (n2 : Int) + (n3 : Int) ≤ many
        · obtain rfl : bcv = true := by have h := HBC.out; rw [decide_eq_true hcv] at h; exact h.symm
          clear HBC
          have g0 := (HA.out.cell (.head _) 0).trans (a8_get G (by decide))
          have g1 := (HA.out.cell (.head _) 1).trans (a8_get G (by decide))
          have g2 := (HA.out.cell (.head _) 2).trans (a8_get G (by decide))
          have g3 := (HA.out.cell (.head _) 3).trans (a8_get G (by decide))
          have g4 := (HA.out.cell (.head _) 4).trans (a8_get G (by decide))
          have g5 := (HA.out.cell (.head _) 5).trans (a8_get G (by decide))
          have g6 := (HA.out.cell (.head _) 6).trans (a8_get G (by decide))
          have g7 := (HA.out.cell (.head _) 7).trans (a8_get G (by decide))
          have c0 := HA.out.cell (.tail _ (.head _)) 0
          have c1 := HA.out.cell (.tail _ (.head _)) 1
          have c2 := HA.out.cell (.tail _ (.head _)) 2
          have HLM2 := HLM.out
          go_wp2_with fail
          refine (HIK.out _ l1 l2 _ _ _ _ HCO.out HCN.out HCV.out HCS.out).mono ?_
          rintro _ wk1 ⟨rfl, hb⟩
          have HA' := Lib.hid (HA.out.below hb)
          clear HA
          have HA := HA'
          clear HA'
          clear hb c0 c1 c2 HIK HCO HCN g0 g1 g2 g3 g4 g5 g6 g7
          have g0 := (HA.out.cell (.head _) 0).trans (a8_get G (by decide))
          have g1 := (HA.out.cell (.head _) 1).trans (a8_get G (by decide))
          have g2 := (HA.out.cell (.head _) 2).trans (a8_get G (by decide))
          have g3 := (HA.out.cell (.head _) 3).trans (a8_get G (by decide))
          have g4 := (HA.out.cell (.head _) 4).trans (a8_get G (by decide))
          have g5 := (HA.out.cell (.head _) 5).trans (a8_get G (by decide))
          have g6 := (HA.out.cell (.head _) 6).trans (a8_get G (by decide))
          have g7 := (HA.out.cell (.head _) 7).trans (a8_get G (by decide))
          have kq : ((l1.length : Int) + (l2.length : Int) == (mst : Int)) = true := by rw [HLM2]; simp
          clear HLM2
          go_wp2_with fail
          refine (HMG.out _).mono ?_
          rintro _ wk2 ⟨rfl, hb⟩
          have HA' := Lib.hid (HA.out.below hb)
          clear HA
          have HA := HA'
          clear HA'
          clear hb HMG g0 g1 g2 g3 g4 g5 g6 g7
          go_wp2_with fail
          refine (awake5_any _).mono ?_
          rintro _ wk3 ⟨rfl, hb⟩
          have HA4 := Lib.hid (HA.out.below hb)
          clear hb
          go_wp2_with fail
          go_ret
          exact ⟨rfl, HA4.out.fr⟩
        · obtain rfl : bcv = false := by have h := HBC.out; rw [decide_eq_false hcv] at h; exact h.symm
          clear HBC
          have g0 := (HA.out.cell (.head _) 0).trans (a8_get G (by decide))
          have g1 := (HA.out.cell (.head _) 1).trans (a8_get G (by decide))
          have g2 := (HA.out.cell (.head _) 2).trans (a8_get G (by decide))
          have g3 := (HA.out.cell (.head _) 3).trans (a8_get G (by decide))
          have g4 := (HA.out.cell (.head _) 4).trans (a8_get G (by decide))
          have g5 := (HA.out.cell (.head _) 5).trans (a8_get G (by decide))
          have g6 := (HA.out.cell (.head _) 6).trans (a8_get G (by decide))
          have g7 := (HA.out.cell (.head _) 7).trans (a8_get G (by decide))
          have c0 := HA.out.cell (.tail _ (.head _)) 0
          have c1 := HA.out.cell (.tail _ (.head _)) 1
          have c2 := HA.out.cell (.tail _ (.head _)) 2
          have HLM2 := HLM.out
          go_wp2_with fail
          refine (HIK.out _ l1 l2 _ _ _ _ HCO.out HCN.out HCV.out HCS.out).mono ?_
          rintro _ wk1 ⟨rfl, hb⟩
          have HA' := Lib.hid (HA.out.below hb)
          clear HA
          have HA := HA'
          clear HA'
          clear hb c0 c1 c2 HIK HCO HCN g0 g1 g2 g3 g4 g5 g6 g7
          have g0 := (HA.out.cell (.head _) 0).trans (a8_get G (by decide))
          have g1 := (HA.out.cell (.head _) 1).trans (a8_get G (by decide))
          have g2 := (HA.out.cell (.head _) 2).trans (a8_get G (by decide))
          have g3 := (HA.out.cell (.head _) 3).trans (a8_get G (by decide))
          have g4 := (HA.out.cell (.head _) 4).trans (a8_get G (by decide))
          have g5 := (HA.out.cell (.head _) 5).trans (a8_get G (by decide))
          have g6 := (HA.out.cell (.head _) 6).trans (a8_get G (by decide))
          have g7 := (HA.out.cell (.head _) 7).trans (a8_get G (by decide))
          have kq : ((l1.length : Int) + (l2.length : Int) == (mst : Int)) = true := by rw [HLM2]; simp
          clear HLM2
          go_wp2_with fail
          refine (HMG.out _).mono ?_
          rintro _ wk2 ⟨rfl, hb⟩
          have HA' := Lib.hid (HA.out.below hb)
          clear HA
          have HA := HA'
          clear HA'
          clear hb HMG g0 g1 g2 g3 g4 g5 g6 g7
          go_wp2_with fail
          refine (awake5_any _).mono ?_
          rintro _ wk3 ⟨rfl, hb⟩
          have HA4 := Lib.hid (HA.out.below hb)
          clear hb
          go_wp2_with fail
          go_ret
          exact ⟨rfl, HA4.out.fr⟩
theorem linkProofs_walk (x : FV) (f : Fl) (a1 a2 a3 : Option Addr) (n1 d1 n2 d2 n3 d3 : Nat) (many : Int) (z1 z2 z3 : Nat → Int) (w : World) (h : FlLaw w x f) (hi1 : IntsIn w (.slice a1 n1 d1) n1 z1) (hi2 : IntsIn w (.slice a2 n2 d2) n2 z2) (hi3 : IntsIn w (.slice a3 n3 d3) n3 z3) (hr1 : ∀ j, j < n1 → rng64 (z1 j)) : Calls Tryz.prog 16 #[.agg #[.slice x.oa f.no x.oc, .slice x.na f.nw x.nc, .slice x.ma f.nm x.mc], .slice a1 n1 d1, .slice a2 n2 d2, .slice a3 n3 d3, .int .i64 many] w fun e w' => e = .returned (.bool true) ∧ Below w.heap.size w w' := by
  cases ht : f.thin
  · exact linkProofs_thick x f a1 a2 a3 n1 d1 n2 d2 n3 d3 many w h.l ht
  · by_cases hl : 11 < n1 ∨ 11 < n2 ∨ 11 < n3
    · exact linkProofs_long x f a1 a2 a3 n1 d1 n2 d2 n3 d3 many w h.l ht hl
    · by_cases hf : f.fault = 0
      · exact linkProofs_ok x f a1 a2 a3 n1 d1 n2 d2 n3 d3 many z1 z2 z3 w h.l ht hf hi1 hi2 hi3 hr1 (by omega) (by omega) (by omega)
      · exact linkProofs_bad x f a1 a2 a3 n1 d1 n2 d2 n3 d3 many z1 z2 z3 w h.l ht hf hi1 hi2 hi3 (by omega) (by omega) (by omega)
end Go.Proofs.YtgbdbikjckfgmaaGreat
