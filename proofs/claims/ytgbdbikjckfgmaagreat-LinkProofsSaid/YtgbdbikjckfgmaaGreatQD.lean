/- Link: total, ProveCover. -/
import Derived.Test.YtgbdbikjckfgmaaGreatQC
namespace Go.Proofs.YtgbdbikjckfgmaaGreat
open Go.RowKit Go.Shelf

set_option maxHeartbeats 4000000 in
theorem total_two (L : Nat) (a1 a2 : Option Addr) (n1 c1 n2 c2 : Nat) (w : World) (h0 : w.cell? ⟨L, 0, none⟩ = some (.slice a1 n1 c1)) (h1 : w.cell? ⟨L, 1, none⟩ = some (.slice a2 n2 c2)) (b1 : n1 ≤ 100000) (b2 : n2 ≤ 100000) :
    Calls Tryz.prog 88 #[.slice (some ⟨L, 0, none⟩) 2 2] w fun e w' => e = .returned (.int .i64 ((n1 : Int) + (n2 : Int))) ∧ Below w.heap.size w w' := by
  have k1 : IntKind.i64.wrap (0 + (n1 : Int)) = (n1 : Int) := (IntWalk.i64_in _ (by omega)).trans (by omega)
  have k1' : IntKind.i64.wrap (n1 : Int) = (n1 : Int) := IntWalk.i64_in _ (by omega)
  have k2 : IntKind.i64.wrap ((n1 : Int) + (n2 : Int)) = (n1 : Int) + (n2 : Int) := IntWalk.i64_in _ (by omega)
  go_enter Tryz.func88, Tryz.ntmps88
  go_wp2_with fail
  go_loopw [2, 7] (fun s v wr => ∃ k : Nat, v = .int .i64 (k : Int) ∧ k ≤ 2 ∧ s = .int .i64 (if k = 0 then 0 else if k = 1 then (n1 : Int) else (n1 : Int) + (n2 : Int)) ∧ wr = w) (fun _ v _ => 2 - (intOf v).toNat)
  case atStart => exact ⟨0, rfl, Nat.zero_le _, rfl, rfl⟩
  case round =>
    obtain ⟨k, rfl, hk, rfl, rfl⟩ := hrel
    rcases (by omega : k = 0 ∨ k = 1 ∨ k = 2) with rfl | rfl | rfl
    · go_wp2_with fail
      go_roundw
      case rel => exact ⟨1, by first | rfl | go_num, by omega, by first | rfl | (simp [k1, k1']), by first | trivial | rfl⟩
      case measure => simp [intOf]
    · go_wp2_with fail
      go_roundw
      case rel => exact ⟨2, by first | rfl | go_num, by omega, by first | rfl | (simp [k2]), by first | trivial | rfl⟩
      case measure => simp [intOf]
    · go_wp2_with fail
      go_ret
      exact ⟨rfl, Below.refl _ _⟩
/-- Row i is covered. -/
def Fl.rowC (f : Fl) (za zb : Nat → Int) (na nb i : Nat) : Bool := allB (fun j => hasN za na (i : Int) || hasN zb nb (nz (f.P i) j)) (f.P i).length
theorem Fl.rowC_eq (f : Fl) (za zb : Nat → Int) (na nb i : Nat) : f.rowC za zb na nb i = allB (fun k => !f.g i k || hasN za na (i : Int) || hasN zb nb (k : Int)) f.nw := by
  unfold Fl.rowC
  rw [Bool.eq_iff_iff]
  constructor
  · intro h
    refine allB_true fun k hk => ?_
    cases hg : f.g i k
    · rfl
    · obtain ⟨j, hj, e⟩ := List.getElem_of_mem (Fl.P_mem.2 hg)
      have h2 := allB_all h j hj
      have e2 : nz (f.P i) j = (k : Int) := by unfold nz; simp [hj, e]
      rw [e2] at h2
      rw [Bool.not_true, Bool.false_or]; exact h2
  · intro h
    refine allB_true fun j hj => ?_
    have hm : (f.P i)[j] ∈ f.P i := List.getElem_mem hj
    have hg := Fl.P_mem.1 hm
    have e2 : nz (f.P i) j = (((f.P i)[j] : Nat) : Int) := by unfold nz; simp [hj]
    have h2 := allB_all h _ (Fl.g_in hg).2
    rw [hg, Bool.not_true, Bool.false_or] at h2
    rw [e2]; exact h2
theorem Fl.isC_rows (f : Fl) (na nb : Nat) (za zb : Nat → Int) : f.isC na za nb zb = (risesB za na f.no && risesB zb nb f.nw && allB (fun i => f.rowC za zb na nb i) f.no) := by
  unfold Fl.isC
  congr 2
  funext i
  rw [Fl.rowC_eq]
set_option maxHeartbeats 4000000 in
theorem provC_bad (x : FV) (f : Fl) (u v : Value) (hu : u.oneCell' = true) (hv : v.oneCell' = true) (many : Int) (w : World) (h : FlQ QP w x f) (h1 : f.no ≤ 100000) (h2 : f.nw ≤ 100000) (h3 : f.nm ≤ 100000) (hf : f.fault ≠ 0) :
    ∀ (oa pa : Option Addr) (na nb oc pc : Nat), u = .slice oa na oc → v = .slice pa nb pc → Calls Tryz.prog 52 #[.agg #[.slice x.oa f.no x.oc, .slice x.na f.nw x.nc, .slice x.ma f.nm x.mc], u, v, .int .i64 many] w fun e w' => e = .returned (.bool false) ∧ Below w.heap.size w w' := by
  intro oa pa na nb oc pc eu ev
  subst eu ev
  have HA0 : Hid (BF w (((w.alloc (.cells #[.slice x.oa f.no x.oc, .slice x.na f.nw x.nc, .slice x.ma f.nm x.mc] 33)).alloc (.cells #[.slice oa na oc] 47)).alloc (.cells #[.slice pa nb pc] 47)) [(w.heap.size, #[.slice x.oa f.no x.oc, .slice x.na f.nw x.nc, .slice x.ma f.nm x.mc], 33), (w.heap.size + 1, #[.slice oa na oc], 47), (w.heap.size + 1 + 1, #[.slice pa nb pc], 47)]) := BF.made3 w _ _ _ _ _ _
  have HC := Lib.hid (work_bad x f _ (h.below QP.k HA0.out.fr) h1 h2 h3 hf)
  have hf1 : (f.fault != 0) = true := by simp [hf]
  clear h hf h1 h2 h3
  generalize f.fault = ft at *
  generalize f.no = no at *
  generalize f.nw = nw at *
  generalize f.nm = nm at *
  go_enter Tryz.func52, Tryz.ntmps52
  go_wp2_with fail
  refine HC.out.mono ?_
  rintro _ w1 ⟨rfl, hb⟩
  have HA1 := Lib.hid (HA0.out.below hb)
  clear hb HA0
  go_wp2_with fail
  go_ret
  exact ⟨rfl, HA1.out.fr⟩
set_option maxRecDepth 100000 in
set_option maxHeartbeats 16000000 in
theorem provC_ok (x : FV) (f : Fl) (oa pa : Option Addr) (na nb oc pc : Nat) (za zb : Nat → Int) (many : Int) (w : World) (h : FlQ QP w x f) (hf : f.fault = 0) (ha : IntsIn w (.slice oa na oc) na za) (hbb : IntsIn w (.slice pa nb pc) nb zb) (hna : na ≤ 100000) (hnb : nb ≤ 100000) :
    Calls Tryz.prog 52 #[.agg #[.slice x.oa f.no x.oc, .slice x.na f.nw x.nc, .slice x.ma f.nm x.mc], .slice oa na oc, .slice pa nb pc, .int .i64 many] w fun e w' => e = .returned (.bool (f.isC na za nb zb && decide ((na : Int) + (nb : Int) ≤ many))) ∧ Below w.heap.size w w' := by
  have OK := Lib.hid (Fl.ok hf)
  have HA0 : Hid (BF w (((w.alloc (.cells #[.slice x.oa f.no x.oc, .slice x.na f.nw x.nc, .slice x.ma f.nm x.mc] 33)).alloc (.cells #[.slice oa na oc] 47)).alloc (.cells #[.slice pa nb pc] 47)) [(w.heap.size, #[.slice x.oa f.no x.oc, .slice x.na f.nw x.nc, .slice x.ma f.nm x.mc], 33), (w.heap.size + 1, #[.slice oa na oc], 47), (w.heap.size + 1 + 1, #[.slice pa nb pc], 47)]) := BF.made3 w _ _ _ _ _ _
  have HC := Lib.hid (work_ok x f _ (h.below QP.k HA0.out.fr) hf)
  have hno := OK.out.no
  have hnw := OK.out.nw
  have HLA := Lib.hid ha
  have HLB := Lib.hid hbb
  have HPL := Lib.hid (fun i => f.P_len i)
  have HRA := Lib.hid (fun X (hX : Below w.heap.size w X) => rises_any oa na oc za (f.no : Int) X hna (by omega) (by omega) (ha.below hX))
  have HRB := Lib.hid (fun X (hX : Below w.heap.size w X) => rises_any pa nb pc zb (f.nw : Int) X hnb (by omega) (by omega) (hbb.below hX))
  have HIC := Lib.hid (f.isC_rows na nb za zb)
  have HWK : Hid (∀ B W, WkF W B f → ∃ xv, WkAt W B xv f.no f.nw f.P) := fun B W h => h
  have HRW : Hid (∀ i : Nat, allB (fun j => hasN za na (i : Int) || hasN zb nb (nz (f.P i) j)) (f.P i).length = f.rowC za zb na nb i) := fun i => rfl
  clear h hf ha hbb OK
  obtain ⟨rb, hrb⟩ : ∃ rb, f.isC na za nb zb = rb := ⟨_, rfl⟩
  rw [hrb] at HIC ⊢
  clear hrb
  generalize f.rowC za zb na nb = rowC at *
  generalize f.no = no at *
  generalize f.nw = nw at *
  generalize f.nm = nm at *
  generalize risesB za na (no : Int) = ra at *
  generalize risesB zb nb (nw : Int) = rbb at *
  have HRF1 : Hid (ra = false → rb = false) := fun h => by rw [HIC.out, h]; rfl
  have HRF2 : Hid (rbb = false → rb = false) := fun h => by rw [HIC.out, h]; simp
  have HRF3 : Hid (∀ i, i < no → rowC i = false → rb = false) := fun i hi h => by rw [HIC.out, allB_false hi h]; simp
  have HRT : Hid (ra = true → rbb = true → (∀ i, i < no → rowC i = true) → rb = true) := fun h1 h2 h3 => by rw [HIC.out, h1, h2, allB_true h3]; rfl
  clear HIC
  go_enter Tryz.func52, Tryz.ntmps52
  go_wp2_with fail
  refine HC.out.mono ?_
  rintro _ w1 ⟨B, rfl, hwk, hb⟩
  have HW := Lib.hid hwk
  have HA1 := Lib.hid (HA0.out.below hb)
  clear hb hwk HC HA0
  have HDI : Hid (w.heap.size < w.heap.size + 1 + 1 ∧ w.heap.size < w.heap.size + 1) := ⟨by omega, by omega⟩
  obtain ⟨NB, hNB⟩ : ∃ b, w.heap.size + 1 + 1 = b := ⟨_, rfl⟩
  obtain ⟨OB, hOB⟩ : ∃ b, w.heap.size + 1 = b := ⟨_, rfl⟩
  (try rw [show w.heap.size + 2 = NB by omega])
  (try rw [hNB])
  (try rw [hOB])
  rw [hNB, hOB] at HA1
  rw [hNB, hOB] at HDI
  clear hNB hOB
  have c0 := HA1.out.cell (.head _) 0
  have c1 := HA1.out.cell (.head _) 1
  have d0 := HA1.out.cell (.tail _ (.head _)) 0
  have e0 := HA1.out.cell (.tail _ (.tail _ (.head _))) 0
  go_wp2_with fail
  refine (HRA.out _ HA1.out.fr).mono ?_
  rintro _ w2 ⟨rfl, rfl⟩
  cases ra
  · have hr := HRF1.out rfl
    subst hr
    go_wp2_with fail
    go_ret
    exact ⟨rfl, HA1.out.fr⟩
  go_wp2_with fail
  refine (HRB.out _ HA1.out.fr).mono ?_
  rintro _ w2 ⟨rfl, rfl⟩
  cases rbb
  · have hr := HRF2.out rfl
    subst hr
    go_wp2_with fail
    go_ret
    exact ⟨rfl, HA1.out.fr⟩
  obtain ⟨xv, hwk⟩ := HWK.out B _ HW.out
  have k4 := hwk.c4
  have hBl := hwk.lt
  have HRWS := Lib.hid hwk.rows
  clear hwk HWK HRF1 HRF2 HRA HRB
  rename World => wb
  go_wp2_with fail
  clear c0 c1 d0 e0
  go_loopw [42] (fun v wr => ∃ i : Nat, v = .int .i64 (i : Int) ∧ i ≤ no ∧ (∀ j, j < i → rowC j = true) ∧ Below wb.heap.size wb wr) (fun v _ => no - (intOf v).toNat)
  case atStart => exact ⟨0, rfl, Nat.zero_le _, fun j hj => absurd hj (Nat.not_lt_zero j), Below.refl _ _⟩
  case round =>
    obtain ⟨i, rfl, hi, hall, hbl⟩ := hrel
    rename World => wx
    have HB := Lib.hid hbl
    have HALL := Lib.hid hall
    have HX := Lib.hid (HA1.out.below hbl)
    clear hbl hall
    by_cases hlt : i < no
    · obtain ⟨rb', ro, ra', rc, hpa, hrb', hrc, hri⟩ := HRWS.out.at hlt
      have hrc2 := below_cell HB.out _ _ hrc
      have hm : (f.P i).length ≤ 8 := by have := HPL.out i; omega
      have ki : (0 : Int) ≤ (i : Int) := by omega
      have kj : (i : Int) < (no : Int) := by omega
      have HNX : Hid (rowC i = true → ∀ j, j < i + 1 → rowC j = true) := fun h j hj => by
        rcases Nat.lt_succ_iff_lt_or_eq.1 hj with hj | rfl
        · exact HALL.out j hj
        · exact h
      have hl1 := (HX.out.lt (.tail _ (.head _))).2
      have hl2 := (HX.out.lt (.tail _ (.tail _ (.head _)))).2
      have HY := Lib.hid (HX.out.alloc #[.int .i64 (i : Int)] 3)
      have HCV : Hid (CvAt (wx.alloc (.cells #[.int .i64 (i : Int)] 3)) OB wx.heap.size NB oa pa na nb oc pc i za zb) := ⟨(HY.out.lt (.tail _ (.tail _ (.head _)))).2, (HY.out.lt (.head _)).2, (HY.out.lt (.tail _ (.tail _ (.tail _ (.head _))))).2, HY.out.cell (.tail _ (.tail _ (.head _))) 0, HY.out.cell (.head _) 0, HY.out.cell (.tail _ (.tail _ (.tail _ (.head _)))) 0, HLA.out.below HY.out.fr, HLB.out.below HY.out.fr⟩
      have HBY : Hid (Below wb.heap.size wb (wx.alloc (.cells #[.int .i64 (i : Int)] 3))) := below_step HB.out (below_alloc wx _)
      have HAC := Lib.hid (all_cov OB wx.heap.size NB oa pa na nb oc pc i za zb _ HCV.out hna hnb _ _ _ (nz (f.P i)) (by omega) (hri.below HBY.out))
      rw [HRW.out i] at HAC
      have HF3 := Lib.hid (HRF3.out i hlt)
      generalize rowC i = ri at *
      rw [hpa]
      clear hri hrc HCV HALL hl1 hl2
      go_wp2_with fail
      refine HAC.out.mono ?_
      rintro _ w9 ⟨rfl, hb⟩
      have HB9 := Lib.hid (below_step HBY.out hb)
      clear hb HAC HBY HY hrc2
      cases ri
      · have hr := HF3.out rfl
        subst hr
        go_wp2_with fail
        go_ret
        exact ⟨rfl, HA1.out.fr.trans (HB9.out.mono HA1.out.fr.size)⟩
      · have HN2 := Lib.hid (HNX.out rfl)
        go_wp2_with fail
        go_roundw
        case rel => exact ⟨i + 1, by go_num, by omega, HN2.out, HB9.out⟩
        case measure => simp [intOf]; omega
    · obtain rfl : no = i := by omega
      have hr := HRT.out (by simp) (by simp) HALL.out
      subst hr
      have d0 := HX.out.cell (.tail _ (.head _)) 0
      have e0 := HX.out.cell (.tail _ (.tail _ (.head _))) 0
      have HY := Lib.hid (HX.out.alloc #[.slice oa na oc, .slice pa nb pc] 47)
      have HT := Lib.hid (total_two wx.heap.size oa pa na oc nb pc (wx.alloc (.cells #[.slice oa na oc, .slice pa nb pc] 47)) (HY.out.cell (.head _) 0) (HY.out.cell (.head _) 1) hna hnb)
      go_wp2_with fail
      refine HT.out.mono ?_
      rintro _ w9 ⟨rfl, hb⟩
      have HY9 := Lib.hid (HY.out.below hb)
      clear hb HT HY d0 e0
      go_wp2_with fail
      go_ret
      exact ⟨ret_bool (by rw [Bool.true_and]), HY9.out.fr⟩
end Go.Proofs.YtgbdbikjckfgmaaGreat
