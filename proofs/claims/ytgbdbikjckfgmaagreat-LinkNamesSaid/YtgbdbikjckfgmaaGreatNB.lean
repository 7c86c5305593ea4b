/- Link: Cost. Printed by gen_nb.py. -/
import Derived.Test.YtgbdbikjckfgmaaGreatNA
namespace Go.Proofs.YtgbdbikjckfgmaaGreat
open Go.RowKit Go.Shelf

theorem Fl.hasP (f : Fl) (i : Nat) {k : Int} (h : 0 ≤ k) : hasN (nz (f.P i)) (f.P i).length k = f.g i k.toNat := by
  apply Bool.eq_iff_iff.2
  rw [hasN_iff]
  constructor
  · rintro ⟨j, hj, hz⟩
    have e : (f.P i)[j] = (nz (f.P i) j).toNat := by unfold nz; simp [hj]
    rw [← hz, ← e]
    exact Fl.P_mem.1 (List.getElem_mem hj)
  · intro hg
    obtain ⟨j, hj, e⟩ := List.getElem_of_mem (Fl.P_mem.2 hg)
    refine ⟨j, hj, ?_⟩
    have e2 : nz (f.P i) j = (((f.P i)[j] : Nat) : Int) := by unfold nz; simp [hj]
    rw [e2, e]; omega
theorem Fl.hasP_neg (f : Fl) (i : Nat) {k : Int} (h : k < 0) : hasN (nz (f.P i)) (f.P i).length k = false := by
  cases e : hasN (nz (f.P i)) (f.P i).length k
  · rfl
  · obtain ⟨j, _, hz⟩ := hasN_iff.1 e
    unfold nz at hz; omega
/-- What Cost gives: the cost and the error. -/
def Fl.costV (f : Fl) (o k : Int) : Int × Int := if (inB o 0 ((f.no : Int) - 1) && inB k 0 ((f.nw : Int) - 1)) = true then if f.g o.toNat k.toNat = true then (f.cost o.toNat k.toNat, 0) else (0, 7) else (0, 2)
set_option maxHeartbeats 2000000 in
theorem costF_bad (o k : Int) (x : FV) (f : Fl) (w : World) (h : FlQ QP w x f) (h1 : f.no ≤ 100000) (h2 : f.nw ≤ 100000) (h3 : f.nm ≤ 100000) (hf : f.fault ≠ 0) :
    Calls Tryz.prog 31 #[.agg #[.slice x.oa f.no x.oc, .slice x.na f.nw x.nc, .slice x.ma f.nm x.mc], .int .i64 o, .int .i64 k] w fun e w' => e = .returned (.tuple #[.int .i64 0, .int .i64 f.fault]) ∧ Below w.heap.size w w' := by
  have hb0 := below_alloc w (.cells #[.slice x.oa f.no x.oc, .slice x.na f.nw x.nc, .slice x.ma f.nm x.mc] 33)
  have HC := Lib.hid (work_bad x f _ (h.below QP.k hb0) h1 h2 h3 hf)
  have HB := Lib.hid hb0
  have hf1 : (f.fault != 0) = true := by simp [hf]
  clear h hf h1 h2 h3 hb0
  generalize f.fault = ft at *
  generalize f.no = no at *
  generalize f.nw = nw at *
  generalize f.nm = nm at *
  go_enter Tryz.func31, Tryz.ntmps31
  go_wp2_with fail
  refine HC.out.mono ?_
  rintro _ w1 ⟨rfl, hb⟩
  have HB1 := Lib.hid (below_step HB.out hb)
  clear hb
  go_wp2_with fail
  go_ret2
  exact ⟨rfl, HB1.out⟩
set_option maxRecDepth 100000 in
set_option maxHeartbeats 8000000 in
theorem costF_ok (o k : Int) (x : FV) (f : Fl) (w : World) (h : FlQ QP w x f) (hf : f.fault = 0) :
    Calls Tryz.prog 31 #[.agg #[.slice x.oa f.no x.oc, .slice x.na f.nw x.nc, .slice x.ma f.nm x.mc], .int .i64 o, .int .i64 k] w fun e w' => e = .returned (.tuple #[.int .i64 (f.costV o k).1, .int .i64 (f.costV o k).2]) ∧ Below w.heap.size w w' := by
  have OK := Lib.hid (Fl.ok hf)
  have HA0 := Lib.hid ((BF.base w).alloc #[.slice x.oa f.no x.oc, .slice x.na f.nw x.nc, .slice x.ma f.nm x.mc] 33)
  have HC := Lib.hid (work_ok x f _ (h.below QP.k HA0.out.fr) hf)
  have hno := OK.out.no
  have hnw := OK.out.nw
  have HR2 : Hid ((inB o 0 ((f.no : Int) - 1) = false ∨ inB k 0 ((f.nw : Int) - 1) = false) → f.costV o k = (0, 2)) := fun h => by unfold Fl.costV; rcases h with h | h <;> simp [h]
  have HR7 : Hid (inB o 0 ((f.no : Int) - 1) = true → inB k 0 ((f.nw : Int) - 1) = true → f.g o.toNat k.toNat = false → f.costV o k = (0, 7)) := fun h1 h2 h3 => by unfold Fl.costV; simp [h1, h2, h3]
  have HR0 : Hid (inB o 0 ((f.no : Int) - 1) = true → inB k 0 ((f.nw : Int) - 1) = true → f.g o.toNat k.toNat = true → f.costV o k = (f.cost o.toNat k.toNat, 0)) := fun h1 h2 h3 => by unfold Fl.costV; simp [h1, h2, h3]
  have HCO := Lib.hid (fun B W (hW : WkF W B f) => lcost_any OK.out B o.toNat k.toNat W hW)
  have HHP := Lib.hid (fun i => f.hasP i (k := k))
  have HPL := Lib.hid (fun i => f.P_len i)
  have hw1 : IntKind.i64.wrap ((f.no : Int) - 1) = (f.no : Int) - 1 := IntWalk.i64_in _ (by omega)
  have hw2 : IntKind.i64.wrap ((f.nw : Int) - 1) = (f.nw : Int) - 1 := IntWalk.i64_in _ (by omega)
  have HWK : Hid (∀ B W, WkF W B f → ∃ xv, WkAt W B xv f.no f.nw f.P) := fun B W h => h
  clear h hf
  generalize f.costV o k = cv at *
  generalize f.no = no at *
  generalize f.nw = nw at *
  generalize f.nm = nm at *
  go_enter Tryz.func31, Tryz.ntmps31
  go_wp2_with fail
  refine HC.out.mono ?_
  rintro _ w1 ⟨B, rfl, hwk, hb⟩
  have HW := Lib.hid hwk
  have HA1 := Lib.hid (HA0.out.below hb)
  clear hb hwk HC HA0
  have c0 := HA1.out.cell (.head _) 0
  have c1 := HA1.out.cell (.head _) 1
  go_wp2_with fail
  refine (lwithin_any o 0 ((no : Int) - 1) _).mono ?_
  rintro _ w2 ⟨rfl, he⟩
  have c2 : w2.cell? ⟨w.heap.size, 1, none⟩ = some (.slice x.na nw x.nc) := by rw [← he]; exact c1
  have HA2 : Hid (Below w.heap.size w w2) := by unfold Hid; rw [← he]; exact HA1.out.fr
  have HW2 : Hid (WkF w2 B f) := by unfold Hid; rw [← he]; exact HW.out
  clear he HW HA1 c0 c1
  cases hb1 : inB o 0 ((no : Int) - 1)
  · have HC2 := Lib.hid (HR2.out (.inl hb1))
    clear hb1
    go_wp2_with fail
    go_ret2
    exact ⟨by rw [HC2.out]; rfl, HA2.out⟩
  have HB1 := Lib.hid hb1
  clear hb1
  go_wp2_with fail
  refine (lwithin_any k 0 ((nw : Int) - 1) _).mono ?_
  rintro _ w3 ⟨rfl, he⟩
  have HA3 : Hid (Below w.heap.size w w3) := by unfold Hid; rw [← he]; exact HA2.out
  have HW3 : Hid (WkF w3 B f) := by unfold Hid; rw [← he]; exact HW2.out
  clear he HW2 HA2 c2
  cases hb2 : inB k 0 ((nw : Int) - 1)
  · have HC2 := Lib.hid (HR2.out (.inr hb2))
    clear hb2
    go_wp2_with fail
    go_ret2
    exact ⟨by rw [HC2.out]; rfl, HA3.out⟩
  have hio : 0 ≤ o ∧ o ≤ (no : Int) - 1 := by have := HB1.out; unfold inB at this; simpa using this
  have hik : 0 ≤ k ∧ k ≤ (nw : Int) - 1 := by have := hb2; unfold inB at this; simpa using this
  have HB2 := Lib.hid hb2
  clear hb2
  obtain ⟨i, rfl⟩ : ∃ i : Nat, o = (i : Int) := ⟨o.toNat, by omega⟩
  obtain ⟨q, rfl⟩ : ∃ q : Nat, k = (q : Int) := ⟨k.toNat, by omega⟩
  have hlt : i < no := by omega
  obtain ⟨xv, hwk⟩ := HWK.out B _ HW3.out
  have k4 := hwk.c4
  have hBl := hwk.lt
  obtain ⟨rb, ro, ra, rc, hpa, hrb, hrc, hri⟩ := hwk.rows.at hlt
  rw [hpa] at k4
  have hm : (f.P i).length ≤ 8 := by have := HPL.out i; omega
  have HCN := Lib.hid (containsI_any _ _ _ _ (q : Int) w3 (by omega) hri)
  rw [HHP.out i (by omega)] at HCN
  have HR7' := Lib.hid (HR7.out HB1.out HB2.out)
  have HR0' := Lib.hid (HR0.out HB1.out HB2.out)
  have HCOI := Lib.hid (HCO.out B)
  rw [Int.toNat_natCast, Int.toNat_natCast] at HR7' HR0' HCOI
  rw [Int.toNat_natCast] at HCN
  clear hri hwk HPL HHP HR7 HR0 HR2 HCO hpa
  generalize hg : f.g i q = g at *
  clear hg
  go_wp2_with fail
  refine HCN.out.mono ?_
  rintro _ w4 ⟨rfl, he⟩
  have HA4 : Hid (Below w.heap.size w w4) := by unfold Hid; rw [← he]; exact HA3.out
  have HW4 : Hid (WkF w4 B f) := by unfold Hid; rw [← he]; exact HW3.out
  clear he HW3 HA3
  cases g
  · have HC2 := Lib.hid (HR7'.out rfl)
    go_wp2_with fail
    go_ret2
    exact ⟨by rw [HC2.out]; rfl, HA4.out⟩
  · have HC2 := Lib.hid (HR0'.out rfl)
    have HCC := Lib.hid (HCOI.out w4 HW4.out)
    go_wp2_with fail
    refine HCC.out.mono ?_
    rintro _ w5 ⟨rfl, hb⟩
    have HA5 := Lib.hid (HA4.out.trans (hb.mono HA4.out.size))
    clear hb
    go_wp2_with fail
    go_ret2
    exact ⟨by rw [HC2.out]; rfl, HA5.out⟩

end Go.Proofs.YtgbdbikjckfgmaaGreat
