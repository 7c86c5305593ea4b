/- The document's example, with its names in reach. -/
import Derived.Test.YtagfcfojfjkmbaaS10
import Derived.Test.YtagfcfojfjkmbaaK4
import Derived.Test.YtagfcfojfjkmbaaS1
namespace Go.Proofs.Ytagfcfojfjkmbaa
open Go.RowKit Go.Shelf

set_option maxRecDepth 100000 in
set_option maxHeartbeats 2000000 in
/-- The document's person, with its one record. -/
theorem somebody_nil (w : World) :
    Calls Try.prog 61 #[.slice none 0 0] w fun e w' => ∃ R v, e = .returned (.agg #[.int .i64 0, .int .i64 20000, .slice (some ⟨R, 0, none⟩) 2 2, v]) ∧ w.heap.size ≤ R ∧ w'.heap[R]? = some (.cells #[.int .i64 0, .int .i64 1, .int .i64 0, .int .i64 0, .int .i64 20, .int .i64 5, .int .i64 1, .int .i64 1] 80 (0, 0)) ∧ CL w' v [⟨10000, 1, 25⟩] ∧ Below w.heap.size w w' := by
  obtain ⟨i0, hi0, hz0, hz1, hz2⟩ := info_parts Try.infoRecord
  go_enter Try.func61, Try.ntmps61
  go_wp2_with (first
    | (go_at_call 41; refine (between_any _ _ _).mono ?_; rintro e w1 ⟨rfl, hb1⟩)
    | (go_at_call 60; refine (rules_any _).mono ?_; rintro e w2 ⟨rfl, rfl⟩)
    | (at_builtin; refine wpList_append_src _ rfl _ _ 43 rfl 0 109 i0 (.agg #[.int .i64 0, .int .i64 0, .int .i64 0]) 3 24 Try.underlying43 hi0 hz0 hz1 hz2 rfl (by decide) (.slice (some ⟨w1.heap.size + 1, 0, none⟩) 1 1) 1 [.int .i64 10000, .int .i64 1, .int .i64 25] rfl ?own none 0 0 [] rfl ⟨rfl, fun j u hu => by cases hu⟩ (fun u hu => by cases hu) ?c3 ?c4 ?c5 ?_))
  case own =>
    refine ⟨rfl, .inr ⟨w1.heap.size + 1, 1, #[.int .i64 10000, .int .i64 1, .int .i64 25], rfl, Nat.zero_le _, ?_, Nat.le_refl _, by unfold maxLen; omega, rfl, rfl⟩⟩
    have := heap_alloc_new (w1.alloc (.cells #[.int .i64 0, .int .i64 1, .int .i64 0, .int .i64 0, .int .i64 20, .int .i64 5, .int .i64 1, .int .i64 1] 80)) (.cells #[.int .i64 10000, .int .i64 1, .int .i64 25] 109)
    rw [World.size_alloc] at this; exact this
  case c3 => unfold maxLen; omega
  case c4 => omega
  case c5 => omega
  intro v' w3 h3 h4 _
  have hs1 := hb1.size
  simp only [World.size_alloc] at hs1
  have hblk : w3.heap[w.heap.size]? = some (.cells #[.int .i64 0, .int .i64 0, .slice none 0 0, .slice none 0 0] 45 (0, 0)) := by
    rw [h4.block _ (by simp; omega) (fun e => absurd (show w.heap.size = w1.heap.size + 1 from Option.some.inj e) (by omega)), Below.heap_alloc _ _ _ (by simp; omega), Below.heap_alloc _ _ _ (by omega), hb1.block _ (by simp)]
    exact heap_alloc_new w _
  have hrul : w3.heap[w1.heap.size]? = some (.cells #[.int .i64 0, .int .i64 1, .int .i64 0, .int .i64 0, .int .i64 20, .int .i64 5, .int .i64 1, .int .i64 1] 80 (0, 0)) := by
    rw [h4.block _ (by simp; omega) (fun e => absurd (show w1.heap.size = w1.heap.size + 1 from Option.some.inj e) (by omega)), Below.heap_alloc _ _ _ (by simp)]
    exact heap_alloc_new w1 _
  have hbel : Below w.heap.size w w3 := (((below_alloc w _).trans (hb1.mono (by simp))).trans (((below_alloc w1 _).alloc (by simp) _).mono (by omega))).grown h4 (by simp; omega) (fun k hk => by have e : w1.heap.size + 1 = k := Option.some.inj hk; omega)
  have hcl : CL w3 v' [⟨10000, 1, 25⟩] := h3
  obtain ⟨va, vc, rfl⟩ := hcl.at.slice
  have HCL := Lib.hid hcl; have HRUL := Lib.hid hrul; have HBEL := Lib.hid hbel; have HBLK := Lib.hid hblk
  have k0 : w3.cell? ⟨w.heap.size, 0, none⟩ = some (.int .i64 0) := cell_of_row _ _ 0 _ _ _ hblk
  have k1 : w3.cell? ⟨w.heap.size, 1, none⟩ = some (.int .i64 0) := cell_of_row _ _ 1 _ _ _ hblk
  have k2 : w3.cell? ⟨w.heap.size, 2, none⟩ = some (.slice none 0 0) := cell_of_row _ _ 2 _ _ _ hblk
  have k3 : w3.cell? ⟨w.heap.size, 3, none⟩ = some (.slice none 0 0) := cell_of_row _ _ 3 _ _ _ hblk
  have q0 : w3.frozen? ⟨w.heap.size, 0, none⟩ = false := frozen_of_row _ _ 0 _ _ hblk
  have q1 : w3.frozen? ⟨w.heap.size, 1, none⟩ = false := frozen_of_row _ _ 1 _ _ hblk
  have q2 : w3.frozen? ⟨w.heap.size, 2, none⟩ = false := frozen_of_row _ _ 2 _ _ hblk
  have q3 : w3.frozen? ⟨w.heap.size, 3, none⟩ = false := frozen_of_row _ _ 3 _ _ hblk
  have hle1 : w.heap.size ≤ w1.heap.size := by omega
  clear h3 h4 hcl hrul hbel hblk hb1
  have hfr : ∀ (a b c d : Value), Fr (fun q => q = w.heap.size) w3 ((((w3.setCell ⟨w.heap.size, 0, none⟩ a).setCell ⟨w.heap.size, 1, none⟩ b).setCell ⟨w.heap.size, 2, none⟩ c).setCell ⟨w.heap.size, 3, none⟩ d) := fun a b c d => (((Fr.set _ _ _ _).trans (Fr.set _ _ _ _)).trans (Fr.set _ _ _ _)).trans (Fr.set _ _ _ _)
  have HFR := Lib.hid hfr; clear hfr
  go_wp2
  refine bodyPost_ret (v := .agg #[.int .i64 0, .int .i64 20000, .slice (some ⟨w1.heap.size, 0, none⟩) 2 2, .slice va 1 vc]) (by simp [results, Try.results61, go_sem, k0, k1, k2, k3]) rfl ⟨w1.heap.size, _, rfl, hle1, ?_, ?_, ?_⟩
  · exact ((HFR.out (.int .i64 0) (.int .i64 20000) (.slice (some ⟨w1.heap.size, 0, none⟩) 2 2) (.slice va 1 vc)).block _ (Array.getElem?_eq_some_iff.1 HRUL.out).1 (by omega)).trans HRUL.out
  · exact own_fr HCL.out (HFR.out _ _ _ _) (fun g cur _ _ hg e => by subst e; rw [HBLK.out] at hg; injection hg with e; injection e with _ e2; exact absurd e2 (by decide))
  · exact HBEL.out.trans ((HFR.out _ _ _ _).low HBEL.out.size (fun q hq e => by omega))
theorem someP_at {w : World} {R : Nat} {v : Value} (hR : w.heap[R]? = some (.cells #[.int .i64 0, .int .i64 1, .int .i64 0, .int .i64 0, .int .i64 20, .int .i64 5, .int .i64 1, .int .i64 1] 80 (0, 0))) (hC : CL w v [⟨10000, 1, 25⟩]) : PersAt w (.agg #[.int .i64 0, .int .i64 20000, .slice (some ⟨R, 0, none⟩) 2 2, v]) (someP []) := by
  refine ⟨_, _, rfl, .inr ⟨R, 0, 2, rfl, (Array.getElem?_eq_some_iff.1 hR).1, fun j hj => ?_⟩, hC.at⟩
  match j, hj with
  | 0, _ => exact ⟨cell_of_row _ _ 0 _ _ _ hR, cell_of_row _ _ 1 _ _ _ hR, cell_of_row _ _ 2 _ _ _ hR, cell_of_row _ _ 3 _ _ _ hR⟩
  | 1, _ => exact ⟨cell_of_row _ _ 4 _ _ _ hR, cell_of_row _ _ 5 _ _ _ hR, cell_of_row _ _ 6 _ _ _ hR, cell_of_row _ _ 7 _ _ _ hR⟩
  | j + 2, h => exact absurd (show j + 2 < 2 from h) (by omega)

/-- Persons with one record more. -/
def exC (n : Int) : List Rc := [⟨12000, 0, n⟩]
theorem nm_fault : (someP []).fault = 0 := by decide +kernel
theorem nm_days : (someP []).days = [(0, 1970)] := by decide +kernel
theorem nm_born : (someP []).born = [(0, 1970)] := by unfold Pers.born; rw [if_pos nm_fault, nm_days]
theorem nm_bErr : (someP []).bErr = 0 := by unfold Pers.bErr; rw [nm_days, nm_fault]; decide
theorem nm_fault30 : (someP (exC 30)).fault = 0 := by decide +kernel
theorem nm_fault40 : (someP (exC 40)).fault = 0 := by decide +kernel
theorem nm_born30 : (someP (exC 30)).born = [(686, 1050)] := ex_bornA
theorem nm_days40 : (someP (exC 40)).days = [] := by decide +kernel
theorem nm_born40 : (someP (exC 40)).born = [] := by unfold Pers.born; rw [if_pos nm_fault40, nm_days40]
theorem nm_bErr40 : (someP (exC 40)).bErr = 9 := by unfold Pers.bErr; rw [nm_days40, nm_fault40]; decide
theorem nm_shared30 : sharedL (someP []) (someP (exC 30)) = [(686, 1050)] := by unfold sharedL; rw [if_pos ⟨nm_fault, nm_fault30⟩, nm_born, nm_born30]; decide +kernel
theorem nm_shared40 : sharedL (someP []) (someP (exC 40)) = [] := by unfold sharedL; rw [if_pos ⟨nm_fault, nm_fault40⟩, nm_born, nm_born40]; decide +kernel
theorem nm_sharedE30 : sharedE (someP []) (someP (exC 30)) = 0 := by unfold sharedE; rw [if_pos nm_fault, nm_fault30]
theorem nm_sharedE40 : sharedE (someP []) (someP (exC 40)) = 0 := by unfold sharedE; rw [if_pos nm_fault, nm_fault40]
theorem nm_tog40 : togE (someP []) (someP (exC 40)) = 9 := by unfold togE; rw [if_pos ⟨nm_sharedE40, nm_shared40⟩]
theorem nm_on1 : (someP []).onE (-5) = 7 := by unfold Pers.onE; rw [nm_born, if_pos nm_fault]; decide
theorem nm_on2 : (someP []).onE 50001 = 2 := by unfold Pers.onE; rw [nm_born, if_pos nm_fault]; decide
theorem nm_true : rngs (agesF 20 5 1 1 24 126) 121 = [] := by decide +kernel
theorem nm_cnt1 : cntV 20 5 1 1 20 25 (fun j => [20, 25, 30].getD j 0) 3 = .tuple #[.agg #[.int .i64 0, .int .i64 2], .int .i64 0] := by
  unfold cntV
  rw [if_pos (by decide +kernel), cntRes_ok (by decide +kernel)]
  have h1 : cLo (cntI 20 5 1 1 20 25) (cntO 20 5 1 1 20 25) (fun j => [20, 25, 30].getD j 0) 3 = 0 := by decide +kernel
  have h2 : cHi (cntI 20 5 1 1 20 25) (fun j => [20, 25, 30].getD j 0) 3 = 2 := by decide +kernel
  rw [h1, h2]; rfl
theorem nm_cnt2 : cntV 20 5 1 1 20 25 (fun j => [24].getD j 0) 1 = .tuple #[.agg #[.int .i64 0, .int .i64 0], .int .i64 9] := by
  unfold cntV
  rw [if_pos (by decide +kernel), cntRes_bad (by decide +kernel)]
theorem nm_ages : agR 100 829 = 1 ∧ agE 100 829 = 0 ∧ agR 100 830 = 2 ∧ agE 100 830 = 0 ∧ agR 5 4 = 0 ∧ agE 5 4 = 2 := by decide +kernel
theorem nm_writes : wrR 20 5 1 1 19 = 19 ∧ wrE 20 5 1 1 19 = 0 ∧ wrR 20 5 1 1 23 = 25 ∧ wrE 20 5 1 1 23 = 0 ∧ wrR 20 5 1 1 126 = 0 ∧ wrE 20 5 1 1 126 = 2 := by decide +kernel
theorem nm_heap : heapE (fun _ => 0) 0 5 = 7 ∧ heapE (fun _ => 0) 0 13 = 1 ∧ heapE (fun _ => 0) 201 13 = 3 ∧ heapR (fun _ => 0) 0 5 = 0 ∧ heapR (fun _ => 0) 0 13 = 0 ∧ heapR (fun _ => 0) 201 13 = 0 := by decide +kernel
def nmMany : Pers := ⟨0, 20000, 5, fun j => (List.replicate 5 (⟨0, 0, 0, 0⟩ : Rl)).getD j ⟨0, 0, 0, 0⟩, 1, fun j => [⟨10000, 1, 25⟩].getD j ⟨0, 0, 0⟩⟩
def nmBase : Pers := ⟨0, 20000, 2, fun j => if j = 0 then ⟨0, 0, 0, 0⟩ else ⟨20, 5, 1, 1⟩, 1, fun j => [⟨10000, 1, 25⟩].getD j ⟨0, 0, 0⟩⟩
def nmBack : Pers := ⟨5, 4, 2, fun j => if j = 0 then ⟨0, 1, 0, 0⟩ else ⟨20, 5, 1, 1⟩, 1, fun j => [⟨10000, 1, 25⟩].getD j ⟨0, 0, 0⟩⟩
def nmNone : Pers := ⟨0, 0, 0, fun _ => ⟨0, 0, 0, 0⟩, 0, fun _ => ⟨0, 0, 0⟩⟩
theorem nm_faults : nmMany.fault = 3 ∧ nmBase.fault = 1 ∧ nmBack.fault = 1 ∧ nmNone.fault = 1 := by decide +kernel
end Go.Proofs.Ytagfcfojfjkmbaa
