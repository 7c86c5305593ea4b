/- Link: what LinkNames needs (2 of 3). -/
import Derived.Test.YtgbdbikjckfgmaaGreatND
import Derived.Test.YtgbdbikjckfgmaaGreatSA
import Derived.Carry
import Derived.Lib.SmallJoins
import Derived.Maps.Keyed
import Derived.Maps.Views
import Derived.OpenShut
import Derived.ProofKit
import Derived.WalkSpells
namespace Go.Proofs.YtgbdbikjckfgmaaGreat
open Go.RowKit Go.Shelf
section
variable (z : FV) (w : World)
theorem nmMost (h : FlQ QP w z nF) : Calls Tryz.prog 42 #[.agg #[.slice z.oa 3 z.oc, .slice z.na 3 z.nc, .slice z.ma 2 z.mc]] w fun e w' => e = .returned (.tuple #[.int .i64 3, .int .i64 0]) ∧ Below w.heap.size w w' := by
  have h1 := mostF_ok z nF w h nm_fault
  rw [nm_most] at h1; exact h1
theorem nmMost1 (h : FlQ QP w z (townsF 500 1 bF bT)) : Calls Tryz.prog 42 #[.agg #[.slice z.oa 3 z.oc, .slice z.na 3 z.nc, .slice z.ma 1 z.mc]] w fun e w' => e = .returned (.tuple #[.int .i64 2, .int .i64 0]) ∧ Below w.heap.size w w' := by
  have h1 := mostF_ok z _ w h ex_fault1
  rw [nm_most1] at h1; exact h1
theorem nmMatch (h : FlQ QP w z nF) : Calls Tryz.prog 43 #[.agg #[.slice z.oa 3 z.oc, .slice z.na 3 z.nc, .slice z.ma 2 z.mc]] w fun e w' => ∃ a c, e = .returned (.tuple #[.slice a 3 c, .int .i64 0]) ∧ IntsIn w' (.slice a 3 c) 3 (zL [0, 1, 2]) ∧ Below w.heap.size w w' :=
  (matchF_ok z nF w h nm_fault).mono fun _ _ ⟨a, c, e, hz, hb⟩ => ⟨a, c, e, IntsIn.congr (n := 3) hz nm_lst, hb⟩
theorem nmOnly (h : FlQ QP w z nF) : Calls Tryz.prog 38 #[.agg #[.slice z.oa 3 z.oc, .slice z.na 3 z.nc, .slice z.ma 2 z.mc]] w fun e w' => ∃ a c, e = .returned (.tuple #[.slice a 3 c, .int .i64 0]) ∧ IntsIn w' (.slice a 3 c) 3 (zL [0, 1, 2]) ∧ Below w.heap.size w w' :=
  (onlyF_ok z nF w h nm_fault).mono fun _ _ hp => by
    rcases hp with ⟨_, a, c, e, hz, hb⟩ | ⟨e, _⟩
    · exact ⟨a, c, e, IntsIn.congr (n := 3) hz nm_lst, hb⟩
    · rw [nm_only] at e; cases e
theorem nmPoss (h : FlQ QP w z nF) : Calls Tryz.prog 35 #[.agg #[.slice z.oa 3 z.oc, .slice z.na 3 z.nc, .slice z.ma 2 z.mc]] w fun e w' => ∃ a c, e = .returned (.tuple #[.slice a 3 c, .int .i64 0]) ∧ Below w.heap.size w w' :=
  (possF_ok z nF w h nm_fault).mono fun _ _ ⟨a, c, e, _, hb⟩ => ⟨a, c, by rw [e]; exact congrArg (fun n => Ending.returned (.tuple #[.slice a n c, .int .i64 0])) nm_poss, hb⟩
theorem nmPM1 (a : Option Addr) (c : Nat) (h : FlQ QP w z nF) (hl : IntsIn w (.slice a 3 c) 3 (zL [2, 1, -1])) : Calls Tryz.prog 48 #[.agg #[.slice z.oa 3 z.oc, .slice z.na 3 z.nc, .slice z.ma 2 z.mc], .slice a 3 c, .int .i64 2] w fun e w' => e = .returned (.bool true) ∧ Below w.heap.size w w' := by
  have h1 := provM_ok z nF a 3 c _ 2 w h nm_fault hl (show ∀ j, j < 3 → (Lit.int .i64 (zL [2, 1, -1] j)).wf = true by decide) (by decide)
  rw [nm_m1.1, nm_m1.2] at h1; exact h1
theorem nmPM2 (a : Option Addr) (c : Nat) (h : FlQ QP w z nF) (hl : IntsIn w (.slice a 3 c) 3 (zL [2, 1, 2])) : Calls Tryz.prog 48 #[.agg #[.slice z.oa 3 z.oc, .slice z.na 3 z.nc, .slice z.ma 2 z.mc], .slice a 3 c, .int .i64 2] w fun e w' => e = .returned (.bool false) ∧ Below w.heap.size w w' := by
  have h1 := provM_ok z nF a 3 c _ 2 w h nm_fault hl (show ∀ j, j < 3 → (Lit.int .i64 (zL [2, 1, 2] j)).wf = true by decide) (by decide)
  rw [nm_m2] at h1; exact h1
theorem nmPM3 (a : Option Addr) (c : Nat) (h : FlQ QP w z nF) (hl : IntsIn w (.slice a 3 c) 3 (zL [2, 1, -1])) : Calls Tryz.prog 48 #[.agg #[.slice z.oa 3 z.oc, .slice z.na 3 z.nc, .slice z.ma 2 z.mc], .slice a 3 c, .int .i64 3] w fun e w' => e = .returned (.bool false) ∧ Below w.heap.size w w' := by
  have h1 := provM_ok z nF a 3 c _ 3 w h nm_fault hl (show ∀ j, j < 3 → (Lit.int .i64 (zL [2, 1, -1] j)).wf = true by decide) (by decide)
  rw [nm_m1.1, nm_m1.2] at h1; exact h1
theorem nmPM4 (a : Option Addr) (c : Nat) (h : FlQ QP w z nF) (hl : IntsIn w (.slice a 2 c) 2 (zL [2, 1])) : Calls Tryz.prog 48 #[.agg #[.slice z.oa 3 z.oc, .slice z.na 3 z.nc, .slice z.ma 2 z.mc], .slice a 2 c, .int .i64 2] w fun e w' => e = .returned (.bool false) ∧ Below w.heap.size w w' := by
  have h1 := provM_ok z nF a 2 c _ 2 w h nm_fault hl (show ∀ j, j < 2 → (Lit.int .i64 (zL [2, 1] j)).wf = true by decide) (by decide)
  rw [nm_m3] at h1; exact h1
theorem nmPC1 (a b : Option Addr) (c d : Nat) (h : FlQ QP w z nF) (ha : IntsIn w (.slice a 2 c) 2 (zL [0, 1])) (hb : IntsIn w (.slice b 1 d) 1 (zL [2])) : Calls Tryz.prog 52 #[.agg #[.slice z.oa 3 z.oc, .slice z.na 3 z.nc, .slice z.ma 2 z.mc], .slice a 2 c, .slice b 1 d, .int .i64 3] w fun e w' => e = .returned (.bool true) ∧ Below w.heap.size w w' := by
  have h1 := provC_ok z nF a b 2 1 c d _ _ 3 w h nm_fault ha hb (by decide) (by decide)
  rw [nm_c1] at h1; exact h1
theorem nmPC2 (a : Option Addr) (c : Nat) (h : FlQ QP w z nF) (ha : IntsIn w (.slice a 2 c) 2 (zL [0, 1])) : Calls Tryz.prog 52 #[.agg #[.slice z.oa 3 z.oc, .slice z.na 3 z.nc, .slice z.ma 2 z.mc], .slice a 2 c, .slice none 0 0, .int .i64 3] w fun e w' => e = .returned (.bool false) ∧ Below w.heap.size w w' := by
  have h1 := provC_ok z nF a none 2 0 c 0 _ (zL []) 3 w h nm_fault ha (IntsIn.nil _ _ _ _) (by decide) (by decide)
  rw [nm_c2] at h1; exact h1
theorem nmPC3 (a b : Option Addr) (c d : Nat) (h : FlQ QP w z nF) (ha : IntsIn w (.slice a 2 c) 2 (zL [0, 1])) (hb : IntsIn w (.slice b 1 d) 1 (zL [2])) : Calls Tryz.prog 52 #[.agg #[.slice z.oa 3 z.oc, .slice z.na 3 z.nc, .slice z.ma 2 z.mc], .slice a 2 c, .slice b 1 d, .int .i64 2] w fun e w' => e = .returned (.bool false) ∧ Below w.heap.size w w' := by
  have h1 := provC_ok z nF a b 2 1 c d _ _ 2 w h nm_fault ha hb (by decide) (by decide)
  rw [nm_c1] at h1; exact h1
theorem nmCost1 (h : FlQ QP w z nF) : Calls Tryz.prog 31 #[.agg #[.slice z.oa 3 z.oc, .slice z.na 3 z.nc, .slice z.ma 2 z.mc], .int .i64 0, .int .i64 1] w fun e w' => e = .returned (.tuple #[.int .i64 0, .int .i64 7]) ∧ Below w.heap.size w w' := by
  have h1 := costF_ok 0 1 z nF w h nm_fault
  rw [nm_cost1] at h1; exact h1
theorem nmCost2 (h : FlQ QP w z nF) : Calls Tryz.prog 31 #[.agg #[.slice z.oa 3 z.oc, .slice z.na 3 z.nc, .slice z.ma 2 z.mc], .int .i64 3, .int .i64 1] w fun e w' => e = .returned (.tuple #[.int .i64 0, .int .i64 2]) ∧ Below w.heap.size w w' := by
  have h1 := costF_ok 3 1 z nF w h nm_fault
  rw [nm_cost2] at h1; exact h1
end
set_option maxHeartbeats 2000000 in
theorem nmMany (oa na ma : Option Addr) (oc nc mc : Nat) (w : World) : Calls Tryz.prog 20 #[.agg #[.slice oa 3 oc, .slice na 9 nc, .slice ma 0 mc]] w fun e w' => e = .returned (.int .i64 3) ∧ Below w.heap.size w w' := by
  have HA := Lib.hid ((BF.base w).alloc #[.slice oa 3 oc, .slice na 9 nc, .slice ma 0 mc] 33)
  go_enter Tryz.func20, Tryz.ntmps20
  go_wp2_with fail
  go_ret
  exact ⟨rfl, HA.out.fr⟩
set_option maxHeartbeats 2000000 in
theorem nmWide (oa na ma : Option Addr) (oc nc mc : Nat) (w : World) : Calls Tryz.prog 20 #[.agg #[.slice oa 3 oc, .slice na 3 nc, .slice ma 17 mc]] w fun e w' => e = .returned (.int .i64 3) ∧ Below w.heap.size w w' := by
  have HA := Lib.hid ((BF.base w).alloc #[.slice oa 3 oc, .slice na 3 nc, .slice ma 17 mc] 33)
  go_enter Tryz.func20, Tryz.ntmps20
  go_wp2_with fail
  go_ret
  exact ⟨rfl, HA.out.fr⟩
def f0F : Fl := ⟨0, tN, 0, tN, 0, bF, bT⟩
theorem nmPairs0 (w : World) : Calls Tryz.prog 22 #[.agg #[.slice none 0 0, .slice none 0 0, .slice none 0 0]] w fun e w' => ∃ a c, e = .returned (.tuple #[.slice a 0 c, .int .i64 0]) ∧ Below w.heap.size w w' :=
  (pairs_ok ⟨none, 0, none, 0, none, 0⟩ f0F w ⟨EsQ.nil _ _ _ _ _, EsQ.nil _ _ _ _ _, .inl ⟨_, _, rfl, rfl⟩⟩ (by decide +kernel)).mono fun _ _ ⟨a, c, e, _, hb⟩ => ⟨a, c, e, hb⟩
def longE : En := enT 0 1 0 1000 5 fun _ => 0
def badE : En := ⟨⟨1000, 1500, 5, fun _ => ⟨0, 0, 0, 0⟩, 0, fun _ => ⟨0, 0, 0⟩⟩, 2, 1, zL [7], 3⟩
def sexE : En := enT 3 1 0 1000 1 (zL [5])
def keyE : En := enT 0 1 400 900 2 (zL [5, 5])
def three (a b c : En) (j : Nat) : En := if j = 0 then a else if j = 1 then b else c
def o0 : En := enT 0 1 0 1000 1 (zL [5])
def o1 : En := enT 1 1 0 1000 2 (zL [7, 9])
def o2 : En := enT 0 2 500 2000 1 (zL [5])
def n0 : En := enT 0 1 400 900 1 (zL [5])
def n1 : En := enT 2 3 1000 1500 1 (zL [7])
def n2 : En := enT 0 2 100 600 2 (zL [5, 6])
def fileE (a b c d e f : En) : Fl := ⟨3, three a b c, 3, three d e f, 0, bF, bT⟩
theorem fault_long : (fileE longE o1 o2 n0 n1 n2).fault = 3 := by decide +kernel
theorem fault_bad : (fileE o0 o1 o2 n0 badE n2).fault = 3 := by decide +kernel
theorem fault_sex : (fileE sexE o1 o2 n0 n1 n2).fault = 1 := by decide +kernel
theorem fault_key : (fileE o0 o1 o2 keyE n1 n2).fault = 1 := by decide +kernel
/-- A file of three and three entries in memory, and its error. -/
theorem nmCheck {X : World} {B1 B2 : Nat} {e0 e1 e2 e3 e4 e5 : En} {V0 V1 V2 V3' V4 V5 : Value × Value × Value} {w : World} {L : List (Nat × Array Value × TypeId)} {T1 T2 : TypeId} {C1 C2 : Array Value} (h : BF w X L) (m1 : (B1, C1, T1) ∈ L) (m2 : (B2, C2, T2) ∈ L) (c1 : C1.toList = e7 e0 V0 ++ e7 e1 V1 ++ e7 e2 V2) (c2 : C2.toList = e7 e3 V3' ++ e7 e4 V4 ++ e7 e5 V5)
    (q0 : QP X V0.1 V0.2.1 V0.2.2 e0) (q1 : QP X V1.1 V1.2.1 V1.2.2 e1) (q2 : QP X V2.1 V2.2.1 V2.2.2 e2) (q3 : QP X V3'.1 V3'.2.1 V3'.2.2 e3) (q4 : QP X V4.1 V4.2.1 V4.2.2 e4) (q5 : QP X V5.1 V5.2.1 V5.2.2 e5) {n : Int} (hf : (fileE e0 e1 e2 e3 e4 e5).fault = n) :
    ∀ Y, Below X.heap.size X Y → Calls Tryz.prog 20 #[.agg #[.slice (some ⟨B1, 0, none⟩) 3 3, .slice (some ⟨B2, 0, none⟩) 3 3, .slice none 0 0]] Y fun e w' => e = .returned (.int .i64 n) ∧ Below Y.heap.size Y w' := fun Y hY => by
  have hq : FlQ QP X ⟨some ⟨B1, 0, none⟩, 3, some ⟨B2, 0, none⟩, 3, none, 0⟩ (fileE e0 e1 e2 e3 e4 e5) :=
    ⟨EsQ.three (h.lt m1).2 rfl rfl rfl (fun i u hu => (h.cell m1 i).trans (by rw [← Array.getElem?_toList, c1]; exact hu)) q0 q1 q2,
     EsQ.three (h.lt m2).2 rfl rfl rfl (fun i u hu => (h.cell m2 i).trans (by rw [← Array.getElem?_toList, c2]; exact hu)) q3 q4 q5, .inl ⟨_, _, rfl, rfl⟩⟩
  have h1 := checkFile_any ⟨some ⟨B1, 0, none⟩, 3, some ⟨B2, 0, none⟩, 3, none, 0⟩ (fileE e0 e1 e2 e3 e4 e5) Y (hq.below QP.k hY) (show (3 : Nat) ≤ 100000 by decide) (show (3 : Nat) ≤ 100000 by decide) (show (0 : Nat) ≤ 100000 by decide)
  rw [hf] at h1
  exact h1
theorem zeros5 {X : World} {b : Nat} (h : X.heap[b]? = some (.cells #[.int .i64 0, .int .i64 0, .int .i64 0, .int .i64 0, .int .i64 0] 3 (0, 0))) : IntsIn X (.slice (some ⟨b, 0, none⟩) 5 5) 5 fun _ => 0 :=
  .inr ⟨b, 0, 5, rfl, (Array.getElem?_eq_some_iff.1 h).1, fun j hj => by
    rcases (show j = 0 ∨ j = 1 ∨ j = 2 ∨ j = 3 ∨ j = 4 by omega) with rfl | rfl | rfl | rfl | rfl
    · exact cell_of_row _ _ 0 _ _ _ h
    · exact cell_of_row _ _ 1 _ _ _ h
    · exact cell_of_row _ _ 2 _ _ _ h
    · exact cell_of_row _ _ 3 _ _ _ h
    · exact cell_of_row _ _ 4 _ _ _ h⟩
def z20 : Array Value := #[.int .i64 0, .int .i64 0, .int .i64 0, .int .i64 0, .int .i64 0, .int .i64 0, .int .i64 0, .int .i64 0, .int .i64 0, .int .i64 0, .int .i64 0, .int .i64 0, .int .i64 0, .int .i64 0, .int .i64 0, .int .i64 0, .int .i64 0, .int .i64 0, .int .i64 0, .int .i64 0]
theorem rules5 {X : World} {b : Nat} (h : X.heap[b]? = some (.cells z20 156 (0, 0))) : RlsAt X (.slice (some ⟨b, 0, none⟩) 5 5) 5 fun _ => ⟨0, 0, 0, 0⟩ :=
  .inr ⟨b, 0, 5, rfl, (Array.getElem?_eq_some_iff.1 h).1, fun j hj => by
    rcases (show j = 0 ∨ j = 1 ∨ j = 2 ∨ j = 3 ∨ j = 4 by omega) with rfl | rfl | rfl | rfl | rfl
    · exact ⟨cell_of_row _ _ 0 _ _ _ h, cell_of_row _ _ 1 _ _ _ h, cell_of_row _ _ 2 _ _ _ h, cell_of_row _ _ 3 _ _ _ h⟩
    · exact ⟨cell_of_row _ _ 4 _ _ _ h, cell_of_row _ _ 5 _ _ _ h, cell_of_row _ _ 6 _ _ _ h, cell_of_row _ _ 7 _ _ _ h⟩
    · exact ⟨cell_of_row _ _ 8 _ _ _ h, cell_of_row _ _ 9 _ _ _ h, cell_of_row _ _ 10 _ _ _ h, cell_of_row _ _ 11 _ _ _ h⟩
    · exact ⟨cell_of_row _ _ 12 _ _ _ h, cell_of_row _ _ 13 _ _ _ h, cell_of_row _ _ 14 _ _ _ h, cell_of_row _ _ 15 _ _ _ h⟩
    · exact ⟨cell_of_row _ _ 16 _ _ _ h, cell_of_row _ _ 17 _ _ _ h, cell_of_row _ _ 18 _ _ _ h, cell_of_row _ _ 19 _ _ _ h⟩⟩
theorem ints_row {X : World} {b n : Nat} {cs : Array Value} {l : List Int} (h : X.heap[b]? = some (.cells cs 3 (0, 0))) (hc : cs = (l.map fun x => Value.int .i64 x).toArray) (hn : l.length = n) : IntsIn X (.slice (some ⟨b, 0, none⟩) n n) n (zL l) := by
  subst hc hn
  refine .inr ⟨b, 0, l.length, rfl, (Array.getElem?_eq_some_iff.1 h).1, fun j hj => ?_⟩
  rw [Nat.zero_add]
  refine (cell_of_row _ _ j _ _ _ h).trans ?_
  simp [zL, hj]
def zE9 : Array Value := madeCells (Value.agg #[.int .i64 0, .int .i64 0, .slice none 0 0, .slice none 0 0, .int .i64 0, .slice none 0 0, .int .i64 0]).cells ((9 : Int).toNat * 7)
def zM17 : Array Value := madeCells (Value.agg #[.int .i64 0, .int .i64 0]).cells ((17 : Int).toNat * 2)
theorem mkE (X : World) : (Instr.makeSlice 30 (.int .i64 9) (.int .i64 9)).run Tryz.prog X = .ok (.slice (some ⟨X.heap.size, 0, none⟩) 9 9) (X.alloc (.cells zE9 100)) := by
  obtain ⟨i, hi, hz, h1, h2⟩ := info_parts Tryz.infoEntry
  have := run_makeSlice (P := Tryz.prog) X 30 100 i _ Tryz.underlying30 hi hz .i64 .i64 9 9 (by omega) (Int.le_refl _) (by rw [h1]; decide) (by rw [h2]; decide) (by decide)
  rw [h1] at this; exact this
theorem mkM (X : World) : (Instr.makeSlice 31 (.int .i64 17) (.int .i64 17)).run Tryz.prog X = .ok (.slice (some ⟨X.heap.size, 0, none⟩) 17 17) (X.alloc (.cells zM17 110)) := by
  obtain ⟨i, hi, hz, h1, h2⟩ := info_parts Tryz.infoMove5
  have := run_makeSlice (P := Tryz.prog) X 31 110 i _ Tryz.underlying31 hi hz .i64 .i64 17 17 (by omega) (Int.le_refl _) (by rw [h1]; decide) (by rw [h2]; decide) (by decide)
  rw [h1] at this; exact this
theorem mkI (X : World) : (Instr.makeSlice 47 (.int .i64 5) (.int .i64 5)).run Tryz.prog X = .ok (.slice (some ⟨X.heap.size, 0, none⟩) 5 5) (X.alloc (.cells #[.int .i64 0, .int .i64 0, .int .i64 0, .int .i64 0, .int .i64 0] 3)) := make_ints 5 (by decide) X
theorem mkR (X : World) : (Instr.makeSlice 95 (.int .i64 5) (.int .i64 5)).run Tryz.prog X = .ok (.slice (some ⟨X.heap.size, 0, none⟩) 5 5) (X.alloc (.cells z20 156)) := by
  obtain ⟨i, hi, hz, h1, h2⟩ := info_parts Tryz.infoRule
  have := run_makeSlice (P := Tryz.prog) X 95 156 i _ Tryz.underlying95 hi hz .i64 .i64 5 5 (by omega) (Int.le_refl _) (by rw [h1]; decide) (by rw [h2]; decide) (by decide)
  rw [h1] at this
  have e : madeCells (Value.agg #[.int .i64 0, .int .i64 0, .int .i64 0, .int .i64 0]).cells ((5 : Int).toNat * 4) = z20 := by kernel_rfl
  rw [e] at this; exact this
end Go.Proofs.YtgbdbikjckfgmaaGreat
namespace Go.Proofs.YtgbdbikjckfgmaaGreat
open Go.RowKit Go.Shelf
set_option maxRecDepth 100000 in
set_option maxHeartbeats 64000000 in
theorem linkNames_walk (w : World) : Calls Tryz.prog 15 #[] w fun e w' => e = .returned (.bool true) ∧ Below w.heap.size w w' := by
  have HB : Hid (Below w.heap.size w w) := Below.refl _ _
  go_enter Tryz.func15, Tryz.ntmps15
  go_wp2_with fail
  refine (both_any _).mono ?_
  rintro _ y1 ⟨b, rfl, hr, hb⟩
  have HB' := Lib.hid (HB.out.trans (hb.mono HB.out.size))
  clear HB
  have HB := HB'
  clear HB'
  clear hb
  have HR := Lib.hid hr
  clear hr
  go_wp2_with fail
  refine (towns_any 500 (some ⟨b, 0, none⟩) 2 2 bF bT _ HR.out).mono ?_
  rintro _ y2 ⟨z, rfl, hq, hb⟩
  have HB' := Lib.hid (HB.out.trans (hb.mono HB.out.size))
  clear HB
  have HB := HB'
  clear HB'
  have HQ := Lib.hid hq
  clear hq
  clear hb
  clear HR
  go_wp2_with fail
  refine (nmMost z _ HQ.out).mono ?_
  rintro _ y3 ⟨rfl, hb⟩
  have HB' := Lib.hid (HB.out.trans (hb.mono HB.out.size))
  clear HB
  have HB := HB'
  clear HB'
  have HQ' := Lib.hid (HQ.out.below QP.k hb)
  clear HQ
  have HQ := HQ'
  clear HQ'
  clear hb
  clear HQ
  go_wp2_with fail
  refine (both_any _).mono ?_
  rintro _ y4 ⟨b, rfl, hr, hb⟩
  have HB' := Lib.hid (HB.out.trans (hb.mono HB.out.size))
  clear HB
  have HB := HB'
  clear HB'
  clear hb
  have HR := Lib.hid hr
  clear hr
  go_wp2_with fail
  refine (towns_any 500 (some ⟨b, 0, none⟩) 2 2 bF bT _ HR.out).mono ?_
  rintro _ y5 ⟨z, rfl, hq, hb⟩
  have HB' := Lib.hid (HB.out.trans (hb.mono HB.out.size))
  clear HB
  have HB := HB'
  clear HB'
  have HQ := Lib.hid hq
  clear hq
  clear hb
  clear HR
  go_wp2_with fail
  refine (nmMatch z _ HQ.out).mono ?_
  rintro _ y6 ⟨la, lc, rfl, hl, hb⟩
  have HB' := Lib.hid (HB.out.trans (hb.mono HB.out.size))
  clear HB
  have HB := HB'
  clear HB'
  have HQ' := Lib.hid (HQ.out.below QP.k hb)
  clear HQ
  have HQ := HQ'
  clear HQ'
  have HM := Lib.hid hl
  clear hl
  clear hb
  clear HQ
  go_wp2_with fail
  refine (both_any _).mono ?_
  rintro _ y7 ⟨b, rfl, hr, hb⟩
  have HB' := Lib.hid (HB.out.trans (hb.mono HB.out.size))
  clear HB
  have HB := HB'
  clear HB'
  have HM' := Lib.hid (HM.out.below hb)
  clear HM
  have HM := HM'
  clear HM'
  clear hb
  have HR := Lib.hid hr
  clear hr
  go_wp2_with fail
  refine (towns_any 500 (some ⟨b, 0, none⟩) 2 2 bF bT _ HR.out).mono ?_
  rintro _ y8 ⟨z, rfl, hq, hb⟩
  have HB' := Lib.hid (HB.out.trans (hb.mono HB.out.size))
  clear HB
  have HB := HB'
  clear HB'
  have HM' := Lib.hid (HM.out.below hb)
  clear HM
  have HM := HM'
  clear HM'
  have HQ := Lib.hid hq
  clear hq
  clear hb
  clear HR
  go_wp2_with fail
  refine (nmPoss z _ HQ.out).mono ?_
  rintro _ y9 ⟨pa, pc, rfl, hb⟩
  have HB' := Lib.hid (HB.out.trans (hb.mono HB.out.size))
  clear HB
  have HB := HB'
  clear HB'
  have HM' := Lib.hid (HM.out.below hb)
  clear HM
  have HM := HM'
  clear HM'
  have HQ' := Lib.hid (HQ.out.below QP.k hb)
  clear HQ
  have HQ := HQ'
  clear HQ'
  clear hb
  clear HQ
  go_wp2_with fail
  refine (both_any _).mono ?_
  rintro _ y10 ⟨b, rfl, hr, hb⟩
  have HB' := Lib.hid (HB.out.trans (hb.mono HB.out.size))
  clear HB
  have HB := HB'
  clear HB'
  have HM' := Lib.hid (HM.out.below hb)
  clear HM
  have HM := HM'
  clear HM'
  clear hb
  have HR := Lib.hid hr.one
  clear hr
  go_wp2_with fail
  refine (towns_any 500 (some ⟨b, 0, none⟩) 1 2 bF bT _ HR.out).mono ?_
  rintro _ y11 ⟨z, rfl, hq, hb⟩
  have HB' := Lib.hid (HB.out.trans (hb.mono HB.out.size))
  clear HB
  have HB := HB'
  clear HB'
  have HM' := Lib.hid (HM.out.below hb)
  clear HM
  have HM := HM'
  clear HM'
  have HQ := Lib.hid hq
  clear hq
  clear hb
  clear HR
  go_wp2_with fail
  refine (nmMost1 z _ HQ.out).mono ?_
  rintro _ y12 ⟨rfl, hb⟩
  have HB' := Lib.hid (HB.out.trans (hb.mono HB.out.size))
  clear HB
  have HB := HB'
  clear HB'
  have HM' := Lib.hid (HM.out.below hb)
  clear HM
  have HM := HM'
  clear HM'
  have HQ' := Lib.hid (HQ.out.below QP.k hb)
  clear HQ
  have HQ := HQ'
  clear HQ'
  clear hb
  clear HQ
  go_wp2_with fail
  refine (both_any _).mono ?_
  rintro _ y13 ⟨b, rfl, hr, hb⟩
  have HB' := Lib.hid (HB.out.trans (hb.mono HB.out.size))
  clear HB
  have HB := HB'
  clear HB'
  have HM' := Lib.hid (HM.out.below hb)
  clear HM
  have HM := HM'
  clear HM'
  clear hb
  have HR := Lib.hid hr
  clear hr
  go_wp2_with fail
  refine (towns_any 500 (some ⟨b, 0, none⟩) 2 2 bF bT _ HR.out).mono ?_
  rintro _ y14 ⟨z, rfl, hq, hb⟩
  have HB' := Lib.hid (HB.out.trans (hb.mono HB.out.size))
  clear HB
  have HB := HB'
  clear HB'
  have HM' := Lib.hid (HM.out.below hb)
  clear HM
  have HM := HM'
  clear HM'
  have HQ := Lib.hid hq
  clear hq
  clear hb
  clear HR
  go_wp2_with fail
  refine (nmOnly z _ HQ.out).mono ?_
  rintro _ y15 ⟨oa, oc, rfl, hl, hb⟩
  have HB' := Lib.hid (HB.out.trans (hb.mono HB.out.size))
  clear HB
  have HB := HB'
  clear HB'
  have HM' := Lib.hid (HM.out.below hb)
  clear HM
  have HM := HM'
  clear HM'
  have HQ' := Lib.hid (HQ.out.below QP.k hb)
  clear HQ
  have HQ := HQ'
  clear HQ'
  have HO := Lib.hid hl
  clear hl
  clear hb
  clear HQ
  go_upto_region 6 with fail
  go_cut [137] from 1 to 232 (fun s137 wx => s137 = .bool false ∧ Below w.heap.size w wx)
  case first =>
    have HL := Lib.hid (ints_row (l := [0, 1, 2]) (n := 3) (heap_alloc_new y15 (.cells #[.int .i64 0, .int .i64 1, .int .i64 2] 3)) rfl rfl)
    have hb := below_alloc y15 (.cells #[.int .i64 0, .int .i64 1, .int .i64 2] 3)
    have hszHL : (y15.alloc (.cells #[.int .i64 0, .int .i64 1, .int .i64 2] 3)).heap.size = y15.heap.size + 1 := World.size_alloc _ _
    have HB' := Lib.hid (HB.out.trans (hb.mono HB.out.size))
    clear HB
    have HB := HB'
    clear HB'
    have HM' := Lib.hid (HM.out.below hb)
    clear HM
    have HM := HM'
    clear HM'
    have HO' := Lib.hid (HO.out.below hb)
    clear HO
    have HO := HO'
    clear HO'
    clear hb
    go_wp2_with fail
    refine (ints_lit (zL [0, 1, 2]) 3 _ _ _ _ _ (by decide) HM.out HL.out).mono ?_
    rintro _ y16 ⟨rfl, hb⟩
    have HB' := Lib.hid (HB.out.trans (hb.mono HB.out.size))
    clear HB
    have HB := HB'
    clear HB'
    have HM' := Lib.hid (HM.out.below hb)
    clear HM
    have HM := HM'
    clear HM'
    have HO' := Lib.hid (HO.out.below hb)
    clear HO
    have HO := HO'
    clear HO'
    have HL' := Lib.hid (HL.out.below hb)
    clear HL
    have HL := HL'
    clear HL'
    clear hb
    clear HL
    clear HM
    clear hszHL
    have HL := Lib.hid (ints_row (l := [0, 1, 2]) (n := 3) (heap_alloc_new y16 (.cells #[.int .i64 0, .int .i64 1, .int .i64 2] 3)) rfl rfl)
    have hb := below_alloc y16 (.cells #[.int .i64 0, .int .i64 1, .int .i64 2] 3)
    have hszHL : (y16.alloc (.cells #[.int .i64 0, .int .i64 1, .int .i64 2] 3)).heap.size = y16.heap.size + 1 := World.size_alloc _ _
    have HB' := Lib.hid (HB.out.trans (hb.mono HB.out.size))
    clear HB
    have HB := HB'
    clear HB'
    have HO' := Lib.hid (HO.out.below hb)
    clear HO
    have HO := HO'
    clear HO'
    clear hb
    go_wp2_with fail
    refine (ints_lit (zL [0, 1, 2]) 3 _ _ _ _ _ (by decide) HO.out HL.out).mono ?_
    rintro _ y17 ⟨rfl, hb⟩
    have HB' := Lib.hid (HB.out.trans (hb.mono HB.out.size))
    clear HB
    have HB := HB'
    clear HB'
    have HO' := Lib.hid (HO.out.below hb)
    clear HO
    have HO := HO'
    clear HO'
    have HL' := Lib.hid (HL.out.below hb)
    clear HL
    have HL := HL'
    clear HL'
    clear hb
    clear HL
    clear HO
    clear hszHL
    go_wp2_with fail
    refine (both_any _).mono ?_
    rintro _ y18 ⟨b, rfl, hr, hb⟩
    have HB' := Lib.hid (HB.out.trans (hb.mono HB.out.size))
    clear HB
    have HB := HB'
    clear HB'
    clear hb
    have HR := Lib.hid hr
    clear hr
    go_wp2_with fail
    refine (towns_any 500 (some ⟨b, 0, none⟩) 2 2 bF bT _ HR.out).mono ?_
    rintro _ y19 ⟨z, rfl, hq, hb⟩
    have HB' := Lib.hid (HB.out.trans (hb.mono HB.out.size))
    clear HB
    have HB := HB'
    clear HB'
    have HQ := Lib.hid hq
    clear hq
    clear hb
    clear HR
    have HL := Lib.hid (ints_row (l := [2, 1, -1]) (n := 3) (heap_alloc_new y19 (.cells #[.int .i64 2, .int .i64 1, .int .i64 (-1)] 3)) rfl rfl)
    have hb := below_alloc y19 (.cells #[.int .i64 2, .int .i64 1, .int .i64 (-1)] 3)
    have hszHL : (y19.alloc (.cells #[.int .i64 2, .int .i64 1, .int .i64 (-1)] 3)).heap.size = y19.heap.size + 1 := World.size_alloc _ _
    have HB' := Lib.hid (HB.out.trans (hb.mono HB.out.size))
    clear HB
    have HB := HB'
    clear HB'
    have HQ' := Lib.hid (HQ.out.below QP.k hb)
    clear HQ
    have HQ := HQ'
    clear HQ'
    clear hb
    go_wp2_with fail
    refine (nmPM1 z _ _ _ HQ.out HL.out).mono ?_
    rintro _ y20 ⟨rfl, hb⟩
    have HB' := Lib.hid (HB.out.trans (hb.mono HB.out.size))
    clear HB
    have HB := HB'
    clear HB'
    have HQ' := Lib.hid (HQ.out.below QP.k hb)
    clear HQ
    have HQ := HQ'
    clear HQ'
    have HL' := Lib.hid (HL.out.below hb)
    clear HL
    have HL := HL'
    clear HL'
    clear hb
    clear HL
    clear HQ
    clear hszHL
    go_wp2_with fail
    refine (both_any _).mono ?_
    rintro _ y21 ⟨b, rfl, hr, hb⟩
    have HB' := Lib.hid (HB.out.trans (hb.mono HB.out.size))
    clear HB
    have HB := HB'
    clear HB'
    clear hb
    have HR := Lib.hid hr
    clear hr
    go_wp2_with fail
    refine (towns_any 500 (some ⟨b, 0, none⟩) 2 2 bF bT _ HR.out).mono ?_
    rintro _ y22 ⟨z, rfl, hq, hb⟩
    have HB' := Lib.hid (HB.out.trans (hb.mono HB.out.size))
    clear HB
    have HB := HB'
    clear HB'
    have HQ := Lib.hid hq
    clear hq
    clear hb
    clear HR
    have HL := Lib.hid (ints_row (l := [2, 1, 2]) (n := 3) (heap_alloc_new y22 (.cells #[.int .i64 2, .int .i64 1, .int .i64 2] 3)) rfl rfl)
    have hb := below_alloc y22 (.cells #[.int .i64 2, .int .i64 1, .int .i64 2] 3)
    have hszHL : (y22.alloc (.cells #[.int .i64 2, .int .i64 1, .int .i64 2] 3)).heap.size = y22.heap.size + 1 := World.size_alloc _ _
    have HB' := Lib.hid (HB.out.trans (hb.mono HB.out.size))
    clear HB
    have HB := HB'
    clear HB'
    have HQ' := Lib.hid (HQ.out.below QP.k hb)
    clear HQ
    have HQ := HQ'
    clear HQ'
    clear hb
    go_wp2_with fail
    refine (nmPM2 z _ _ _ HQ.out HL.out).mono ?_
    rintro _ y23 ⟨rfl, hb⟩
    have HB' := Lib.hid (HB.out.trans (hb.mono HB.out.size))
    clear HB
    have HB := HB'
    clear HB'
    have HQ' := Lib.hid (HQ.out.below QP.k hb)
    clear HQ
    have HQ := HQ'
    clear HQ'
    have HL' := Lib.hid (HL.out.below hb)
    clear HL
    have HL := HL'
    clear HL'
    clear hb
    clear HL
    clear HQ
    clear hszHL
    go_wp2_with fail
    refine (both_any _).mono ?_
    rintro _ y24 ⟨b, rfl, hr, hb⟩
    have HB' := Lib.hid (HB.out.trans (hb.mono HB.out.size))
    clear HB
    have HB := HB'
    clear HB'
    clear hb
    have HR := Lib.hid hr
    clear hr
    go_wp2_with fail
    refine (towns_any 500 (some ⟨b, 0, none⟩) 2 2 bF bT _ HR.out).mono ?_
    rintro _ y25 ⟨z, rfl, hq, hb⟩
    have HB' := Lib.hid (HB.out.trans (hb.mono HB.out.size))
    clear HB
    have HB := HB'
    clear HB'
    have HQ := Lib.hid hq
    clear hq
    clear hb
    clear HR
    have HL := Lib.hid (ints_row (l := [2, 1, -1]) (n := 3) (heap_alloc_new y25 (.cells #[.int .i64 2, .int .i64 1, .int .i64 (-1)] 3)) rfl rfl)
    have hb := below_alloc y25 (.cells #[.int .i64 2, .int .i64 1, .int .i64 (-1)] 3)
    have hszHL : (y25.alloc (.cells #[.int .i64 2, .int .i64 1, .int .i64 (-1)] 3)).heap.size = y25.heap.size + 1 := World.size_alloc _ _
    have HB' := Lib.hid (HB.out.trans (hb.mono HB.out.size))
    clear HB
    have HB := HB'
    clear HB'
    have HQ' := Lib.hid (HQ.out.below QP.k hb)
    clear HQ
    have HQ := HQ'
    clear HQ'
    clear hb
    go_wp2_with fail
    refine (nmPM3 z _ _ _ HQ.out HL.out).mono ?_
    rintro _ y26 ⟨rfl, hb⟩
    have HB' := Lib.hid (HB.out.trans (hb.mono HB.out.size))
    clear HB
    have HB := HB'
    clear HB'
    have HQ' := Lib.hid (HQ.out.below QP.k hb)
    clear HQ
    have HQ := HQ'
    clear HQ'
    have HL' := Lib.hid (HL.out.below hb)
    clear HL
    have HL := HL'
    clear HL'
    clear hb
    clear HL
    clear HQ
    clear hszHL
    go_wp2_with fail
    refine (both_any _).mono ?_
    rintro _ y27 ⟨b, rfl, hr, hb⟩
    have HB' := Lib.hid (HB.out.trans (hb.mono HB.out.size))
    clear HB
    have HB := HB'
    clear HB'
    clear hb
    have HR := Lib.hid hr
    clear hr
    go_wp2_with fail
    refine (towns_any 500 (some ⟨b, 0, none⟩) 2 2 bF bT _ HR.out).mono ?_
    rintro _ y28 ⟨z, rfl, hq, hb⟩
    have HB' := Lib.hid (HB.out.trans (hb.mono HB.out.size))
    clear HB
    have HB := HB'
    clear HB'
    have HQ := Lib.hid hq
    clear hq
    clear hb
    clear HR
    have HL := Lib.hid (ints_row (l := [2, 1]) (n := 2) (heap_alloc_new y28 (.cells #[.int .i64 2, .int .i64 1] 3)) rfl rfl)
    have hb := below_alloc y28 (.cells #[.int .i64 2, .int .i64 1] 3)
    have hszHL : (y28.alloc (.cells #[.int .i64 2, .int .i64 1] 3)).heap.size = y28.heap.size + 1 := World.size_alloc _ _
    have HB' := Lib.hid (HB.out.trans (hb.mono HB.out.size))
    clear HB
    have HB := HB'
    clear HB'
    have HQ' := Lib.hid (HQ.out.below QP.k hb)
    clear HQ
    have HQ := HQ'
    clear HQ'
    clear hb
    go_wp2_with fail
    refine (nmPM4 z _ _ _ HQ.out HL.out).mono ?_
    rintro _ y29 ⟨rfl, hb⟩
    have HB' := Lib.hid (HB.out.trans (hb.mono HB.out.size))
    clear HB
    have HB := HB'
    clear HB'
    have HQ' := Lib.hid (HQ.out.below QP.k hb)
    clear HQ
    have HQ := HQ'
    clear HQ'
    have HL' := Lib.hid (HL.out.below hb)
    clear HL
    have HL := HL'
    clear HL'
    clear hb
    clear HL
    clear HQ
    clear hszHL
    go_wp2_with fail
    refine (both_any _).mono ?_
    rintro _ y30 ⟨b, rfl, hr, hb⟩
    have HB' := Lib.hid (HB.out.trans (hb.mono HB.out.size))
    clear HB
    have HB := HB'
    clear HB'
    clear hb
    have HR := Lib.hid hr
    clear hr
    go_wp2_with fail
    refine (towns_any 500 (some ⟨b, 0, none⟩) 2 2 bF bT _ HR.out).mono ?_
    rintro _ y31 ⟨z, rfl, hq, hb⟩
    have HB' := Lib.hid (HB.out.trans (hb.mono HB.out.size))
    clear HB
    have HB := HB'
    clear HB'
    have HQ := Lib.hid hq
    clear hq
    clear hb
    clear HR
    have HL := Lib.hid (ints_row (l := [0, 1]) (n := 2) (heap_alloc_new y31 (.cells #[.int .i64 0, .int .i64 1] 3)) rfl rfl)
    have hb := below_alloc y31 (.cells #[.int .i64 0, .int .i64 1] 3)
    have hszHL : (y31.alloc (.cells #[.int .i64 0, .int .i64 1] 3)).heap.size = y31.heap.size + 1 := World.size_alloc _ _
    have HB' := Lib.hid (HB.out.trans (hb.mono HB.out.size))
    clear HB
    have HB := HB'
    clear HB'
    have HQ' := Lib.hid (HQ.out.below QP.k hb)
    clear HQ
    have HQ := HQ'
    clear HQ'
    clear hb
    have HL2 := Lib.hid (ints_row (l := [2]) (n := 1) (heap_alloc_new (y31.alloc (.cells #[.int .i64 0, .int .i64 1] 3)) (.cells #[.int .i64 2] 3)) rfl rfl)
    have hb := below_alloc (y31.alloc (.cells #[.int .i64 0, .int .i64 1] 3)) (.cells #[.int .i64 2] 3)
    have hszHL2 : ((y31.alloc (.cells #[.int .i64 0, .int .i64 1] 3)).alloc (.cells #[.int .i64 2] 3)).heap.size = (y31.alloc (.cells #[.int .i64 0, .int .i64 1] 3)).heap.size + 1 := World.size_alloc _ _
    have HB' := Lib.hid (HB.out.trans (hb.mono HB.out.size))
    clear HB
    have HB := HB'
    clear HB'
    have HQ' := Lib.hid (HQ.out.below QP.k hb)
    clear HQ
    have HQ := HQ'
    clear HQ'
    have HL' := Lib.hid (HL.out.below hb)
    clear HL
    have HL := HL'
    clear HL'
    clear hb
    rw [World.size_alloc] at HL2
    go_wp2_with fail
    refine (nmPC1 z _ _ _ _ _ HQ.out HL.out HL2.out).mono ?_
    rintro _ y32 ⟨rfl, hb⟩
    have HB' := Lib.hid (HB.out.trans (hb.mono HB.out.size))
    clear HB
    have HB := HB'
    clear HB'
    have HQ' := Lib.hid (HQ.out.below QP.k hb)
    clear HQ
    have HQ := HQ'
    clear HQ'
    have HL' := Lib.hid (HL.out.below hb)
    clear HL
    have HL := HL'
    clear HL'
    have HL2' := Lib.hid (HL2.out.below hb)
    clear HL2
    have HL2 := HL2'
    clear HL2'
    clear hb
    clear HL
    clear HL2
    clear HQ
    clear hszHL hszHL2
    go_wp2_with fail
    refine (both_any _).mono ?_
    rintro _ y33 ⟨b, rfl, hr, hb⟩
    have HB' := Lib.hid (HB.out.trans (hb.mono HB.out.size))
    clear HB
    have HB := HB'
    clear HB'
    clear hb
    have HR := Lib.hid hr
    clear hr
    go_wp2_with fail
    refine (towns_any 500 (some ⟨b, 0, none⟩) 2 2 bF bT _ HR.out).mono ?_
    rintro _ y34 ⟨z, rfl, hq, hb⟩
    have HB' := Lib.hid (HB.out.trans (hb.mono HB.out.size))
    clear HB
    have HB := HB'
    clear HB'
    have HQ := Lib.hid hq
    clear hq
    clear hb
    clear HR
    have HL := Lib.hid (ints_row (l := [0, 1]) (n := 2) (heap_alloc_new y34 (.cells #[.int .i64 0, .int .i64 1] 3)) rfl rfl)
    have hb := below_alloc y34 (.cells #[.int .i64 0, .int .i64 1] 3)
    have hszHL : (y34.alloc (.cells #[.int .i64 0, .int .i64 1] 3)).heap.size = y34.heap.size + 1 := World.size_alloc _ _
    have HB' := Lib.hid (HB.out.trans (hb.mono HB.out.size))
    clear HB
    have HB := HB'
    clear HB'
    have HQ' := Lib.hid (HQ.out.below QP.k hb)
    clear HQ
    have HQ := HQ'
    clear HQ'
    clear hb
    go_wp2_with fail
    refine (nmPC2 z _ _ _ HQ.out HL.out).mono ?_
    rintro _ y35 ⟨rfl, hb⟩
    have HB' := Lib.hid (HB.out.trans (hb.mono HB.out.size))
    clear HB
    have HB := HB'
    clear HB'
    have HQ' := Lib.hid (HQ.out.below QP.k hb)
    clear HQ
    have HQ := HQ'
    clear HQ'
    have HL' := Lib.hid (HL.out.below hb)
    clear HL
    have HL := HL'
    clear HL'
    clear hb
    clear HL
    clear HQ
    clear hszHL
    go_wp2_with fail
    refine (both_any _).mono ?_
    rintro _ y36 ⟨b, rfl, hr, hb⟩
    have HB' := Lib.hid (HB.out.trans (hb.mono HB.out.size))
    clear HB
    have HB := HB'
    clear HB'
    clear hb
    have HR := Lib.hid hr
    clear hr
    go_wp2_with fail
    refine (towns_any 500 (some ⟨b, 0, none⟩) 2 2 bF bT _ HR.out).mono ?_
    rintro _ y37 ⟨z, rfl, hq, hb⟩
    have HB' := Lib.hid (HB.out.trans (hb.mono HB.out.size))
    clear HB
    have HB := HB'
    clear HB'
    have HQ := Lib.hid hq
    clear hq
    clear hb
    clear HR
    have HL := Lib.hid (ints_row (l := [0, 1]) (n := 2) (heap_alloc_new y37 (.cells #[.int .i64 0, .int .i64 1] 3)) rfl rfl)
    have hb := below_alloc y37 (.cells #[.int .i64 0, .int .i64 1] 3)
    have hszHL : (y37.alloc (.cells #[.int .i64 0, .int .i64 1] 3)).heap.size = y37.heap.size + 1 := World.size_alloc _ _
    have HB' := Lib.hid (HB.out.trans (hb.mono HB.out.size))
    clear HB
    have HB := HB'
    clear HB'
    have HQ' := Lib.hid (HQ.out.below QP.k hb)
    clear HQ
    have HQ := HQ'
    clear HQ'
    clear hb
    have HL2 := Lib.hid (ints_row (l := [2]) (n := 1) (heap_alloc_new (y37.alloc (.cells #[.int .i64 0, .int .i64 1] 3)) (.cells #[.int .i64 2] 3)) rfl rfl)
    have hb := below_alloc (y37.alloc (.cells #[.int .i64 0, .int .i64 1] 3)) (.cells #[.int .i64 2] 3)
    have hszHL2 : ((y37.alloc (.cells #[.int .i64 0, .int .i64 1] 3)).alloc (.cells #[.int .i64 2] 3)).heap.size = (y37.alloc (.cells #[.int .i64 0, .int .i64 1] 3)).heap.size + 1 := World.size_alloc _ _
    have HB' := Lib.hid (HB.out.trans (hb.mono HB.out.size))
    clear HB
    have HB := HB'
    clear HB'
    have HQ' := Lib.hid (HQ.out.below QP.k hb)
    clear HQ
    have HQ := HQ'
    clear HQ'
    have HL' := Lib.hid (HL.out.below hb)
    clear HL
    have HL := HL'
    clear HL'
    clear hb
    rw [World.size_alloc] at HL2
    go_wp2_with fail
    refine (nmPC3 z _ _ _ _ _ HQ.out HL.out HL2.out).mono ?_
    rintro _ y38 ⟨rfl, hb⟩
    have HB' := Lib.hid (HB.out.trans (hb.mono HB.out.size))
    clear HB
    have HB := HB'
    clear HB'
    have HQ' := Lib.hid (HQ.out.below QP.k hb)
    clear HQ
    have HQ := HQ'
    clear HQ'
    have HL' := Lib.hid (HL.out.below hb)
    clear HL
    have HL := HL'
    clear HL'
    have HL2' := Lib.hid (HL2.out.below hb)
    clear HL2
    have HL2 := HL2'
    clear HL2'
    clear hb
    clear HL
    clear HL2
    clear HQ
    clear hszHL hszHL2
    go_wp2_with fail
    go_meet
    exact ⟨rfl, HB.out⟩
  case rest =>
    obtain ⟨rfl, hbc⟩ := hcut
    rename World => y0
    clear HB HM HO
    have HB := Lib.hid hbc
    clear hbc
    go_wp2_with fail
    refine (both_any _).mono ?_
    rintro _ y39 ⟨b, rfl, hr, hb⟩
    have HB' := Lib.hid (HB.out.trans (hb.mono HB.out.size))
    clear HB
    have HB := HB'
    clear HB'
    clear hb
    have HR := Lib.hid hr
    clear hr
    go_wp2_with fail
    refine (towns_any 500 (some ⟨b, 0, none⟩) 2 2 bF bT _ HR.out).mono ?_
    rintro _ y40 ⟨z, rfl, hq, hb⟩
    have HB' := Lib.hid (HB.out.trans (hb.mono HB.out.size))
    clear HB
    have HB := HB'
    clear HB'
    have HQ := Lib.hid hq
    clear hq
    clear hb
    clear HR
    go_wp2_with fail
    refine (nmCost1 z _ HQ.out).mono ?_
    rintro _ y41 ⟨rfl, hb⟩
    have HB' := Lib.hid (HB.out.trans (hb.mono HB.out.size))
    clear HB
    have HB := HB'
    clear HB'
    have HQ' := Lib.hid (HQ.out.below QP.k hb)
    clear HQ
    have HQ := HQ'
    clear HQ'
    clear hb
    clear HQ
    go_wp2_with fail
    refine (both_any _).mono ?_
    rintro _ y42 ⟨b, rfl, hr, hb⟩
    have HB' := Lib.hid (HB.out.trans (hb.mono HB.out.size))
    clear HB
    have HB := HB'
    clear HB'
    clear hb
    have HR := Lib.hid hr
    clear hr
    go_wp2_with fail
    refine (towns_any 500 (some ⟨b, 0, none⟩) 2 2 bF bT _ HR.out).mono ?_
    rintro _ y43 ⟨z, rfl, hq, hb⟩
    have HB' := Lib.hid (HB.out.trans (hb.mono HB.out.size))
    clear HB
    have HB := HB'
    clear HB'
    have HQ := Lib.hid hq
    clear hq
    clear hb
    clear HR
    go_wp2_with fail
    refine (nmCost2 z _ HQ.out).mono ?_
    rintro _ y44 ⟨rfl, hb⟩
    have HB' := Lib.hid (HB.out.trans (hb.mono HB.out.size))
    clear HB
    have HB := HB'
    clear HB'
    have HQ' := Lib.hid (HQ.out.below QP.k hb)
    clear HQ
    have HQ := HQ'
    clear HQ'
    clear hb
    clear HQ
    go_wp2_with fail
    refine (towns_any 500 none 0 0 bF bT _ (.inl ⟨_, _, rfl, rfl⟩)).mono ?_
    rintro _ y45 ⟨zm, rfl, _, hb⟩
    have HB' := Lib.hid (HB.out.trans (hb.mono HB.out.size))
    clear HB
    have HB := HB'
    clear HB'
    clear hb
    go_wp2_with fail
    refine (towns_any 500 none 0 0 bF bT _ (.inl ⟨_, _, rfl, rfl⟩)).mono ?_
    rintro _ y46 ⟨zw, rfl, _, hb⟩
    have HB' := Lib.hid (HB.out.trans (hb.mono HB.out.size))
    clear HB
    have HB := HB'
    clear HB'
    clear hb
    go_wp2_with fail
    refine (towns_own 500 none 0 0 _).mono ?_
    rintro _ y47 ⟨L1, L2, r0L, m0L, r1L, m1L, r2L, m2L, r3L, m3L, r4L, m4L, r5L, m5L, rfl, hbf, hne, hst⟩
    have hb := hbf.fr
    have HNL := Lib.hid (And.intro hne (And.intro (hbf.lt (.head _)) (hbf.lt (.tail _ (.head _)))))
    have hbr := hbf.rebase HB.out
    have HB' := Lib.hid (HB.out.trans (hb.mono HB.out.size))
    clear HB
    have HB := HB'
    clear HB'
    have HFL := Lib.hid hbr
    have HSL := Lib.hid (Stab.refl y47)
    have HQL := Lib.hid hst
    clear hbf hne hst hb hbr
    go_wp2_with fail
    refine (towns_own 500 none 0 0 _).mono ?_
    rintro _ y48 ⟨A1, A2, r0A, m0A, r1A, m1A, r2A, m2A, r3A, m3A, r4A, m4A, r5A, m5A, rfl, hbf, hne, hst⟩
    have hb := hbf.fr
    have HNA := Lib.hid (And.intro hne (And.intro (hbf.lt (.head _)) (hbf.lt (.tail _ (.head _)))))
    have hbr := hbf.rebase HB.out
    have HFL' := Lib.hid (HFL.out.below hb)
    clear HFL
    have HFL := HFL'
    clear HFL'
    have HSL' := Lib.hid (HSL.out.below hb)
    clear HSL
    have HSL := HSL'
    clear HSL'
    have HB' := Lib.hid (HB.out.trans (hb.mono HB.out.size))
    clear HB
    have HB := HB'
    clear HB'
    have HFA := Lib.hid hbr
    have HSA := Lib.hid (Stab.refl y48)
    have HQA := Lib.hid hst
    clear hbf hne hst hb hbr
    go_wp2_with fail
    refine (towns_own 500 none 0 0 _).mono ?_
    rintro _ y49 ⟨S1, S2, r0S, m0S, r1S, m1S, r2S, m2S, r3S, m3S, r4S, m4S, r5S, m5S, rfl, hbf, hne, hst⟩
    have hb := hbf.fr
    have HNS := Lib.hid (And.intro hne (And.intro (hbf.lt (.head _)) (hbf.lt (.tail _ (.head _)))))
    have hbr := hbf.rebase HB.out
    have HFL' := Lib.hid (HFL.out.below hb)
    clear HFL
    have HFL := HFL'
    clear HFL'
    have HSL' := Lib.hid (HSL.out.below hb)
    clear HSL
    have HSL := HSL'
    clear HSL'
    have HFA' := Lib.hid (HFA.out.below hb)
    clear HFA
    have HFA := HFA'
    clear HFA'
    have HSA' := Lib.hid (HSA.out.below hb)
    clear HSA
    have HSA := HSA'
    clear HSA'
    have HB' := Lib.hid (HB.out.trans (hb.mono HB.out.size))
    clear HB
    have HB := HB'
    clear HB'
    have HFS := Lib.hid hbr
    have HSS := Lib.hid (Stab.refl y49)
    have HQS := Lib.hid hst
    clear hbf hne hst hb hbr
    go_wp2_with fail
    refine (towns_own 500 none 0 0 _).mono ?_
    rintro _ y50 ⟨K1, K2, r0K, m0K, r1K, m1K, r2K, m2K, r3K, m3K, r4K, m4K, r5K, m5K, rfl, hbf, hne, hst⟩
    have hb := hbf.fr
    have HNK := Lib.hid (And.intro hne (And.intro (hbf.lt (.head _)) (hbf.lt (.tail _ (.head _)))))
    have hbr := hbf.rebase HB.out
    have HFL' := Lib.hid (HFL.out.below hb)
    clear HFL
    have HFL := HFL'
    clear HFL'
    have HSL' := Lib.hid (HSL.out.below hb)
    clear HSL
    have HSL := HSL'
    clear HSL'
    have HFA' := Lib.hid (HFA.out.below hb)
    clear HFA
    have HFA := HFA'
    clear HFA'
    have HSA' := Lib.hid (HSA.out.below hb)
    clear HSA
    have HSA := HSA'
    clear HSA'
    have HFS' := Lib.hid (HFS.out.below hb)
    clear HFS
    have HFS := HFS'
    clear HFS'
    have HSS' := Lib.hid (HSS.out.below hb)
    clear HSS
    have HSS := HSS'
    clear HSS'
    have HB' := Lib.hid (HB.out.trans (hb.mono HB.out.size))
    clear HB
    have HB := HB'
    clear HB'
    have HFK := Lib.hid hbr
    have HSK := Lib.hid (Stab.refl y50)
    have HQK := Lib.hid hst
    clear hbf hne hst hb hbr
    have HA := Lib.hid (((HFL.out.both HFA.out).both HFS.out).both HFK.out)
    have HYX := Lib.hid HB.out.size
    clear HFL HFA HFS HFK
    have hb6 := (((((((BF.base y50).alloc #[.slice zm.oa 3 zm.oc, .slice zm.na 3 zm.nc, .slice zm.ma 0 zm.mc] 33).alloc #[.slice zw.oa 3 zw.oc, .slice zw.na 3 zw.nc, .slice zw.ma 0 zw.mc] 33).alloc #[.slice (some ⟨L1, 0, none⟩) 3 3, .slice (some ⟨L2, 0, none⟩) 3 3, .slice none 0 0] 33).alloc #[.slice (some ⟨A1, 0, none⟩) 3 3, .slice (some ⟨A2, 0, none⟩) 3 3, .slice none 0 0] 33).alloc #[.slice (some ⟨S1, 0, none⟩) 3 3, .slice (some ⟨S2, 0, none⟩) 3 3, .slice none 0 0] 33).alloc #[.slice (some ⟨K1, 0, none⟩) 3 3, .slice (some ⟨K2, 0, none⟩) 3 3, .slice none 0 0] 33).fr
    have HA' := Lib.hid (((((((HA.out.alloc #[.slice zm.oa 3 zm.oc, .slice zm.na 3 zm.nc, .slice zm.ma 0 zm.mc] 33).alloc #[.slice zw.oa 3 zw.oc, .slice zw.na 3 zw.nc, .slice zw.ma 0 zw.mc] 33).alloc #[.slice (some ⟨L1, 0, none⟩) 3 3, .slice (some ⟨L2, 0, none⟩) 3 3, .slice none 0 0] 33).alloc #[.slice (some ⟨A1, 0, none⟩) 3 3, .slice (some ⟨A2, 0, none⟩) 3 3, .slice none 0 0] 33).alloc #[.slice (some ⟨S1, 0, none⟩) 3 3, .slice (some ⟨S2, 0, none⟩) 3 3, .slice none 0 0] 33).alloc #[.slice (some ⟨K1, 0, none⟩) 3 3, .slice (some ⟨K2, 0, none⟩) 3 3, .slice none 0 0] 33))
    clear HA
    have HA := HA'
    clear HA'
    repeat rw [World.size_alloc] at HA
    have HSL' := Lib.hid (HSL.out.below hb6)
    clear HSL
    have HSL := HSL'
    clear HSL'
    have HSA' := Lib.hid (HSA.out.below hb6)
    clear HSA
    have HSA := HSA'
    clear HSA'
    have HSS' := Lib.hid (HSS.out.below hb6)
    clear HSS
    have HSS := HSS'
    clear HSS'
    have HSK' := Lib.hid (HSK.out.below hb6)
    clear HSK
    have HSK := HSK'
    clear HSK'
    go_upto_region 11 with fail
    clear hb6
    generalize ((((((y50.alloc (.cells #[.slice zm.oa 3 zm.oc, .slice zm.na 3 zm.nc, .slice zm.ma 0 zm.mc] 33)).alloc (.cells #[.slice zw.oa 3 zw.oc, .slice zw.na 3 zw.nc, .slice zw.ma 0 zw.mc] 33)).alloc (.cells #[.slice (some ⟨L1, 0, none⟩) 3 3, .slice (some ⟨L2, 0, none⟩) 3 3, .slice none 0 0] 33)).alloc (.cells #[.slice (some ⟨A1, 0, none⟩) 3 3, .slice (some ⟨A2, 0, none⟩) 3 3, .slice none 0 0] 33)).alloc (.cells #[.slice (some ⟨S1, 0, none⟩) 3 3, .slice (some ⟨S2, 0, none⟩) 3 3, .slice none 0 0] 33)).alloc (.cells #[.slice (some ⟨K1, 0, none⟩) 3 3, .slice (some ⟨K2, 0, none⟩) 3 3, .slice none 0 0] 33)) = x1 at *
    obtain ⟨P1, hP1⟩ : ∃ P1, y50.heap.size = P1 := ⟨_, rfl⟩
    have HK9 := HNK.out
    rw [hP1] at HA HK9 ⊢
    obtain ⟨P2, hP2⟩ : ∃ P2, P1 + 1 = P2 := ⟨_, rfl⟩
    rw [hP2] at HA ⊢
    obtain ⟨P3, hP3⟩ : ∃ P3, P2 + 1 = P3 := ⟨_, rfl⟩
    rw [hP3] at HA ⊢
    obtain ⟨P4, hP4⟩ : ∃ P4, P3 + 1 = P4 := ⟨_, rfl⟩
    rw [hP4] at HA ⊢
    obtain ⟨P5, hP5⟩ : ∃ P5, P4 + 1 = P5 := ⟨_, rfl⟩
    rw [hP5] at HA ⊢
    obtain ⟨P6, hP6⟩ : ∃ P6, P5 + 1 = P6 := ⟨_, rfl⟩
    rw [hP6] at HA ⊢
    have hq1 := HNL.out
    have hq2 := HNA.out
    have hq3 := HNS.out
    have HORD : Hid ((L1 ≠ L2 ∧ A1 ≠ A2 ∧ S1 ≠ S2 ∧ K1 ≠ K2) ∧ (L1 < A1 ∧ L1 < A2 ∧ L2 < A1 ∧ L2 < A2) ∧ (A1 < S1 ∧ A1 < S2 ∧ A2 < S1 ∧ A2 < S2) ∧ (S1 < K1 ∧ S1 < K2 ∧ S2 < K1 ∧ S2 < K2) ∧ K1 < P1 ∧ K2 < P1 ∧ P1 < P2 ∧ P2 < P3 ∧ P3 < P4 ∧ P4 < P5 ∧ P5 < P6) := by
      unfold Hid; omega
    clear HNL HNA HNS HNK HK9 hq1 hq2 hq3 hP1 hP2 hP3 hP4 hP5 hP6
    have c1 := HA.out.cell (.tail _ (.tail _ (.tail _ (.tail _ (.tail _ (.head _)))))) 1
    have fc1 := HA.out.thaw (.tail _ (.tail _ (.tail _ (.tail _ (.tail _ (.head _)))))) 1
    have hl1 := (HA.out.lt (.tail _ (.tail _ (.tail _ (.tail _ (.tail _ (.head _))))))).2
    have hmk := mkE x1
    have HSL' := Lib.hid (HSL.out.set (i := 1) (v := .slice (some ⟨x1.heap.size, 0, none⟩) 9 9) (HA.out.bk _ _ _ (.tail _ (.tail _ (.tail _ (.tail _ (.tail _ (.head _))))))).2 (.inr rfl))
    clear HSL
    have HSL := HSL'
    clear HSL'
    have HSA' := Lib.hid (HSA.out.set (i := 1) (v := .slice (some ⟨x1.heap.size, 0, none⟩) 9 9) (HA.out.bk _ _ _ (.tail _ (.tail _ (.tail _ (.tail _ (.tail _ (.head _))))))).2 (.inr rfl))
    clear HSA
    have HSA := HSA'
    clear HSA'
    have HSS' := Lib.hid (HSS.out.set (i := 1) (v := .slice (some ⟨x1.heap.size, 0, none⟩) 9 9) (HA.out.bk _ _ _ (.tail _ (.tail _ (.tail _ (.tail _ (.tail _ (.head _))))))).2 (.inr rfl))
    clear HSS
    have HSS := HSS'
    clear HSS'
    have HSK' := Lib.hid (HSK.out.set (i := 1) (v := .slice (some ⟨x1.heap.size, 0, none⟩) 9 9) (HA.out.bk _ _ _ (.tail _ (.tail _ (.tail _ (.tail _ (.tail _ (.head _))))))).2 (.inr rfl))
    clear HSK
    have HSK := HSK'
    clear HSK'
    have HA' := Lib.hid (BF.set1 (i := 1) (cs' := #[.slice zm.oa 3 zm.oc, .slice (some ⟨x1.heap.size, 0, none⟩) 9 9, .slice zm.ma 0 zm.mc]) HA.out (.tail _ (.tail _ (.tail _ (.tail _ (.tail _ (.head _)))))) (.slice (some ⟨x1.heap.size, 0, none⟩) 9 9) (by simp) rfl (L' := [(P6, #[.slice (some ⟨K1, 0, none⟩) 3 3, .slice (some ⟨K2, 0, none⟩) 3 3, .slice none 0 0], 33), (P5, #[.slice (some ⟨S1, 0, none⟩) 3 3, .slice (some ⟨S2, 0, none⟩) 3 3, .slice none 0 0], 33), (P4, #[.slice (some ⟨A1, 0, none⟩) 3 3, .slice (some ⟨A2, 0, none⟩) 3 3, .slice none 0 0], 33), (P3, #[.slice (some ⟨L1, 0, none⟩) 3 3, .slice (some ⟨L2, 0, none⟩) 3 3, .slice none 0 0], 33), (P2, #[.slice zw.oa 3 zw.oc, .slice zw.na 3 zw.nc, .slice zw.ma 0 zw.mc], 33), (L1, #[.int .i64 0, .int .i64 1000, r0L, .slice none 0 0, .int .i64 0, m0L, .int .i64 1, .int .i64 0, .int .i64 1000, r1L, .slice none 0 0, .int .i64 1, m1L, .int .i64 1, .int .i64 500, .int .i64 2000, r2L, .slice none 0 0, .int .i64 0, m2L, .int .i64 2], 100), (L2, #[.int .i64 400, .int .i64 900, r3L, .slice none 0 0, .int .i64 0, m3L, .int .i64 1, .int .i64 1000, .int .i64 1500, r4L, .slice none 0 0, .int .i64 2, m4L, .int .i64 3, .int .i64 100, .int .i64 600, r5L, .slice none 0 0, .int .i64 0, m5L, .int .i64 2], 100), (A1, #[.int .i64 0, .int .i64 1000, r0A, .slice none 0 0, .int .i64 0, m0A, .int .i64 1, .int .i64 0, .int .i64 1000, r1A, .slice none 0 0, .int .i64 1, m1A, .int .i64 1, .int .i64 500, .int .i64 2000, r2A, .slice none 0 0, .int .i64 0, m2A, .int .i64 2], 100), (A2, #[.int .i64 400, .int .i64 900, r3A, .slice none 0 0, .int .i64 0, m3A, .int .i64 1, .int .i64 1000, .int .i64 1500, r4A, .slice none 0 0, .int .i64 2, m4A, .int .i64 3, .int .i64 100, .int .i64 600, r5A, .slice none 0 0, .int .i64 0, m5A, .int .i64 2], 100), (S1, #[.int .i64 0, .int .i64 1000, r0S, .slice none 0 0, .int .i64 0, m0S, .int .i64 1, .int .i64 0, .int .i64 1000, r1S, .slice none 0 0, .int .i64 1, m1S, .int .i64 1, .int .i64 500, .int .i64 2000, r2S, .slice none 0 0, .int .i64 0, m2S, .int .i64 2], 100), (S2, #[.int .i64 400, .int .i64 900, r3S, .slice none 0 0, .int .i64 0, m3S, .int .i64 1, .int .i64 1000, .int .i64 1500, r4S, .slice none 0 0, .int .i64 2, m4S, .int .i64 3, .int .i64 100, .int .i64 600, r5S, .slice none 0 0, .int .i64 0, m5S, .int .i64 2], 100), (K1, #[.int .i64 0, .int .i64 1000, r0K, .slice none 0 0, .int .i64 0, m0K, .int .i64 1, .int .i64 0, .int .i64 1000, r1K, .slice none 0 0, .int .i64 1, m1K, .int .i64 1, .int .i64 500, .int .i64 2000, r2K, .slice none 0 0, .int .i64 0, m2K, .int .i64 2], 100), (K2, #[.int .i64 400, .int .i64 900, r3K, .slice none 0 0, .int .i64 0, m3K, .int .i64 1, .int .i64 1000, .int .i64 1500, r4K, .slice none 0 0, .int .i64 2, m4K, .int .i64 3, .int .i64 100, .int .i64 600, r5K, .slice none 0 0, .int .i64 0, m5K, .int .i64 2], 100)]) (List.forall_mem_cons.2 ⟨⟨show P6 ≠ P1 by have := HORD.out; omega, (.head _)⟩, List.forall_mem_cons.2 ⟨⟨show P5 ≠ P1 by have := HORD.out; omega, (.tail _ (.head _))⟩, List.forall_mem_cons.2 ⟨⟨show P4 ≠ P1 by have := HORD.out; omega, (.tail _ (.tail _ (.head _)))⟩, List.forall_mem_cons.2 ⟨⟨show P3 ≠ P1 by have := HORD.out; omega, (.tail _ (.tail _ (.tail _ (.head _))))⟩, List.forall_mem_cons.2 ⟨⟨show P2 ≠ P1 by have := HORD.out; omega, (.tail _ (.tail _ (.tail _ (.tail _ (.head _)))))⟩, List.forall_mem_cons.2 ⟨⟨show L1 ≠ P1 by have := HORD.out; omega, (.tail _ (.tail _ (.tail _ (.tail _ (.tail _ (.tail _ (.head _)))))))⟩, List.forall_mem_cons.2 ⟨⟨show L2 ≠ P1 by have := HORD.out; omega, (.tail _ (.tail _ (.tail _ (.tail _ (.tail _ (.tail _ (.tail _ (.head _))))))))⟩, List.forall_mem_cons.2 ⟨⟨show A1 ≠ P1 by have := HORD.out; omega, (.tail _ (.tail _ (.tail _ (.tail _ (.tail _ (.tail _ (.tail _ (.tail _ (.head _)))))))))⟩, List.forall_mem_cons.2 ⟨⟨show A2 ≠ P1 by have := HORD.out; omega, (.tail _ (.tail _ (.tail _ (.tail _ (.tail _ (.tail _ (.tail _ (.tail _ (.tail _ (.head _))))))))))⟩, List.forall_mem_cons.2 ⟨⟨show S1 ≠ P1 by have := HORD.out; omega, (.tail _ (.tail _ (.tail _ (.tail _ (.tail _ (.tail _ (.tail _ (.tail _ (.tail _ (.tail _ (.head _)))))))))))⟩, List.forall_mem_cons.2 ⟨⟨show S2 ≠ P1 by have := HORD.out; omega, (.tail _ (.tail _ (.tail _ (.tail _ (.tail _ (.tail _ (.tail _ (.tail _ (.tail _ (.tail _ (.tail _ (.head _))))))))))))⟩, List.forall_mem_cons.2 ⟨⟨show K1 ≠ P1 by have := HORD.out; omega, (.tail _ (.tail _ (.tail _ (.tail _ (.tail _ (.tail _ (.tail _ (.tail _ (.tail _ (.tail _ (.tail _ (.tail _ (.head _)))))))))))))⟩, List.forall_mem_cons.2 ⟨⟨show K2 ≠ P1 by have := HORD.out; omega, (.tail _ (.tail _ (.tail _ (.tail _ (.tail _ (.tail _ (.tail _ (.tail _ (.tail _ (.tail _ (.tail _ (.tail _ (.tail _ (.head _))))))))))))))⟩, List.forall_mem_nil _⟩⟩⟩⟩⟩⟩⟩⟩⟩⟩⟩⟩⟩))
    clear HA
    have HA := HA'
    clear HA'
    have hsz : (x1.setCell ⟨P1, 1, none⟩ (.slice (some ⟨x1.heap.size, 0, none⟩) 9 9)).heap.size = x1.heap.size := by simp
    have HSL' := Lib.hid (HSL.out.below (below_alloc (x1.setCell ⟨P1, 1, none⟩ (.slice (some ⟨x1.heap.size, 0, none⟩) 9 9)) (.cells zE9 100)))
    clear HSL
    have HSL := HSL'
    clear HSL'
    have HSA' := Lib.hid (HSA.out.below (below_alloc (x1.setCell ⟨P1, 1, none⟩ (.slice (some ⟨x1.heap.size, 0, none⟩) 9 9)) (.cells zE9 100)))
    clear HSA
    have HSA := HSA'
    clear HSA'
    have HSS' := Lib.hid (HSS.out.below (below_alloc (x1.setCell ⟨P1, 1, none⟩ (.slice (some ⟨x1.heap.size, 0, none⟩) 9 9)) (.cells zE9 100)))
    clear HSS
    have HSS := HSS'
    clear HSS'
    have HSK' := Lib.hid (HSK.out.below (below_alloc (x1.setCell ⟨P1, 1, none⟩ (.slice (some ⟨x1.heap.size, 0, none⟩) 9 9)) (.cells zE9 100)))
    clear HSK
    have HSK := HSK'
    clear HSK'
    have HA' := Lib.hid (HA.out.below (below_alloc (x1.setCell ⟨P1, 1, none⟩ (.slice (some ⟨x1.heap.size, 0, none⟩) 9 9)) (.cells zE9 100)))
    clear HA
    have HA := HA'
    clear HA'
    clear hsz
    go_upto_region 12 with fail
    generalize ((x1.setCell ⟨P1, 1, none⟩ (.slice (some ⟨x1.heap.size, 0, none⟩) 9 9)).alloc (.cells zE9 100)) = x2 at *
    clear hl1 hmk
    clear c1 fc1
    have c2 := HA.out.cell (.tail _ (.tail _ (.tail _ (.tail _ (.tail _ (.head _)))))) 2
    have fc2 := HA.out.thaw (.tail _ (.tail _ (.tail _ (.tail _ (.tail _ (.head _)))))) 2
    have hl1 := (HA.out.lt (.tail _ (.tail _ (.tail _ (.tail _ (.tail _ (.head _))))))).2
    have hmk := mkM x2
    have HSL' := Lib.hid (HSL.out.set (i := 2) (v := .slice (some ⟨x2.heap.size, 0, none⟩) 17 17) (HA.out.bk _ _ _ (.tail _ (.tail _ (.tail _ (.tail _ (.tail _ (.head _))))))).2 (.inr rfl))
    clear HSL
    have HSL := HSL'
    clear HSL'
    have HSA' := Lib.hid (HSA.out.set (i := 2) (v := .slice (some ⟨x2.heap.size, 0, none⟩) 17 17) (HA.out.bk _ _ _ (.tail _ (.tail _ (.tail _ (.tail _ (.tail _ (.head _))))))).2 (.inr rfl))
    clear HSA
    have HSA := HSA'
    clear HSA'
    have HSS' := Lib.hid (HSS.out.set (i := 2) (v := .slice (some ⟨x2.heap.size, 0, none⟩) 17 17) (HA.out.bk _ _ _ (.tail _ (.tail _ (.tail _ (.tail _ (.tail _ (.head _))))))).2 (.inr rfl))
    clear HSS
    have HSS := HSS'
    clear HSS'
    have HSK' := Lib.hid (HSK.out.set (i := 2) (v := .slice (some ⟨x2.heap.size, 0, none⟩) 17 17) (HA.out.bk _ _ _ (.tail _ (.tail _ (.tail _ (.tail _ (.tail _ (.head _))))))).2 (.inr rfl))
    clear HSK
    have HSK := HSK'
    clear HSK'
    have HA' := Lib.hid (BF.set1 (i := 2) (cs' := #[.slice zw.oa 3 zw.oc, .slice zw.na 3 zw.nc, .slice (some ⟨x2.heap.size, 0, none⟩) 17 17]) HA.out (.tail _ (.tail _ (.tail _ (.tail _ (.tail _ (.head _)))))) (.slice (some ⟨x2.heap.size, 0, none⟩) 17 17) (by simp) rfl (L' := [(P1, #[.slice zm.oa 3 zm.oc, .slice (some ⟨x1.heap.size, 0, none⟩) 9 9, .slice zm.ma 0 zm.mc], 33), (P6, #[.slice (some ⟨K1, 0, none⟩) 3 3, .slice (some ⟨K2, 0, none⟩) 3 3, .slice none 0 0], 33), (P5, #[.slice (some ⟨S1, 0, none⟩) 3 3, .slice (some ⟨S2, 0, none⟩) 3 3, .slice none 0 0], 33), (P4, #[.slice (some ⟨A1, 0, none⟩) 3 3, .slice (some ⟨A2, 0, none⟩) 3 3, .slice none 0 0], 33), (P3, #[.slice (some ⟨L1, 0, none⟩) 3 3, .slice (some ⟨L2, 0, none⟩) 3 3, .slice none 0 0], 33), (L1, #[.int .i64 0, .int .i64 1000, r0L, .slice none 0 0, .int .i64 0, m0L, .int .i64 1, .int .i64 0, .int .i64 1000, r1L, .slice none 0 0, .int .i64 1, m1L, .int .i64 1, .int .i64 500, .int .i64 2000, r2L, .slice none 0 0, .int .i64 0, m2L, .int .i64 2], 100), (L2, #[.int .i64 400, .int .i64 900, r3L, .slice none 0 0, .int .i64 0, m3L, .int .i64 1, .int .i64 1000, .int .i64 1500, r4L, .slice none 0 0, .int .i64 2, m4L, .int .i64 3, .int .i64 100, .int .i64 600, r5L, .slice none 0 0, .int .i64 0, m5L, .int .i64 2], 100), (A1, #[.int .i64 0, .int .i64 1000, r0A, .slice none 0 0, .int .i64 0, m0A, .int .i64 1, .int .i64 0, .int .i64 1000, r1A, .slice none 0 0, .int .i64 1, m1A, .int .i64 1, .int .i64 500, .int .i64 2000, r2A, .slice none 0 0, .int .i64 0, m2A, .int .i64 2], 100), (A2, #[.int .i64 400, .int .i64 900, r3A, .slice none 0 0, .int .i64 0, m3A, .int .i64 1, .int .i64 1000, .int .i64 1500, r4A, .slice none 0 0, .int .i64 2, m4A, .int .i64 3, .int .i64 100, .int .i64 600, r5A, .slice none 0 0, .int .i64 0, m5A, .int .i64 2], 100), (S1, #[.int .i64 0, .int .i64 1000, r0S, .slice none 0 0, .int .i64 0, m0S, .int .i64 1, .int .i64 0, .int .i64 1000, r1S, .slice none 0 0, .int .i64 1, m1S, .int .i64 1, .int .i64 500, .int .i64 2000, r2S, .slice none 0 0, .int .i64 0, m2S, .int .i64 2], 100), (S2, #[.int .i64 400, .int .i64 900, r3S, .slice none 0 0, .int .i64 0, m3S, .int .i64 1, .int .i64 1000, .int .i64 1500, r4S, .slice none 0 0, .int .i64 2, m4S, .int .i64 3, .int .i64 100, .int .i64 600, r5S, .slice none 0 0, .int .i64 0, m5S, .int .i64 2], 100), (K1, #[.int .i64 0, .int .i64 1000, r0K, .slice none 0 0, .int .i64 0, m0K, .int .i64 1, .int .i64 0, .int .i64 1000, r1K, .slice none 0 0, .int .i64 1, m1K, .int .i64 1, .int .i64 500, .int .i64 2000, r2K, .slice none 0 0, .int .i64 0, m2K, .int .i64 2], 100), (K2, #[.int .i64 400, .int .i64 900, r3K, .slice none 0 0, .int .i64 0, m3K, .int .i64 1, .int .i64 1000, .int .i64 1500, r4K, .slice none 0 0, .int .i64 2, m4K, .int .i64 3, .int .i64 100, .int .i64 600, r5K, .slice none 0 0, .int .i64 0, m5K, .int .i64 2], 100)]) (List.forall_mem_cons.2 ⟨⟨show P1 ≠ P2 by have := HORD.out; omega, (.head _)⟩, List.forall_mem_cons.2 ⟨⟨show P6 ≠ P2 by have := HORD.out; omega, (.tail _ (.head _))⟩, List.forall_mem_cons.2 ⟨⟨show P5 ≠ P2 by have := HORD.out; omega, (.tail _ (.tail _ (.head _)))⟩, List.forall_mem_cons.2 ⟨⟨show P4 ≠ P2 by have := HORD.out; omega, (.tail _ (.tail _ (.tail _ (.head _))))⟩, List.forall_mem_cons.2 ⟨⟨show P3 ≠ P2 by have := HORD.out; omega, (.tail _ (.tail _ (.tail _ (.tail _ (.head _)))))⟩, List.forall_mem_cons.2 ⟨⟨show L1 ≠ P2 by have := HORD.out; omega, (.tail _ (.tail _ (.tail _ (.tail _ (.tail _ (.tail _ (.head _)))))))⟩, List.forall_mem_cons.2 ⟨⟨show L2 ≠ P2 by have := HORD.out; omega, (.tail _ (.tail _ (.tail _ (.tail _ (.tail _ (.tail _ (.tail _ (.head _))))))))⟩, List.forall_mem_cons.2 ⟨⟨show A1 ≠ P2 by have := HORD.out; omega, (.tail _ (.tail _ (.tail _ (.tail _ (.tail _ (.tail _ (.tail _ (.tail _ (.head _)))))))))⟩, List.forall_mem_cons.2 ⟨⟨show A2 ≠ P2 by have := HORD.out; omega, (.tail _ (.tail _ (.tail _ (.tail _ (.tail _ (.tail _ (.tail _ (.tail _ (.tail _ (.head _))))))))))⟩, List.forall_mem_cons.2 ⟨⟨show S1 ≠ P2 by have := HORD.out; omega, (.tail _ (.tail _ (.tail _ (.tail _ (.tail _ (.tail _ (.tail _ (.tail _ (.tail _ (.tail _ (.head _)))))))))))⟩, List.forall_mem_cons.2 ⟨⟨show S2 ≠ P2 by have := HORD.out; omega, (.tail _ (.tail _ (.tail _ (.tail _ (.tail _ (.tail _ (.tail _ (.tail _ (.tail _ (.tail _ (.tail _ (.head _))))))))))))⟩, List.forall_mem_cons.2 ⟨⟨show K1 ≠ P2 by have := HORD.out; omega, (.tail _ (.tail _ (.tail _ (.tail _ (.tail _ (.tail _ (.tail _ (.tail _ (.tail _ (.tail _ (.tail _ (.tail _ (.head _)))))))))))))⟩, List.forall_mem_cons.2 ⟨⟨show K2 ≠ P2 by have := HORD.out; omega, (.tail _ (.tail _ (.tail _ (.tail _ (.tail _ (.tail _ (.tail _ (.tail _ (.tail _ (.tail _ (.tail _ (.tail _ (.tail _ (.head _))))))))))))))⟩, List.forall_mem_nil _⟩⟩⟩⟩⟩⟩⟩⟩⟩⟩⟩⟩⟩))
    clear HA
    have HA := HA'
    clear HA'
    have hsz : (x2.setCell ⟨P2, 2, none⟩ (.slice (some ⟨x2.heap.size, 0, none⟩) 17 17)).heap.size = x2.heap.size := by simp
    have HSL' := Lib.hid (HSL.out.below (below_alloc (x2.setCell ⟨P2, 2, none⟩ (.slice (some ⟨x2.heap.size, 0, none⟩) 17 17)) (.cells zM17 110)))
    clear HSL
    have HSL := HSL'
    clear HSL'
    have HSA' := Lib.hid (HSA.out.below (below_alloc (x2.setCell ⟨P2, 2, none⟩ (.slice (some ⟨x2.heap.size, 0, none⟩) 17 17)) (.cells zM17 110)))
    clear HSA
    have HSA := HSA'
    clear HSA'
    have HSS' := Lib.hid (HSS.out.below (below_alloc (x2.setCell ⟨P2, 2, none⟩ (.slice (some ⟨x2.heap.size, 0, none⟩) 17 17)) (.cells zM17 110)))
    clear HSS
    have HSS := HSS'
    clear HSS'
    have HSK' := Lib.hid (HSK.out.below (below_alloc (x2.setCell ⟨P2, 2, none⟩ (.slice (some ⟨x2.heap.size, 0, none⟩) 17 17)) (.cells zM17 110)))
    clear HSK
    have HSK := HSK'
    clear HSK'
    have HA' := Lib.hid (HA.out.below (below_alloc (x2.setCell ⟨P2, 2, none⟩ (.slice (some ⟨x2.heap.size, 0, none⟩) 17 17)) (.cells zM17 110)))
    clear HA
    have HA := HA'
    clear HA'
    clear hsz
    go_upto_region 13 with fail
    generalize ((x2.setCell ⟨P2, 2, none⟩ (.slice (some ⟨x2.heap.size, 0, none⟩) 17 17)).alloc (.cells zM17 110)) = x3 at *
    clear hl1 hmk
    clear c2 fc2
    have HSL' := Lib.hid (HSL.out.below (Below.refl x3.heap.size x3).drew)
    clear HSL
    have HSL := HSL'
    clear HSL'
    have HSA' := Lib.hid (HSA.out.below (Below.refl x3.heap.size x3).drew)
    clear HSA
    have HSA := HSA'
    clear HSA'
    have HSS' := Lib.hid (HSS.out.below (Below.refl x3.heap.size x3).drew)
    clear HSS
    have HSS := HSS'
    clear HSS'
    have HSK' := Lib.hid (HSK.out.below (Below.refl x3.heap.size x3).drew)
    clear HSK
    have HSK := HSK'
    clear HSK'
    have HA' := Lib.hid (HA.out.below (Below.refl x3.heap.size x3).drew)
    clear HA
    have HA := HA'
    clear HA'
    refine wp_region_Z (S := fun X => X.cell? ⟨P3, 0, none⟩ = some (.slice (some ⟨L1, 0, none⟩) 3 3)) (by kernel_rfl) (HA.out.cell (.tail _ (.tail _ (.tail _ (.tail _ (.tail _ (.head _)))))) 0) (fun hS => ?_)
    generalize x3.drew = X at *
    refine tk [0, 1] ?_
    repeat (refine tkZ (oi := ⟨_, _, _, _, _, _⟩) (v := ?_) rfl (by kernel_rfl) (by rfl) (fun _ _ _ h => h) hS ?_ ?_; rotate_left; (· intro W' hSw; (try dsimp only at hSw); go_simp; try with_reducible rfl); try simp only [Act.put, putA, putZ, putS])
    refine tk0 ?_
    refine wpAnyZ_next (rs := [2]) (by kernel_rfl) (by simp) ?_
    refine NextZ.cons (o := ⟨some 162, _, _, _, _, _⟩) rfl (fun K hK => ?_) NextZ.nil
    have hmk := mkI X
    go_simp
    clear hmk
    have hlt := (HA.out.lt (.tail _ (.tail _ (.head _)))).2
    have HSL' := Lib.hid (HSL.out.below (below_alloc X (.cells #[.int .i64 0, .int .i64 0, .int .i64 0, .int .i64 0, .int .i64 0] 3)))
    clear HSL
    have HSL := HSL'
    clear HSL'
    have HSA' := Lib.hid (HSA.out.below (below_alloc X (.cells #[.int .i64 0, .int .i64 0, .int .i64 0, .int .i64 0, .int .i64 0] 3)))
    clear HSA
    have HSA := HSA'
    clear HSA'
    have HSS' := Lib.hid (HSS.out.below (below_alloc X (.cells #[.int .i64 0, .int .i64 0, .int .i64 0, .int .i64 0, .int .i64 0] 3)))
    clear HSS
    have HSS := HSS'
    clear HSS'
    have HSK' := Lib.hid (HSK.out.below (below_alloc X (.cells #[.int .i64 0, .int .i64 0, .int .i64 0, .int .i64 0, .int .i64 0] 3)))
    clear HSK
    have HSK := HSK'
    clear HSK'
    have HA' := Lib.hid (HA.out.alloc #[.int .i64 0, .int .i64 0, .int .i64 0, .int .i64 0, .int .i64 0] 3)
    clear HA
    have HA := HA'
    clear HA'
    refine hK.out _ _ (HA.out.cell (.tail _ (.tail _ (.tail _ (.tail _ (.tail _ (.tail _ (.head _))))))) 0) (fun hS => ?_)
    clear hK K
    try simp only [Act.put, putA, putZ, putS]
    clear hS
    generalize X.heap.size = NL at *
    generalize X.alloc (.cells #[.int .i64 0, .int .i64 0, .int .i64 0, .int .i64 0, .int .i64 0] 3) = x4 at *
    have HORD' := Lib.hid (And.intro HORD.out hlt)
    clear HORD
    have HORD := HORD'
    clear HORD'
    clear hlt
    have hS : (fun X : World => X.cell? ⟨P3, 0, none⟩ = some (.slice (some ⟨L1, 0, none⟩) 3 3)) x4 := HA.out.cell (.tail _ (.tail _ (.tail _ (.tail _ (.tail _ (.tail _ (.head _))))))) 0
    refine tk [3, 4] ?_
    repeat (refine tkZ (oi := ⟨_, _, _, _, _, _⟩) (v := ?_) rfl (by kernel_rfl) (by rfl) (fun _ _ _ h => h) hS ?_ ?_; rotate_left; (· intro W' hSw; (try dsimp only at hSw); go_simp; try with_reducible rfl); try simp only [Act.put, putA, putZ, putS])
    refine tk0 ?_
    clear hS
    refine wpAnyZ_next (rs := [5]) (by kernel_rfl) (by simp) ?_
    refine NextZ.cons (o := ⟨none, _, _, _, _, _⟩) rfl (fun K hK => ?_) NextZ.nil
    have c1 := HA.out.cell (.tail _ (.tail _ (.tail _ (.tail _ (.tail _ (.tail _ (.tail _ (.head _)))))))) 5
    have fc1 := HA.out.thaw (.tail _ (.tail _ (.tail _ (.tail _ (.tail _ (.tail _ (.tail _ (.head _)))))))) 5
    have HSL' := Lib.hid (HSL.out.set (i := 5) (v := .slice (some ⟨NL, 0, none⟩) 5 5) (HA.out.bk _ _ _ (.tail _ (.tail _ (.tail _ (.tail _ (.tail _ (.tail _ (.tail _ (.head _))))))))).2 (.inl rfl))
    clear HSL
    have HSL := HSL'
    clear HSL'
    have HSA' := Lib.hid (HSA.out.set (i := 5) (v := .slice (some ⟨NL, 0, none⟩) 5 5) (HA.out.bk _ _ _ (.tail _ (.tail _ (.tail _ (.tail _ (.tail _ (.tail _ (.tail _ (.head _))))))))).2 (.inl rfl))
    clear HSA
    have HSA := HSA'
    clear HSA'
    have HSS' := Lib.hid (HSS.out.set (i := 5) (v := .slice (some ⟨NL, 0, none⟩) 5 5) (HA.out.bk _ _ _ (.tail _ (.tail _ (.tail _ (.tail _ (.tail _ (.tail _ (.tail _ (.head _))))))))).2 (.inl rfl))
    clear HSS
    have HSS := HSS'
    clear HSS'
    have HSK' := Lib.hid (HSK.out.set (i := 5) (v := .slice (some ⟨NL, 0, none⟩) 5 5) (HA.out.bk _ _ _ (.tail _ (.tail _ (.tail _ (.tail _ (.tail _ (.tail _ (.tail _ (.head _))))))))).2 (.inl rfl))
    clear HSK
    have HSK := HSK'
    clear HSK'
    have HA' := Lib.hid (BF.set1 (i := 5) (cs' := #[.int .i64 0, .int .i64 1000, r0L, .slice none 0 0, .int .i64 0, .slice (some ⟨NL, 0, none⟩) 5 5, .int .i64 1, .int .i64 0, .int .i64 1000, r1L, .slice none 0 0, .int .i64 1, m1L, .int .i64 1, .int .i64 500, .int .i64 2000, r2L, .slice none 0 0, .int .i64 0, m2L, .int .i64 2]) HA.out (.tail _ (.tail _ (.tail _ (.tail _ (.tail _ (.tail _ (.tail _ (.head _)))))))) (.slice (some ⟨NL, 0, none⟩) 5 5) (by simp) rfl (L' := [(NL, #[.int .i64 0, .int .i64 0, .int .i64 0, .int .i64 0, .int .i64 0], 3), (P2, #[.slice zw.oa 3 zw.oc, .slice zw.na 3 zw.nc, .slice (some ⟨x2.heap.size, 0, none⟩) 17 17], 33), (P1, #[.slice zm.oa 3 zm.oc, .slice (some ⟨x1.heap.size, 0, none⟩) 9 9, .slice zm.ma 0 zm.mc], 33), (P6, #[.slice (some ⟨K1, 0, none⟩) 3 3, .slice (some ⟨K2, 0, none⟩) 3 3, .slice none 0 0], 33), (P5, #[.slice (some ⟨S1, 0, none⟩) 3 3, .slice (some ⟨S2, 0, none⟩) 3 3, .slice none 0 0], 33), (P4, #[.slice (some ⟨A1, 0, none⟩) 3 3, .slice (some ⟨A2, 0, none⟩) 3 3, .slice none 0 0], 33), (P3, #[.slice (some ⟨L1, 0, none⟩) 3 3, .slice (some ⟨L2, 0, none⟩) 3 3, .slice none 0 0], 33), (L2, #[.int .i64 400, .int .i64 900, r3L, .slice none 0 0, .int .i64 0, m3L, .int .i64 1, .int .i64 1000, .int .i64 1500, r4L, .slice none 0 0, .int .i64 2, m4L, .int .i64 3, .int .i64 100, .int .i64 600, r5L, .slice none 0 0, .int .i64 0, m5L, .int .i64 2], 100), (A1, #[.int .i64 0, .int .i64 1000, r0A, .slice none 0 0, .int .i64 0, m0A, .int .i64 1, .int .i64 0, .int .i64 1000, r1A, .slice none 0 0, .int .i64 1, m1A, .int .i64 1, .int .i64 500, .int .i64 2000, r2A, .slice none 0 0, .int .i64 0, m2A, .int .i64 2], 100), (A2, #[.int .i64 400, .int .i64 900, r3A, .slice none 0 0, .int .i64 0, m3A, .int .i64 1, .int .i64 1000, .int .i64 1500, r4A, .slice none 0 0, .int .i64 2, m4A, .int .i64 3, .int .i64 100, .int .i64 600, r5A, .slice none 0 0, .int .i64 0, m5A, .int .i64 2], 100), (S1, #[.int .i64 0, .int .i64 1000, r0S, .slice none 0 0, .int .i64 0, m0S, .int .i64 1, .int .i64 0, .int .i64 1000, r1S, .slice none 0 0, .int .i64 1, m1S, .int .i64 1, .int .i64 500, .int .i64 2000, r2S, .slice none 0 0, .int .i64 0, m2S, .int .i64 2], 100), (S2, #[.int .i64 400, .int .i64 900, r3S, .slice none 0 0, .int .i64 0, m3S, .int .i64 1, .int .i64 1000, .int .i64 1500, r4S, .slice none 0 0, .int .i64 2, m4S, .int .i64 3, .int .i64 100, .int .i64 600, r5S, .slice none 0 0, .int .i64 0, m5S, .int .i64 2], 100), (K1, #[.int .i64 0, .int .i64 1000, r0K, .slice none 0 0, .int .i64 0, m0K, .int .i64 1, .int .i64 0, .int .i64 1000, r1K, .slice none 0 0, .int .i64 1, m1K, .int .i64 1, .int .i64 500, .int .i64 2000, r2K, .slice none 0 0, .int .i64 0, m2K, .int .i64 2], 100), (K2, #[.int .i64 400, .int .i64 900, r3K, .slice none 0 0, .int .i64 0, m3K, .int .i64 1, .int .i64 1000, .int .i64 1500, r4K, .slice none 0 0, .int .i64 2, m4K, .int .i64 3, .int .i64 100, .int .i64 600, r5K, .slice none 0 0, .int .i64 0, m5K, .int .i64 2], 100)]) (List.forall_mem_cons.2 ⟨⟨show NL ≠ L1 by have := HORD.out; omega, (.head _)⟩, List.forall_mem_cons.2 ⟨⟨show P2 ≠ L1 by have := HORD.out; omega, (.tail _ (.head _))⟩, List.forall_mem_cons.2 ⟨⟨show P1 ≠ L1 by have := HORD.out; omega, (.tail _ (.tail _ (.head _)))⟩, List.forall_mem_cons.2 ⟨⟨show P6 ≠ L1 by have := HORD.out; omega, (.tail _ (.tail _ (.tail _ (.head _))))⟩, List.forall_mem_cons.2 ⟨⟨show P5 ≠ L1 by have := HORD.out; omega, (.tail _ (.tail _ (.tail _ (.tail _ (.head _)))))⟩, List.forall_mem_cons.2 ⟨⟨show P4 ≠ L1 by have := HORD.out; omega, (.tail _ (.tail _ (.tail _ (.tail _ (.tail _ (.head _))))))⟩, List.forall_mem_cons.2 ⟨⟨show P3 ≠ L1 by have := HORD.out; omega, (.tail _ (.tail _ (.tail _ (.tail _ (.tail _ (.tail _ (.head _)))))))⟩, List.forall_mem_cons.2 ⟨⟨show L2 ≠ L1 by have := HORD.out; omega, (.tail _ (.tail _ (.tail _ (.tail _ (.tail _ (.tail _ (.tail _ (.tail _ (.head _)))))))))⟩, List.forall_mem_cons.2 ⟨⟨show A1 ≠ L1 by have := HORD.out; omega, (.tail _ (.tail _ (.tail _ (.tail _ (.tail _ (.tail _ (.tail _ (.tail _ (.tail _ (.head _))))))))))⟩, List.forall_mem_cons.2 ⟨⟨show A2 ≠ L1 by have := HORD.out; omega, (.tail _ (.tail _ (.tail _ (.tail _ (.tail _ (.tail _ (.tail _ (.tail _ (.tail _ (.tail _ (.head _)))))))))))⟩, List.forall_mem_cons.2 ⟨⟨show S1 ≠ L1 by have := HORD.out; omega, (.tail _ (.tail _ (.tail _ (.tail _ (.tail _ (.tail _ (.tail _ (.tail _ (.tail _ (.tail _ (.tail _ (.head _))))))))))))⟩, List.forall_mem_cons.2 ⟨⟨show S2 ≠ L1 by have := HORD.out; omega, (.tail _ (.tail _ (.tail _ (.tail _ (.tail _ (.tail _ (.tail _ (.tail _ (.tail _ (.tail _ (.tail _ (.tail _ (.head _)))))))))))))⟩, List.forall_mem_cons.2 ⟨⟨show K1 ≠ L1 by have := HORD.out; omega, (.tail _ (.tail _ (.tail _ (.tail _ (.tail _ (.tail _ (.tail _ (.tail _ (.tail _ (.tail _ (.tail _ (.tail _ (.tail _ (.head _))))))))))))))⟩, List.forall_mem_cons.2 ⟨⟨show K2 ≠ L1 by have := HORD.out; omega, (.tail _ (.tail _ (.tail _ (.tail _ (.tail _ (.tail _ (.tail _ (.tail _ (.tail _ (.tail _ (.tail _ (.tail _ (.tail _ (.tail _ (.head _)))))))))))))))⟩, List.forall_mem_nil _⟩⟩⟩⟩⟩⟩⟩⟩⟩⟩⟩⟩⟩⟩))
    clear HA
    have HA := HA'
    clear HA'
    go_simp
    refine hK.out _ _ (HA.out.cell (.tail _ (.tail _ (.tail _ (.tail _ (.tail _ (.tail _ (.tail _ (.head _)))))))) 0) (fun hS => ?_)
    clear hK K
    try simp only [Act.put, putA, putZ, putS]
    clear c1 fc1 hS
    refine wpAnyZ_done (by kernel_rfl) ?_ _
    generalize x4.setCell ⟨L1, 5, none⟩ (.slice (some ⟨NL, 0, none⟩) 5 5) = x4b at *
    go_upto_region 14 with fail
    have HSL' := Lib.hid (HSL.out.below (Below.refl x4b.heap.size x4b).drew)
    clear HSL
    have HSL := HSL'
    clear HSL'
    have HSA' := Lib.hid (HSA.out.below (Below.refl x4b.heap.size x4b).drew)
    clear HSA
    have HSA := HSA'
    clear HSA'
    have HSS' := Lib.hid (HSS.out.below (Below.refl x4b.heap.size x4b).drew)
    clear HSS
    have HSS := HSS'
    clear HSS'
    have HSK' := Lib.hid (HSK.out.below (Below.refl x4b.heap.size x4b).drew)
    clear HSK
    have HSK := HSK'
    clear HSK'
    have HA' := Lib.hid (HA.out.below (Below.refl x4b.heap.size x4b).drew)
    clear HA
    have HA := HA'
    clear HA'
    refine wp_region_Z (S := fun X => X.cell? ⟨P4, 1, none⟩ = some (.slice (some ⟨A2, 0, none⟩) 3 3)) (by kernel_rfl) (HA.out.cell (.tail _ (.tail _ (.tail _ (.tail _ (.tail _ (.tail _ (.head _))))))) 1) (fun hS => ?_)
    generalize x4b.drew = X at *
    refine tk [0, 1] ?_
    repeat (refine tkZ (oi := ⟨_, _, _, _, _, _⟩) (v := ?_) rfl (by kernel_rfl) (by rfl) (fun _ _ _ h => h) hS ?_ ?_; rotate_left; (· intro W' hSw; (try dsimp only at hSw); go_simp; try with_reducible rfl); try simp only [Act.put, putA, putZ, putS])
    refine tk0 ?_
    refine wpAnyZ_next (rs := [2]) (by kernel_rfl) (by simp) ?_
    refine NextZ.cons (o := ⟨some 167, _, _, _, _, _⟩) rfl (fun K hK => ?_) NextZ.nil
    have hmk := mkR X
    go_simp
    clear hmk
    have hlt := (HA.out.lt (.tail _ (.tail _ (.tail _ (.tail _ (.head _)))))).2
    have HSL' := Lib.hid (HSL.out.below (below_alloc X (.cells z20 156)))
    clear HSL
    have HSL := HSL'
    clear HSL'
    have HSA' := Lib.hid (HSA.out.below (below_alloc X (.cells z20 156)))
    clear HSA
    have HSA := HSA'
    clear HSA'
    have HSS' := Lib.hid (HSS.out.below (below_alloc X (.cells z20 156)))
    clear HSS
    have HSS := HSS'
    clear HSS'
    have HSK' := Lib.hid (HSK.out.below (below_alloc X (.cells z20 156)))
    clear HSK
    have HSK := HSK'
    clear HSK'
    have HA' := Lib.hid (HA.out.alloc z20 156)
    clear HA
    have HA := HA'
    clear HA'
    refine hK.out _ _ (HA.out.cell (.tail _ (.tail _ (.tail _ (.tail _ (.tail _ (.tail _ (.tail _ (.head _)))))))) 1) (fun hS => ?_)
    clear hK K
    try simp only [Act.put, putA, putZ, putS]
    clear hS
    generalize X.heap.size = NA at *
    generalize X.alloc (.cells z20 156) = x5 at *
    have HORD' := Lib.hid (And.intro HORD.out hlt)
    clear HORD
    have HORD := HORD'
    clear HORD'
    clear hlt
    have hS : (fun X : World => X.cell? ⟨P4, 1, none⟩ = some (.slice (some ⟨A2, 0, none⟩) 3 3)) x5 := HA.out.cell (.tail _ (.tail _ (.tail _ (.tail _ (.tail _ (.tail _ (.tail _ (.head _)))))))) 1
    refine tk [3, 4, 5] ?_
    repeat (refine tkZ (oi := ⟨_, _, _, _, _, _⟩) (v := ?_) rfl (by kernel_rfl) (by rfl) (fun _ _ _ h => h) hS ?_ ?_; rotate_left; (· intro W' hSw; (try dsimp only at hSw); go_simp; try with_reducible rfl); try simp only [Act.put, putA, putZ, putS])
    refine tk0 ?_
    clear hS
    refine wpAnyZ_next (rs := [6]) (by kernel_rfl) (by simp) ?_
    refine NextZ.cons (o := ⟨none, _, _, _, _, _⟩) rfl (fun K hK => ?_) NextZ.nil
    have c1 := HA.out.cell (.tail _ (.tail _ (.tail _ (.tail _ (.tail _ (.tail _ (.tail _ (.tail _ (.tail _ (.tail _ (.tail _ (.head _)))))))))))) 9
    have fc1 := HA.out.thaw (.tail _ (.tail _ (.tail _ (.tail _ (.tail _ (.tail _ (.tail _ (.tail _ (.tail _ (.tail _ (.tail _ (.head _)))))))))))) 9
    have HSL' := Lib.hid (HSL.out.set (i := 9) (v := .slice (some ⟨NA, 0, none⟩) 5 5) (HA.out.bk _ _ _ (.tail _ (.tail _ (.tail _ (.tail _ (.tail _ (.tail _ (.tail _ (.tail _ (.tail _ (.tail _ (.tail _ (.head _))))))))))))).2 (.inl rfl))
    clear HSL
    have HSL := HSL'
    clear HSL'
    have HSA' := Lib.hid (HSA.out.set (i := 9) (v := .slice (some ⟨NA, 0, none⟩) 5 5) (HA.out.bk _ _ _ (.tail _ (.tail _ (.tail _ (.tail _ (.tail _ (.tail _ (.tail _ (.tail _ (.tail _ (.tail _ (.tail _ (.head _))))))))))))).2 (.inl rfl))
    clear HSA
    have HSA := HSA'
    clear HSA'
    have HSS' := Lib.hid (HSS.out.set (i := 9) (v := .slice (some ⟨NA, 0, none⟩) 5 5) (HA.out.bk _ _ _ (.tail _ (.tail _ (.tail _ (.tail _ (.tail _ (.tail _ (.tail _ (.tail _ (.tail _ (.tail _ (.tail _ (.head _))))))))))))).2 (.inl rfl))
    clear HSS
    have HSS := HSS'
    clear HSS'
    have HSK' := Lib.hid (HSK.out.set (i := 9) (v := .slice (some ⟨NA, 0, none⟩) 5 5) (HA.out.bk _ _ _ (.tail _ (.tail _ (.tail _ (.tail _ (.tail _ (.tail _ (.tail _ (.tail _ (.tail _ (.tail _ (.tail _ (.head _))))))))))))).2 (.inl rfl))
    clear HSK
    have HSK := HSK'
    clear HSK'
    have HA' := Lib.hid (BF.set1 (i := 9) (cs' := #[.int .i64 400, .int .i64 900, r3A, .slice none 0 0, .int .i64 0, m3A, .int .i64 1, .int .i64 1000, .int .i64 1500, .slice (some ⟨NA, 0, none⟩) 5 5, .slice none 0 0, .int .i64 2, m4A, .int .i64 3, .int .i64 100, .int .i64 600, r5A, .slice none 0 0, .int .i64 0, m5A, .int .i64 2]) HA.out (.tail _ (.tail _ (.tail _ (.tail _ (.tail _ (.tail _ (.tail _ (.tail _ (.tail _ (.tail _ (.tail _ (.head _)))))))))))) (.slice (some ⟨NA, 0, none⟩) 5 5) (by simp) rfl (L' := [(NA, #[.int .i64 0, .int .i64 0, .int .i64 0, .int .i64 0, .int .i64 0, .int .i64 0, .int .i64 0, .int .i64 0, .int .i64 0, .int .i64 0, .int .i64 0, .int .i64 0, .int .i64 0, .int .i64 0, .int .i64 0, .int .i64 0, .int .i64 0, .int .i64 0, .int .i64 0, .int .i64 0], 156), (L1, #[.int .i64 0, .int .i64 1000, r0L, .slice none 0 0, .int .i64 0, .slice (some ⟨NL, 0, none⟩) 5 5, .int .i64 1, .int .i64 0, .int .i64 1000, r1L, .slice none 0 0, .int .i64 1, m1L, .int .i64 1, .int .i64 500, .int .i64 2000, r2L, .slice none 0 0, .int .i64 0, m2L, .int .i64 2], 100), (NL, #[.int .i64 0, .int .i64 0, .int .i64 0, .int .i64 0, .int .i64 0], 3), (P2, #[.slice zw.oa 3 zw.oc, .slice zw.na 3 zw.nc, .slice (some ⟨x2.heap.size, 0, none⟩) 17 17], 33), (P1, #[.slice zm.oa 3 zm.oc, .slice (some ⟨x1.heap.size, 0, none⟩) 9 9, .slice zm.ma 0 zm.mc], 33), (P6, #[.slice (some ⟨K1, 0, none⟩) 3 3, .slice (some ⟨K2, 0, none⟩) 3 3, .slice none 0 0], 33), (P5, #[.slice (some ⟨S1, 0, none⟩) 3 3, .slice (some ⟨S2, 0, none⟩) 3 3, .slice none 0 0], 33), (P4, #[.slice (some ⟨A1, 0, none⟩) 3 3, .slice (some ⟨A2, 0, none⟩) 3 3, .slice none 0 0], 33), (P3, #[.slice (some ⟨L1, 0, none⟩) 3 3, .slice (some ⟨L2, 0, none⟩) 3 3, .slice none 0 0], 33), (L2, #[.int .i64 400, .int .i64 900, r3L, .slice none 0 0, .int .i64 0, m3L, .int .i64 1, .int .i64 1000, .int .i64 1500, r4L, .slice none 0 0, .int .i64 2, m4L, .int .i64 3, .int .i64 100, .int .i64 600, r5L, .slice none 0 0, .int .i64 0, m5L, .int .i64 2], 100), (A1, #[.int .i64 0, .int .i64 1000, r0A, .slice none 0 0, .int .i64 0, m0A, .int .i64 1, .int .i64 0, .int .i64 1000, r1A, .slice none 0 0, .int .i64 1, m1A, .int .i64 1, .int .i64 500, .int .i64 2000, r2A, .slice none 0 0, .int .i64 0, m2A, .int .i64 2], 100), (S1, #[.int .i64 0, .int .i64 1000, r0S, .slice none 0 0, .int .i64 0, m0S, .int .i64 1, .int .i64 0, .int .i64 1000, r1S, .slice none 0 0, .int .i64 1, m1S, .int .i64 1, .int .i64 500, .int .i64 2000, r2S, .slice none 0 0, .int .i64 0, m2S, .int .i64 2], 100), (S2, #[.int .i64 400, .int .i64 900, r3S, .slice none 0 0, .int .i64 0, m3S, .int .i64 1, .int .i64 1000, .int .i64 1500, r4S, .slice none 0 0, .int .i64 2, m4S, .int .i64 3, .int .i64 100, .int .i64 600, r5S, .slice none 0 0, .int .i64 0, m5S, .int .i64 2], 100), (K1, #[.int .i64 0, .int .i64 1000, r0K, .slice none 0 0, .int .i64 0, m0K, .int .i64 1, .int .i64 0, .int .i64 1000, r1K, .slice none 0 0, .int .i64 1, m1K, .int .i64 1, .int .i64 500, .int .i64 2000, r2K, .slice none 0 0, .int .i64 0, m2K, .int .i64 2], 100), (K2, #[.int .i64 400, .int .i64 900, r3K, .slice none 0 0, .int .i64 0, m3K, .int .i64 1, .int .i64 1000, .int .i64 1500, r4K, .slice none 0 0, .int .i64 2, m4K, .int .i64 3, .int .i64 100, .int .i64 600, r5K, .slice none 0 0, .int .i64 0, m5K, .int .i64 2], 100)]) (List.forall_mem_cons.2 ⟨⟨show NA ≠ A2 by have := HORD.out; omega, (.head _)⟩, List.forall_mem_cons.2 ⟨⟨show L1 ≠ A2 by have := HORD.out; omega, (.tail _ (.head _))⟩, List.forall_mem_cons.2 ⟨⟨show NL ≠ A2 by have := HORD.out; omega, (.tail _ (.tail _ (.head _)))⟩, List.forall_mem_cons.2 ⟨⟨show P2 ≠ A2 by have := HORD.out; omega, (.tail _ (.tail _ (.tail _ (.head _))))⟩, List.forall_mem_cons.2 ⟨⟨show P1 ≠ A2 by have := HORD.out; omega, (.tail _ (.tail _ (.tail _ (.tail _ (.head _)))))⟩, List.forall_mem_cons.2 ⟨⟨show P6 ≠ A2 by have := HORD.out; omega, (.tail _ (.tail _ (.tail _ (.tail _ (.tail _ (.head _))))))⟩, List.forall_mem_cons.2 ⟨⟨show P5 ≠ A2 by have := HORD.out; omega, (.tail _ (.tail _ (.tail _ (.tail _ (.tail _ (.tail _ (.head _)))))))⟩, List.forall_mem_cons.2 ⟨⟨show P4 ≠ A2 by have := HORD.out; omega, (.tail _ (.tail _ (.tail _ (.tail _ (.tail _ (.tail _ (.tail _ (.head _))))))))⟩, List.forall_mem_cons.2 ⟨⟨show P3 ≠ A2 by have := HORD.out; omega, (.tail _ (.tail _ (.tail _ (.tail _ (.tail _ (.tail _ (.tail _ (.tail _ (.head _)))))))))⟩, List.forall_mem_cons.2 ⟨⟨show L2 ≠ A2 by have := HORD.out; omega, (.tail _ (.tail _ (.tail _ (.tail _ (.tail _ (.tail _ (.tail _ (.tail _ (.tail _ (.head _))))))))))⟩, List.forall_mem_cons.2 ⟨⟨show A1 ≠ A2 by have := HORD.out; omega, (.tail _ (.tail _ (.tail _ (.tail _ (.tail _ (.tail _ (.tail _ (.tail _ (.tail _ (.tail _ (.head _)))))))))))⟩, List.forall_mem_cons.2 ⟨⟨show S1 ≠ A2 by have := HORD.out; omega, (.tail _ (.tail _ (.tail _ (.tail _ (.tail _ (.tail _ (.tail _ (.tail _ (.tail _ (.tail _ (.tail _ (.tail _ (.head _)))))))))))))⟩, List.forall_mem_cons.2 ⟨⟨show S2 ≠ A2 by have := HORD.out; omega, (.tail _ (.tail _ (.tail _ (.tail _ (.tail _ (.tail _ (.tail _ (.tail _ (.tail _ (.tail _ (.tail _ (.tail _ (.tail _ (.head _))))))))))))))⟩, List.forall_mem_cons.2 ⟨⟨show K1 ≠ A2 by have := HORD.out; omega, (.tail _ (.tail _ (.tail _ (.tail _ (.tail _ (.tail _ (.tail _ (.tail _ (.tail _ (.tail _ (.tail _ (.tail _ (.tail _ (.tail _ (.head _)))))))))))))))⟩, List.forall_mem_cons.2 ⟨⟨show K2 ≠ A2 by have := HORD.out; omega, (.tail _ (.tail _ (.tail _ (.tail _ (.tail _ (.tail _ (.tail _ (.tail _ (.tail _ (.tail _ (.tail _ (.tail _ (.tail _ (.tail _ (.tail _ (.head _))))))))))))))))⟩, List.forall_mem_nil _⟩⟩⟩⟩⟩⟩⟩⟩⟩⟩⟩⟩⟩⟩⟩))
    clear HA
    have HA := HA'
    clear HA'
    go_simp
    refine hK.out _ _ (HA.out.cell (.tail _ (.tail _ (.tail _ (.tail _ (.tail _ (.tail _ (.tail _ (.tail _ (.head _))))))))) 1) (fun hS => ?_)
    clear hK K
    try simp only [Act.put, putA, putZ, putS]
    clear c1 fc1 hS
    refine wpAnyZ_done (by kernel_rfl) ?_ _
    generalize x5.setCell ⟨A2, 9, none⟩ (.slice (some ⟨NA, 0, none⟩) 5 5) = x5b at *
    have c1 := HA.out.cell (.tail _ (.tail _ (.tail _ (.tail _ (.tail _ (.tail _ (.tail _ (.head _)))))))) 0
    have fc1 := HA.out.thaw (.tail _ (.tail _ (.tail _ (.tail _ (.tail _ (.tail _ (.tail _ (.head _)))))))) 0
    have c2 := HA.out.cell (.tail _ (.tail _ (.tail _ (.tail _ (.tail _ (.tail _ (.tail _ (.tail _ (.tail _ (.tail _ (.tail _ (.tail _ (.head _))))))))))))) 4
    have fc2 := HA.out.thaw (.tail _ (.tail _ (.tail _ (.tail _ (.tail _ (.tail _ (.tail _ (.tail _ (.tail _ (.tail _ (.tail _ (.tail _ (.head _))))))))))))) 4
    have HSL' := Lib.hid (HSL.out.set (i := 4) (v := .int .i64 3) (HA.out.bk _ _ _ (.tail _ (.tail _ (.tail _ (.tail _ (.tail _ (.tail _ (.tail _ (.tail _ (.tail _ (.tail _ (.tail _ (.tail _ (.head _)))))))))))))).2 (.inl rfl))
    clear HSL
    have HSL := HSL'
    clear HSL'
    have HSA' := Lib.hid (HSA.out.set (i := 4) (v := .int .i64 3) (HA.out.bk _ _ _ (.tail _ (.tail _ (.tail _ (.tail _ (.tail _ (.tail _ (.tail _ (.tail _ (.tail _ (.tail _ (.tail _ (.tail _ (.head _)))))))))))))).2 (.inl rfl))
    clear HSA
    have HSA := HSA'
    clear HSA'
    have HSS' := Lib.hid (HSS.out.set (i := 4) (v := .int .i64 3) (HA.out.bk _ _ _ (.tail _ (.tail _ (.tail _ (.tail _ (.tail _ (.tail _ (.tail _ (.tail _ (.tail _ (.tail _ (.tail _ (.tail _ (.head _)))))))))))))).2 (.inl rfl))
    clear HSS
    have HSS := HSS'
    clear HSS'
    have HSK' := Lib.hid (HSK.out.set (i := 4) (v := .int .i64 3) (HA.out.bk _ _ _ (.tail _ (.tail _ (.tail _ (.tail _ (.tail _ (.tail _ (.tail _ (.tail _ (.tail _ (.tail _ (.tail _ (.tail _ (.head _)))))))))))))).2 (.inl rfl))
    clear HSK
    have HSK := HSK'
    clear HSK'
    have HA' := Lib.hid (BF.set1 (i := 4) (cs' := #[.int .i64 0, .int .i64 1000, r0S, .slice none 0 0, .int .i64 3, m0S, .int .i64 1, .int .i64 0, .int .i64 1000, r1S, .slice none 0 0, .int .i64 1, m1S, .int .i64 1, .int .i64 500, .int .i64 2000, r2S, .slice none 0 0, .int .i64 0, m2S, .int .i64 2]) HA.out (.tail _ (.tail _ (.tail _ (.tail _ (.tail _ (.tail _ (.tail _ (.tail _ (.tail _ (.tail _ (.tail _ (.tail _ (.head _))))))))))))) (.int .i64 3) (by simp) rfl (L' := [(A2, #[.int .i64 400, .int .i64 900, r3A, .slice none 0 0, .int .i64 0, m3A, .int .i64 1, .int .i64 1000, .int .i64 1500, .slice (some ⟨NA, 0, none⟩) 5 5, .slice none 0 0, .int .i64 2, m4A, .int .i64 3, .int .i64 100, .int .i64 600, r5A, .slice none 0 0, .int .i64 0, m5A, .int .i64 2], 100), (NA, #[.int .i64 0, .int .i64 0, .int .i64 0, .int .i64 0, .int .i64 0, .int .i64 0, .int .i64 0, .int .i64 0, .int .i64 0, .int .i64 0, .int .i64 0, .int .i64 0, .int .i64 0, .int .i64 0, .int .i64 0, .int .i64 0, .int .i64 0, .int .i64 0, .int .i64 0, .int .i64 0], 156), (L1, #[.int .i64 0, .int .i64 1000, r0L, .slice none 0 0, .int .i64 0, .slice (some ⟨NL, 0, none⟩) 5 5, .int .i64 1, .int .i64 0, .int .i64 1000, r1L, .slice none 0 0, .int .i64 1, m1L, .int .i64 1, .int .i64 500, .int .i64 2000, r2L, .slice none 0 0, .int .i64 0, m2L, .int .i64 2], 100), (NL, #[.int .i64 0, .int .i64 0, .int .i64 0, .int .i64 0, .int .i64 0], 3), (P2, #[.slice zw.oa 3 zw.oc, .slice zw.na 3 zw.nc, .slice (some ⟨x2.heap.size, 0, none⟩) 17 17], 33), (P1, #[.slice zm.oa 3 zm.oc, .slice (some ⟨x1.heap.size, 0, none⟩) 9 9, .slice zm.ma 0 zm.mc], 33), (P6, #[.slice (some ⟨K1, 0, none⟩) 3 3, .slice (some ⟨K2, 0, none⟩) 3 3, .slice none 0 0], 33), (P5, #[.slice (some ⟨S1, 0, none⟩) 3 3, .slice (some ⟨S2, 0, none⟩) 3 3, .slice none 0 0], 33), (P4, #[.slice (some ⟨A1, 0, none⟩) 3 3, .slice (some ⟨A2, 0, none⟩) 3 3, .slice none 0 0], 33), (P3, #[.slice (some ⟨L1, 0, none⟩) 3 3, .slice (some ⟨L2, 0, none⟩) 3 3, .slice none 0 0], 33), (L2, #[.int .i64 400, .int .i64 900, r3L, .slice none 0 0, .int .i64 0, m3L, .int .i64 1, .int .i64 1000, .int .i64 1500, r4L, .slice none 0 0, .int .i64 2, m4L, .int .i64 3, .int .i64 100, .int .i64 600, r5L, .slice none 0 0, .int .i64 0, m5L, .int .i64 2], 100), (A1, #[.int .i64 0, .int .i64 1000, r0A, .slice none 0 0, .int .i64 0, m0A, .int .i64 1, .int .i64 0, .int .i64 1000, r1A, .slice none 0 0, .int .i64 1, m1A, .int .i64 1, .int .i64 500, .int .i64 2000, r2A, .slice none 0 0, .int .i64 0, m2A, .int .i64 2], 100), (S2, #[.int .i64 400, .int .i64 900, r3S, .slice none 0 0, .int .i64 0, m3S, .int .i64 1, .int .i64 1000, .int .i64 1500, r4S, .slice none 0 0, .int .i64 2, m4S, .int .i64 3, .int .i64 100, .int .i64 600, r5S, .slice none 0 0, .int .i64 0, m5S, .int .i64 2], 100), (K1, #[.int .i64 0, .int .i64 1000, r0K, .slice none 0 0, .int .i64 0, m0K, .int .i64 1, .int .i64 0, .int .i64 1000, r1K, .slice none 0 0, .int .i64 1, m1K, .int .i64 1, .int .i64 500, .int .i64 2000, r2K, .slice none 0 0, .int .i64 0, m2K, .int .i64 2], 100), (K2, #[.int .i64 400, .int .i64 900, r3K, .slice none 0 0, .int .i64 0, m3K, .int .i64 1, .int .i64 1000, .int .i64 1500, r4K, .slice none 0 0, .int .i64 2, m4K, .int .i64 3, .int .i64 100, .int .i64 600, r5K, .slice none 0 0, .int .i64 0, m5K, .int .i64 2], 100)]) (List.forall_mem_cons.2 ⟨⟨show A2 ≠ S1 by have := HORD.out; omega, (.head _)⟩, List.forall_mem_cons.2 ⟨⟨show NA ≠ S1 by have := HORD.out; omega, (.tail _ (.head _))⟩, List.forall_mem_cons.2 ⟨⟨show L1 ≠ S1 by have := HORD.out; omega, (.tail _ (.tail _ (.head _)))⟩, List.forall_mem_cons.2 ⟨⟨show NL ≠ S1 by have := HORD.out; omega, (.tail _ (.tail _ (.tail _ (.head _))))⟩, List.forall_mem_cons.2 ⟨⟨show P2 ≠ S1 by have := HORD.out; omega, (.tail _ (.tail _ (.tail _ (.tail _ (.head _)))))⟩, List.forall_mem_cons.2 ⟨⟨show P1 ≠ S1 by have := HORD.out; omega, (.tail _ (.tail _ (.tail _ (.tail _ (.tail _ (.head _))))))⟩, List.forall_mem_cons.2 ⟨⟨show P6 ≠ S1 by have := HORD.out; omega, (.tail _ (.tail _ (.tail _ (.tail _ (.tail _ (.tail _ (.head _)))))))⟩, List.forall_mem_cons.2 ⟨⟨show P5 ≠ S1 by have := HORD.out; omega, (.tail _ (.tail _ (.tail _ (.tail _ (.tail _ (.tail _ (.tail _ (.head _))))))))⟩, List.forall_mem_cons.2 ⟨⟨show P4 ≠ S1 by have := HORD.out; omega, (.tail _ (.tail _ (.tail _ (.tail _ (.tail _ (.tail _ (.tail _ (.tail _ (.head _)))))))))⟩, List.forall_mem_cons.2 ⟨⟨show P3 ≠ S1 by have := HORD.out; omega, (.tail _ (.tail _ (.tail _ (.tail _ (.tail _ (.tail _ (.tail _ (.tail _ (.tail _ (.head _))))))))))⟩, List.forall_mem_cons.2 ⟨⟨show L2 ≠ S1 by have := HORD.out; omega, (.tail _ (.tail _ (.tail _ (.tail _ (.tail _ (.tail _ (.tail _ (.tail _ (.tail _ (.tail _ (.head _)))))))))))⟩, List.forall_mem_cons.2 ⟨⟨show A1 ≠ S1 by have := HORD.out; omega, (.tail _ (.tail _ (.tail _ (.tail _ (.tail _ (.tail _ (.tail _ (.tail _ (.tail _ (.tail _ (.tail _ (.head _))))))))))))⟩, List.forall_mem_cons.2 ⟨⟨show S2 ≠ S1 by have := HORD.out; omega, (.tail _ (.tail _ (.tail _ (.tail _ (.tail _ (.tail _ (.tail _ (.tail _ (.tail _ (.tail _ (.tail _ (.tail _ (.tail _ (.head _))))))))))))))⟩, List.forall_mem_cons.2 ⟨⟨show K1 ≠ S1 by have := HORD.out; omega, (.tail _ (.tail _ (.tail _ (.tail _ (.tail _ (.tail _ (.tail _ (.tail _ (.tail _ (.tail _ (.tail _ (.tail _ (.tail _ (.tail _ (.head _)))))))))))))))⟩, List.forall_mem_cons.2 ⟨⟨show K2 ≠ S1 by have := HORD.out; omega, (.tail _ (.tail _ (.tail _ (.tail _ (.tail _ (.tail _ (.tail _ (.tail _ (.tail _ (.tail _ (.tail _ (.tail _ (.tail _ (.tail _ (.tail _ (.head _))))))))))))))))⟩, List.forall_mem_nil _⟩⟩⟩⟩⟩⟩⟩⟩⟩⟩⟩⟩⟩⟩⟩))
    clear HA
    have HA := HA'
    clear HA'
    go_upto_region 16 with fail
    generalize x5b.setCell ⟨S1, 4, none⟩ (.int .i64 3) = x6 at *
    clear c1 fc1 c2 fc2
    have c1 := HA.out.cell (.tail _ (.tail _ (.tail _ (.tail _ (.tail _ (.tail _ (.tail _ (.head _)))))))) 1
    have fc1 := HA.out.thaw (.tail _ (.tail _ (.tail _ (.tail _ (.tail _ (.tail _ (.tail _ (.head _)))))))) 1
    have c2 := HA.out.cell (.tail _ (.tail _ (.tail _ (.tail _ (.tail _ (.tail _ (.tail _ (.tail _ (.tail _ (.tail _ (.tail _ (.tail _ (.tail _ (.tail _ (.tail _ (.head _)))))))))))))))) 5
    have fc2 := HA.out.thaw (.tail _ (.tail _ (.tail _ (.tail _ (.tail _ (.tail _ (.tail _ (.tail _ (.tail _ (.tail _ (.tail _ (.tail _ (.tail _ (.tail _ (.tail _ (.head _)))))))))))))))) 5
    have hl1 := (HA.out.lt (.tail _ (.tail _ (.tail _ (.tail _ (.tail _ (.tail _ (.tail _ (.head _))))))))).2
    have hl2 := (HA.out.lt (.tail _ (.tail _ (.tail _ (.tail _ (.tail _ (.tail _ (.tail _ (.tail _ (.tail _ (.tail _ (.tail _ (.tail _ (.tail _ (.tail _ (.tail _ (.head _))))))))))))))))).2
    have hlt := (HA.out.lt (.tail _ (.tail _ (.tail _ (.tail _ (.tail _ (.tail _ (.tail _ (.head _))))))))).2
    have HSL' := Lib.hid (HSL.out.set (i := 5) (v := .slice (some ⟨x6.heap.size, 0, none⟩) 2 2) (HA.out.bk _ _ _ (.tail _ (.tail _ (.tail _ (.tail _ (.tail _ (.tail _ (.tail _ (.tail _ (.tail _ (.tail _ (.tail _ (.tail _ (.tail _ (.tail _ (.tail _ (.head _))))))))))))))))).2 (.inl rfl))
    clear HSL
    have HSL := HSL'
    clear HSL'
    have HSA' := Lib.hid (HSA.out.set (i := 5) (v := .slice (some ⟨x6.heap.size, 0, none⟩) 2 2) (HA.out.bk _ _ _ (.tail _ (.tail _ (.tail _ (.tail _ (.tail _ (.tail _ (.tail _ (.tail _ (.tail _ (.tail _ (.tail _ (.tail _ (.tail _ (.tail _ (.tail _ (.head _))))))))))))))))).2 (.inl rfl))
    clear HSA
    have HSA := HSA'
    clear HSA'
    have HSS' := Lib.hid (HSS.out.set (i := 5) (v := .slice (some ⟨x6.heap.size, 0, none⟩) 2 2) (HA.out.bk _ _ _ (.tail _ (.tail _ (.tail _ (.tail _ (.tail _ (.tail _ (.tail _ (.tail _ (.tail _ (.tail _ (.tail _ (.tail _ (.tail _ (.tail _ (.tail _ (.head _))))))))))))))))).2 (.inl rfl))
    clear HSS
    have HSS := HSS'
    clear HSS'
    have HSK' := Lib.hid (HSK.out.set (i := 5) (v := .slice (some ⟨x6.heap.size, 0, none⟩) 2 2) (HA.out.bk _ _ _ (.tail _ (.tail _ (.tail _ (.tail _ (.tail _ (.tail _ (.tail _ (.tail _ (.tail _ (.tail _ (.tail _ (.tail _ (.tail _ (.tail _ (.tail _ (.head _))))))))))))))))).2 (.inl rfl))
    clear HSK
    have HSK := HSK'
    clear HSK'
    have HA' := Lib.hid (BF.set1 (i := 5) (cs' := #[.int .i64 400, .int .i64 900, r3K, .slice none 0 0, .int .i64 0, .slice (some ⟨x6.heap.size, 0, none⟩) 2 2, .int .i64 1, .int .i64 1000, .int .i64 1500, r4K, .slice none 0 0, .int .i64 2, m4K, .int .i64 3, .int .i64 100, .int .i64 600, r5K, .slice none 0 0, .int .i64 0, m5K, .int .i64 2]) HA.out (.tail _ (.tail _ (.tail _ (.tail _ (.tail _ (.tail _ (.tail _ (.tail _ (.tail _ (.tail _ (.tail _ (.tail _ (.tail _ (.tail _ (.tail _ (.head _)))))))))))))))) (.slice (some ⟨x6.heap.size, 0, none⟩) 2 2) (by simp) rfl (L' := [(S1, #[.int .i64 0, .int .i64 1000, r0S, .slice none 0 0, .int .i64 3, m0S, .int .i64 1, .int .i64 0, .int .i64 1000, r1S, .slice none 0 0, .int .i64 1, m1S, .int .i64 1, .int .i64 500, .int .i64 2000, r2S, .slice none 0 0, .int .i64 0, m2S, .int .i64 2], 100), (A2, #[.int .i64 400, .int .i64 900, r3A, .slice none 0 0, .int .i64 0, m3A, .int .i64 1, .int .i64 1000, .int .i64 1500, .slice (some ⟨NA, 0, none⟩) 5 5, .slice none 0 0, .int .i64 2, m4A, .int .i64 3, .int .i64 100, .int .i64 600, r5A, .slice none 0 0, .int .i64 0, m5A, .int .i64 2], 100), (NA, #[.int .i64 0, .int .i64 0, .int .i64 0, .int .i64 0, .int .i64 0, .int .i64 0, .int .i64 0, .int .i64 0, .int .i64 0, .int .i64 0, .int .i64 0, .int .i64 0, .int .i64 0, .int .i64 0, .int .i64 0, .int .i64 0, .int .i64 0, .int .i64 0, .int .i64 0, .int .i64 0], 156), (L1, #[.int .i64 0, .int .i64 1000, r0L, .slice none 0 0, .int .i64 0, .slice (some ⟨NL, 0, none⟩) 5 5, .int .i64 1, .int .i64 0, .int .i64 1000, r1L, .slice none 0 0, .int .i64 1, m1L, .int .i64 1, .int .i64 500, .int .i64 2000, r2L, .slice none 0 0, .int .i64 0, m2L, .int .i64 2], 100), (NL, #[.int .i64 0, .int .i64 0, .int .i64 0, .int .i64 0, .int .i64 0], 3), (P2, #[.slice zw.oa 3 zw.oc, .slice zw.na 3 zw.nc, .slice (some ⟨x2.heap.size, 0, none⟩) 17 17], 33), (P1, #[.slice zm.oa 3 zm.oc, .slice (some ⟨x1.heap.size, 0, none⟩) 9 9, .slice zm.ma 0 zm.mc], 33), (P6, #[.slice (some ⟨K1, 0, none⟩) 3 3, .slice (some ⟨K2, 0, none⟩) 3 3, .slice none 0 0], 33), (P5, #[.slice (some ⟨S1, 0, none⟩) 3 3, .slice (some ⟨S2, 0, none⟩) 3 3, .slice none 0 0], 33), (P4, #[.slice (some ⟨A1, 0, none⟩) 3 3, .slice (some ⟨A2, 0, none⟩) 3 3, .slice none 0 0], 33), (P3, #[.slice (some ⟨L1, 0, none⟩) 3 3, .slice (some ⟨L2, 0, none⟩) 3 3, .slice none 0 0], 33), (L2, #[.int .i64 400, .int .i64 900, r3L, .slice none 0 0, .int .i64 0, m3L, .int .i64 1, .int .i64 1000, .int .i64 1500, r4L, .slice none 0 0, .int .i64 2, m4L, .int .i64 3, .int .i64 100, .int .i64 600, r5L, .slice none 0 0, .int .i64 0, m5L, .int .i64 2], 100), (A1, #[.int .i64 0, .int .i64 1000, r0A, .slice none 0 0, .int .i64 0, m0A, .int .i64 1, .int .i64 0, .int .i64 1000, r1A, .slice none 0 0, .int .i64 1, m1A, .int .i64 1, .int .i64 500, .int .i64 2000, r2A, .slice none 0 0, .int .i64 0, m2A, .int .i64 2], 100), (S2, #[.int .i64 400, .int .i64 900, r3S, .slice none 0 0, .int .i64 0, m3S, .int .i64 1, .int .i64 1000, .int .i64 1500, r4S, .slice none 0 0, .int .i64 2, m4S, .int .i64 3, .int .i64 100, .int .i64 600, r5S, .slice none 0 0, .int .i64 0, m5S, .int .i64 2], 100), (K1, #[.int .i64 0, .int .i64 1000, r0K, .slice none 0 0, .int .i64 0, m0K, .int .i64 1, .int .i64 0, .int .i64 1000, r1K, .slice none 0 0, .int .i64 1, m1K, .int .i64 1, .int .i64 500, .int .i64 2000, r2K, .slice none 0 0, .int .i64 0, m2K, .int .i64 2], 100)]) (List.forall_mem_cons.2 ⟨⟨show S1 ≠ K2 by have := HORD.out; omega, (.head _)⟩, List.forall_mem_cons.2 ⟨⟨show A2 ≠ K2 by have := HORD.out; omega, (.tail _ (.head _))⟩, List.forall_mem_cons.2 ⟨⟨show NA ≠ K2 by have := HORD.out; omega, (.tail _ (.tail _ (.head _)))⟩, List.forall_mem_cons.2 ⟨⟨show L1 ≠ K2 by have := HORD.out; omega, (.tail _ (.tail _ (.tail _ (.head _))))⟩, List.forall_mem_cons.2 ⟨⟨show NL ≠ K2 by have := HORD.out; omega, (.tail _ (.tail _ (.tail _ (.tail _ (.head _)))))⟩, List.forall_mem_cons.2 ⟨⟨show P2 ≠ K2 by have := HORD.out; omega, (.tail _ (.tail _ (.tail _ (.tail _ (.tail _ (.head _))))))⟩, List.forall_mem_cons.2 ⟨⟨show P1 ≠ K2 by have := HORD.out; omega, (.tail _ (.tail _ (.tail _ (.tail _ (.tail _ (.tail _ (.head _)))))))⟩, List.forall_mem_cons.2 ⟨⟨show P6 ≠ K2 by have := HORD.out; omega, (.tail _ (.tail _ (.tail _ (.tail _ (.tail _ (.tail _ (.tail _ (.head _))))))))⟩, List.forall_mem_cons.2 ⟨⟨show P5 ≠ K2 by have := HORD.out; omega, (.tail _ (.tail _ (.tail _ (.tail _ (.tail _ (.tail _ (.tail _ (.tail _ (.head _)))))))))⟩, List.forall_mem_cons.2 ⟨⟨show P4 ≠ K2 by have := HORD.out; omega, (.tail _ (.tail _ (.tail _ (.tail _ (.tail _ (.tail _ (.tail _ (.tail _ (.tail _ (.head _))))))))))⟩, List.forall_mem_cons.2 ⟨⟨show P3 ≠ K2 by have := HORD.out; omega, (.tail _ (.tail _ (.tail _ (.tail _ (.tail _ (.tail _ (.tail _ (.tail _ (.tail _ (.tail _ (.head _)))))))))))⟩, List.forall_mem_cons.2 ⟨⟨show L2 ≠ K2 by have := HORD.out; omega, (.tail _ (.tail _ (.tail _ (.tail _ (.tail _ (.tail _ (.tail _ (.tail _ (.tail _ (.tail _ (.tail _ (.head _))))))))))))⟩, List.forall_mem_cons.2 ⟨⟨show A1 ≠ K2 by have := HORD.out; omega, (.tail _ (.tail _ (.tail _ (.tail _ (.tail _ (.tail _ (.tail _ (.tail _ (.tail _ (.tail _ (.tail _ (.tail _ (.head _)))))))))))))⟩, List.forall_mem_cons.2 ⟨⟨show S2 ≠ K2 by have := HORD.out; omega, (.tail _ (.tail _ (.tail _ (.tail _ (.tail _ (.tail _ (.tail _ (.tail _ (.tail _ (.tail _ (.tail _ (.tail _ (.tail _ (.head _))))))))))))))⟩, List.forall_mem_cons.2 ⟨⟨show K1 ≠ K2 by have := HORD.out; omega, (.tail _ (.tail _ (.tail _ (.tail _ (.tail _ (.tail _ (.tail _ (.tail _ (.tail _ (.tail _ (.tail _ (.tail _ (.tail _ (.tail _ (.head _)))))))))))))))⟩, List.forall_mem_nil _⟩⟩⟩⟩⟩⟩⟩⟩⟩⟩⟩⟩⟩⟩⟩))
    clear HA
    have HA := HA'
    clear HA'
    have hsz : (x6.setCell ⟨K2, 5, none⟩ (.slice (some ⟨x6.heap.size, 0, none⟩) 2 2)).heap.size = x6.heap.size := by simp
    have HSL' := Lib.hid (HSL.out.below (below_alloc (x6.setCell ⟨K2, 5, none⟩ (.slice (some ⟨x6.heap.size, 0, none⟩) 2 2)) (.cells #[.int .i64 5, .int .i64 5] 3)))
    clear HSL
    have HSL := HSL'
    clear HSL'
    have HSA' := Lib.hid (HSA.out.below (below_alloc (x6.setCell ⟨K2, 5, none⟩ (.slice (some ⟨x6.heap.size, 0, none⟩) 2 2)) (.cells #[.int .i64 5, .int .i64 5] 3)))
    clear HSA
    have HSA := HSA'
    clear HSA'
    have HSS' := Lib.hid (HSS.out.below (below_alloc (x6.setCell ⟨K2, 5, none⟩ (.slice (some ⟨x6.heap.size, 0, none⟩) 2 2)) (.cells #[.int .i64 5, .int .i64 5] 3)))
    clear HSS
    have HSS := HSS'
    clear HSS'
    have HSK' := Lib.hid (HSK.out.below (below_alloc (x6.setCell ⟨K2, 5, none⟩ (.slice (some ⟨x6.heap.size, 0, none⟩) 2 2)) (.cells #[.int .i64 5, .int .i64 5] 3)))
    clear HSK
    have HSK := HSK'
    clear HSK'
    have HA' := Lib.hid (HA.out.alloc #[.int .i64 5, .int .i64 5] 3)
    clear HA
    have HA := HA'
    clear HA'
    rw [hsz] at HA
    clear hsz
    go_upto_region 17 with fail
    generalize ((x6.setCell ⟨K2, 5, none⟩ (.slice (some ⟨x6.heap.size, 0, none⟩) 2 2)).alloc (.cells #[.int .i64 5, .int .i64 5] 3)) = x7 at *
    have hln : x6.heap.size = x6.heap.size := rfl
    clear hln
    have HLT : Hid (P6 < x6.heap.size) := hlt
    clear hlt
    generalize x6.heap.size = NK at *
    clear hl1 hl2
    clear c1 fc1 c2 fc2
    obtain ⟨w0, w1, w2, w3, w4, w5⟩ := HQL.out _ HSL.out
    have HCL := Lib.hid (nmCheck (e0 := longE) (e1 := o1) (e2 := o2) (e3 := n0) (e4 := n1) (e5 := n2) (V0 := (r0L, .slice none 0 0, .slice (some ⟨NL, 0, none⟩) 5 5)) (V1 := (r1L, .slice none 0 0, m1L)) (V2 := (r2L, .slice none 0 0, m2L)) (V3' := (r3L, .slice none 0 0, m3L)) (V4 := (r4L, .slice none 0 0, m4L)) (V5 := (r5L, .slice none 0 0, m5L)) HA.out (.tail _ (.tail _ (.tail _ (.tail _ (.tail _ (.head _)))))) (.tail _ (.tail _ (.tail _ (.tail _ (.tail _ (.tail _ (.tail _ (.tail _ (.tail _ (.tail _ (.tail _ (.tail _ (.tail _ (.head _)))))))))))))) rfl rfl ⟨w0.1, w0.2.1, zeros5 (HA.out.bk _ _ _ (.tail _ (.tail _ (.tail _ (.tail _ (.tail _ (.tail _ (.head _)))))))).2, w0.2.2.2.1, w0.2.2.2.2.1, (by decide : (5 : Nat) ≤ 100000)⟩ w1 w2 w3 w4 w5 fault_long)
    clear w0 w1 w2 w3 w4 w5 HQL HSL
    obtain ⟨w0, w1, w2, w3, w4, w5⟩ := HQA.out _ HSA.out
    have HCA := Lib.hid (nmCheck (e0 := o0) (e1 := o1) (e2 := o2) (e3 := n0) (e4 := badE) (e5 := n2) (V0 := (r0A, .slice none 0 0, m0A)) (V1 := (r1A, .slice none 0 0, m1A)) (V2 := (r2A, .slice none 0 0, m2A)) (V3' := (r3A, .slice none 0 0, m3A)) (V4 := (.slice (some ⟨NA, 0, none⟩) 5 5, .slice none 0 0, m4A)) (V5 := (r5A, .slice none 0 0, m5A)) HA.out (.tail _ (.tail _ (.tail _ (.tail _ (.tail _ (.tail _ (.tail _ (.tail _ (.tail _ (.tail _ (.tail _ (.tail _ (.tail _ (.tail _ (.head _))))))))))))))) (.tail _ (.tail _ (.tail _ (.head _)))) rfl rfl w0 w1 w2 w3 ⟨rules5 (HA.out.bk _ _ _ (.tail _ (.tail _ (.tail _ (.tail _ (.head _)))))).2, w4.2.1, w4.2.2.1, (by decide : (5 : Nat) ≤ 100000), w4.2.2.2.2.1, w4.2.2.2.2.2⟩ w5 fault_bad)
    clear w0 w1 w2 w3 w4 w5 HQA HSA
    obtain ⟨w0, w1, w2, w3, w4, w5⟩ := HQS.out _ HSS.out
    have HCS := Lib.hid (nmCheck (e0 := sexE) (e1 := o1) (e2 := o2) (e3 := n0) (e4 := n1) (e5 := n2) (V0 := (r0S, .slice none 0 0, m0S)) (V1 := (r1S, .slice none 0 0, m1S)) (V2 := (r2S, .slice none 0 0, m2S)) (V3' := (r3S, .slice none 0 0, m3S)) (V4 := (r4S, .slice none 0 0, m4S)) (V5 := (r5S, .slice none 0 0, m5S)) HA.out (.tail _ (.tail _ (.head _))) (.tail _ (.tail _ (.tail _ (.tail _ (.tail _ (.tail _ (.tail _ (.tail _ (.tail _ (.tail _ (.tail _ (.tail _ (.tail _ (.tail _ (.tail _ (.head _)))))))))))))))) rfl rfl w0 w1 w2 w3 w4 w5 fault_sex)
    clear w0 w1 w2 w3 w4 w5 HQS HSS
    obtain ⟨w0, w1, w2, w3, w4, w5⟩ := HQK.out _ HSK.out
    have HCK := Lib.hid (nmCheck (e0 := o0) (e1 := o1) (e2 := o2) (e3 := keyE) (e4 := n1) (e5 := n2) (V0 := (r0K, .slice none 0 0, m0K)) (V1 := (r1K, .slice none 0 0, m1K)) (V2 := (r2K, .slice none 0 0, m2K)) (V3' := (r3K, .slice none 0 0, .slice (some ⟨NK, 0, none⟩) 2 2)) (V4 := (r4K, .slice none 0 0, m4K)) (V5 := (r5K, .slice none 0 0, m5K)) HA.out (.tail _ (.tail _ (.tail _ (.tail _ (.tail _ (.tail _ (.tail _ (.tail _ (.tail _ (.tail _ (.tail _ (.tail _ (.tail _ (.tail _ (.tail _ (.tail _ (.head _))))))))))))))))) (.tail _ (.head _)) rfl rfl w0 w1 w2 ⟨w3.1, w3.2.1, ints_row (l := [5, 5]) (n := 2) (HA.out.bk _ _ _ (.head _)).2 rfl rfl, w3.2.2.2.1, w3.2.2.2.2.1, (by decide : (2 : Nat) ≤ 100000)⟩ w4 w5 fault_key)
    clear w0 w1 w2 w3 w4 w5 HQK HSK
    have HA' := Lib.hid (HA.out.sub (L' := [(P2, #[.slice zw.oa 3 zw.oc, .slice zw.na 3 zw.nc, .slice (some ⟨x2.heap.size, 0, none⟩) 17 17], 33), (P1, #[.slice zm.oa 3 zm.oc, .slice (some ⟨x1.heap.size, 0, none⟩) 9 9, .slice zm.ma 0 zm.mc], 33), (P6, #[.slice (some ⟨K1, 0, none⟩) 3 3, .slice (some ⟨K2, 0, none⟩) 3 3, .slice none 0 0], 33), (P5, #[.slice (some ⟨S1, 0, none⟩) 3 3, .slice (some ⟨S2, 0, none⟩) 3 3, .slice none 0 0], 33), (P4, #[.slice (some ⟨A1, 0, none⟩) 3 3, .slice (some ⟨A2, 0, none⟩) 3 3, .slice none 0 0], 33), (P3, #[.slice (some ⟨L1, 0, none⟩) 3 3, .slice (some ⟨L2, 0, none⟩) 3 3, .slice none 0 0], 33)]) (List.forall_mem_cons.2 ⟨(.tail _ (.tail _ (.tail _ (.tail _ (.tail _ (.tail _ (.tail _ (.head _)))))))), List.forall_mem_cons.2 ⟨(.tail _ (.tail _ (.tail _ (.tail _ (.tail _ (.tail _ (.tail _ (.tail _ (.head _))))))))), List.forall_mem_cons.2 ⟨(.tail _ (.tail _ (.tail _ (.tail _ (.tail _ (.tail _ (.tail _ (.tail _ (.tail _ (.head _)))))))))), List.forall_mem_cons.2 ⟨(.tail _ (.tail _ (.tail _ (.tail _ (.tail _ (.tail _ (.tail _ (.tail _ (.tail _ (.tail _ (.head _))))))))))), List.forall_mem_cons.2 ⟨(.tail _ (.tail _ (.tail _ (.tail _ (.tail _ (.tail _ (.tail _ (.tail _ (.tail _ (.tail _ (.tail _ (.head _)))))))))))), List.forall_mem_cons.2 ⟨(.tail _ (.tail _ (.tail _ (.tail _ (.tail _ (.tail _ (.tail _ (.tail _ (.tail _ (.tail _ (.tail _ (.tail _ (.head _))))))))))))), List.forall_mem_nil _⟩⟩⟩⟩⟩⟩))
    clear HA
    have HA := HA'
    clear HA'
    have HX : Hid (Below x7.heap.size x7 x7) := Below.refl _ _
    clear HORD HB
    go_wp2_with fail
    refine (nmPairs0 _).mono ?_
    rintro _ v1 ⟨qa, qc, rfl, hb⟩
    have HA' := Lib.hid (HA.out.below hb)
    clear HA
    have HA := HA'
    clear HA'
    have HX' := Lib.hid (HX.out.trans (hb.mono HX.out.size))
    clear HX
    have HX := HX'
    clear HX'
    clear hb
    have u0 := HA.out.cell (.tail _ (.head _)) 0
    have u1 := HA.out.cell (.tail _ (.head _)) 1
    have u2 := HA.out.cell (.tail _ (.head _)) 2
    go_wp2_with fail
    refine (nmMany _ _ _ _ _ _ _).mono ?_
    rintro _ v2 ⟨rfl, hb⟩
    have HA' := Lib.hid (HA.out.below hb)
    clear HA
    have HA := HA'
    clear HA'
    have HX' := Lib.hid (HX.out.trans (hb.mono HX.out.size))
    clear HX
    have HX := HX'
    clear HX'
    clear hb u0 u1 u2
    have u0 := HA.out.cell (.head _) 0
    have u1 := HA.out.cell (.head _) 1
    have u2 := HA.out.cell (.head _) 2
    go_wp2_with fail
    refine (nmWide _ _ _ _ _ _ _).mono ?_
    rintro _ v3 ⟨rfl, hb⟩
    have HA' := Lib.hid (HA.out.below hb)
    clear HA
    have HA := HA'
    clear HA'
    have HX' := Lib.hid (HX.out.trans (hb.mono HX.out.size))
    clear HX
    have HX := HX'
    clear HX'
    clear hb u0 u1 u2
    have u0 := HA.out.cell (.tail _ (.tail _ (.tail _ (.tail _ (.tail _ (.head _)))))) 0
    have u1 := HA.out.cell (.tail _ (.tail _ (.tail _ (.tail _ (.tail _ (.head _)))))) 1
    have u2 := HA.out.cell (.tail _ (.tail _ (.tail _ (.tail _ (.tail _ (.head _)))))) 2
    go_wp2_with fail
    refine (HCL.out _ HX.out).mono ?_
    rintro _ v4 ⟨rfl, hb⟩
    have HA' := Lib.hid (HA.out.below hb)
    clear HA
    have HA := HA'
    clear HA'
    have HX' := Lib.hid (HX.out.trans (hb.mono HX.out.size))
    clear HX
    have HX := HX'
    clear HX'
    clear hb u0 u1 u2
    have u0 := HA.out.cell (.tail _ (.tail _ (.tail _ (.tail _ (.head _))))) 0
    have u1 := HA.out.cell (.tail _ (.tail _ (.tail _ (.tail _ (.head _))))) 1
    have u2 := HA.out.cell (.tail _ (.tail _ (.tail _ (.tail _ (.head _))))) 2
    go_wp2_with fail
    refine (HCA.out _ HX.out).mono ?_
    rintro _ v5 ⟨rfl, hb⟩
    have HA' := Lib.hid (HA.out.below hb)
    clear HA
    have HA := HA'
    clear HA'
    have HX' := Lib.hid (HX.out.trans (hb.mono HX.out.size))
    clear HX
    have HX := HX'
    clear HX'
    clear hb u0 u1 u2
    have u0 := HA.out.cell (.tail _ (.tail _ (.tail _ (.head _)))) 0
    have u1 := HA.out.cell (.tail _ (.tail _ (.tail _ (.head _)))) 1
    have u2 := HA.out.cell (.tail _ (.tail _ (.tail _ (.head _)))) 2
    go_wp2_with fail
    refine (HCS.out _ HX.out).mono ?_
    rintro _ v6 ⟨rfl, hb⟩
    have HA' := Lib.hid (HA.out.below hb)
    clear HA
    have HA := HA'
    clear HA'
    have HX' := Lib.hid (HX.out.trans (hb.mono HX.out.size))
    clear HX
    have HX := HX'
    clear HX'
    clear hb u0 u1 u2
    have u0 := HA.out.cell (.tail _ (.tail _ (.head _))) 0
    have u1 := HA.out.cell (.tail _ (.tail _ (.head _))) 1
    have u2 := HA.out.cell (.tail _ (.tail _ (.head _))) 2
    go_wp2_with fail
    refine (HCK.out _ HX.out).mono ?_
    rintro _ v7 ⟨rfl, hb⟩
    have HA' := Lib.hid (HA.out.below hb)
    clear HA
    have HA := HA'
    clear HA'
    have HX' := Lib.hid (HX.out.trans (hb.mono HX.out.size))
    clear HX
    have HX := HX'
    clear HX'
    clear hb u0 u1 u2
    go_wp2_with fail
    refine (awake5_any _).mono ?_
    rintro _ v8 ⟨rfl, hb⟩
    have HA' := Lib.hid (HA.out.below hb)
    clear HA
    have HA := HA'
    clear HA'
    have HX' := Lib.hid (HX.out.trans (hb.mono HX.out.size))
    clear HX
    have HX := HX'
    clear HX'
    clear hb
    go_wp2_with fail
    go_ret
    exact ⟨rfl, HA.out.fr⟩
end Go.Proofs.YtgbdbikjckfgmaaGreat
namespace Go.Proofs.YtgbdbikjckfgmaaGreat
open Go.ChangeShapes Go.WideShapes Go.ChangeAt Go.RowKit
set_option maxRecDepth 100000 in
theorem linkNames_lifted (os : Os) (started : os.Started) (H : Type) (enc : TypeId × Value → H) :
    ReturnsInHanded {} Tryz.checked os 15 .any (Rows.linkNamesSpec.pre6 enc Tryz.prog Tryz.f15 Rows.linkNamesRow.domain false) (Rows.linkNamesSpec.post enc Tryz.prog Tryz.f15 false true false false) := by
  refine returnsInHanded_of_change (C := Tryz.checked) Tryz.own started (by kernel_rfl) Tryz.func15
    (ChangeSpec.witness6 (enc := enc) (C := Tryz.checked) false ⟨#[], #[], []⟩ 8 (by kernel_rfl) (by kernel_rfl) (by kernel_rfl) (by kernel_rfl)) ?_
  intro W base args ds gs before hval0 hW hcnd _
  have hval : ∀ (j : Nat) t v, Tryz.f15.params[j]? = some t → args[j]? = some v → Value.okWide Tryz.prog W .any base t v := hval0
  have hW' := hW
  obtain ⟨p, q, hA0, hV, hpq, hfz, hnd⟩ := hW
  have hA : DataW.TrodAll enc Tryz.prog W 0 (fun _ => true) true Tryz.f15.params.toList args.toList ds p := hA0
  rw [Tryz.params15] at hA hval
  obtain ⟨hargs, hds, hp⟩ := trodAll_nil hA
  obtain rfl : args = #[] := by apply Array.ext'; simpa using hargs
  subst hds hp
  refine (linkNames_walk W).mono fun e W' ⟨he, hb⟩ => ?_
  subst he
  exact ⟨_, rfl, law_post rfl rfl (by rw [Tryz.params15]; intro t ht; cases ht) (fun _ => rfl) hW' hb⟩
end Go.Proofs.YtgbdbikjckfgmaaGreat
