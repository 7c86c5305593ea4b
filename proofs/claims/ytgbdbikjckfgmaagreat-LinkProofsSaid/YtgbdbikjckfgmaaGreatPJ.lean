/- Link: the reference's sizes are those of the code. -/
import Derived.Test.YtgbdbikjckfgmaaGreatPI
import Derived.Test.YtgbdbikjckfgmaaGreatOB
namespace Go.Proofs.YtgbdbikjckfgmaaGreat
open Go.RowKit Go.Shelf

theorem OkF.rMost {f : Fl} (h : OkF f) : mostR f.g = f.most := best_of_mx h.g8 h.mx0
theorem OkF.mostS {f : Fl} (h : OkF f) (S : List (Int × Int)) : mostR (offG f.g (SK S)) = (f.m S).2 := best_of_mx (offG_8 h.g8) (h.mx S)
theorem OkF.rSure {f : Fl} (h : OkF f) (i k : Nat) : (f.g i k && decide (mostR (offG f.g (oneS i k)) < mostR f.g)) = (f.g i k && f.sure i k) := by
  rw [← SK_one, h.mostS, h.rMost]; unfold Fl.sure; congr 1; apply decide_eq_decide.2; omega
theorem OkF.rPoss {f : Fl} (h : OkF f) (i k : Nat) : (f.g i k && decide (1 + mostR (offG f.g (twoS i k)) = mostR f.g)) = (f.g i k && f.poss i k) := by
  rw [← SK_two, h.mostS, h.rMost]; unfold Fl.poss Fl.cost; congr 1; apply decide_eq_decide.2; omega
theorem OkF.rCost {f : Fl} (h : OkF f) (i k : Nat) : mostR f.g - 1 - mostR (offG f.g (twoS i k)) = f.cost i k := by
  rw [← SK_two, h.mostS, h.rMost]; rfl
theorem OkF.rAlO {f : Fl} (h : OkF f) (i : Nat) : decide (mostR (offG f.g (rowS i)) < mostR f.g) = f.alO i := by
  rw [← SK_row, h.mostS, h.rMost]; unfold Fl.alO; apply decide_eq_decide.2; omega
theorem OkF.rAlN {f : Fl} (h : OkF f) (k : Nat) : decide (mostR (offG f.g (colS k)) < mostR f.g) = f.alN k := by
  rw [← SK_col, h.mostS, h.rMost]; unfold Fl.alN; apply decide_eq_decide.2; omega
theorem ints_own {W : World} {base : Nat} {T : TypeId} {a : Option Addr} {n c : Nat} {l : List Nat} (h : W.ownsRow base T 1 (.slice a l.length c) l.length (flN l)) (_ : n = l.length) : IntsIn W (.slice a l.length c) l.length (nz l) := IntsIn.own h
theorem OkF.rS {f : Fl} (h : OkF f) (i k : Nat) : (f.g i k && decide (mostR (offG f.g (oneS i k)) < mostR f.g)) = f.qS i k := by unfold Fl.qS; exact h.rSure i k
theorem OkF.rP {f : Fl} (h : OkF f) (i k : Nat) : (f.g i k && decide (1 + mostR (offG f.g (twoS i k)) = mostR f.g)) = f.qP i k := by unfold Fl.qP; exact h.rPoss i k
theorem isSureQ {f : Fl} (OK : OkF f) (i k : Nat) (X : World) (hi : i < 8) (hk : k < 8) : Calls Tryz.prog 45 #[.agg (a8 (gI f.g)), .int .i64 (i : Int), .int .i64 (k : Int)] X fun e w' => e = .returned (.bool (f.qS i k)) ∧ Below X.heap.size X w' := by
  rw [← OK.rS]
  exact isSure_any f.g i k X hi hk
theorem isPossQ {f : Fl} (OK : OkF f) (i k : Nat) (X : World) (hi : i < 8) (hk : k < 8) : Calls Tryz.prog 46 #[.agg (a8 (gI f.g)), .int .i64 (i : Int), .int .i64 (k : Int)] X fun e w' => e = .returned (.bool (f.qP i k)) ∧ Below X.heap.size X w' := by
  rw [← OK.rP]
  exact isPoss_any f.g i k X hi hk
end Go.Proofs.YtgbdbikjckfgmaaGreat
