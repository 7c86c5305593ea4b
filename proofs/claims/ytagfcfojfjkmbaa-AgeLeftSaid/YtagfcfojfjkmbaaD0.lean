/- The chapter's examples, reckoned. -/
import Derived.Test.YtagfcfojfjkmbaaC9
namespace Go.Proofs.Ytagfcfojfjkmbaa

/-- The chapter's person, with some more records. -/
def someP (l : List Rc) : Pers := ⟨0, 20000, 2, fun j => if j = 0 then ⟨0, 1, 0, 0⟩ else ⟨20, 5, 1, 1⟩, l.length + 1, fun j => (⟨10000, 1, 25⟩ :: l).getD j ⟨0, 0, 0⟩⟩

theorem ex_true : rngs (agesF 20 5 1 1 20 126) 121 = [(19, 23)] := by decide +kernel
def exA : List Rc := [⟨12000, 0, 30⟩]
def exB : List Rc := [⟨12000, 0, 30⟩, ⟨12000, 0, 40⟩]
theorem ex_faultA : (someP exA).fault = 0 := by decide +kernel
theorem ex_faultB : (someP exB).fault = 0 := by decide +kernel
theorem ex_daysA : (someP exA).days = [(686, 1050)] := by decide +kernel
theorem ex_bornA : (someP exA).born = [(686, 1050)] := by unfold Pers.born; rw [if_pos ex_faultA, ex_daysA]
theorem ex_bErrA : (someP exA).bErr = 0 := by unfold Pers.bErr; rw [ex_daysA, ex_faultA]; decide
theorem ex_onEA : (someP exA).onE 10950 = 0 := by unfold Pers.onE; rw [ex_bornA, if_pos ex_faultA]; decide
theorem ex_onA : (someP exA).on 10950 = [(27, 28)] := by unfold Pers.on; rw [if_pos ex_onEA, ex_bornA]; decide +kernel
theorem ex_heapE : heapE (fun j => [20, 25, 31, 40].getD j 0) 4 5 = 0 := by decide +kernel
theorem ex_heapR : heapR (fun j => [20, 25, 31, 40].getD j 0) 4 5 = 3750 := by decide +kernel
theorem ex_leaveB : (someP exB).leave = [2] := by unfold Pers.leave; rw [if_pos ex_faultB]; decide +kernel
end Go.Proofs.Ytagfcfojfjkmbaa
