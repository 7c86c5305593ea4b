/- Link: what LinkNames needs (3 of 3). -/
import Derived.Test.YtgbdbikjckfgmaaGreatND
import Derived.Test.YtgbdbikjckfgmaaGreatSB
import Derived.Carry
import Derived.Lib.SmallJoins
import Derived.Maps.Keyed
import Derived.Maps.Views
import Derived.OpenShut
import Derived.ProofKit
import Derived.WalkSpells
namespace Go.Proofs.YtgbdbikjckfgmaaGreat
open Go.ChangeShapes Go.WideShapes Go.ChangeAt Go.RowKit
theorem linkNames_holds : Rows.LinkNamesSaid :=
  OpenClaim.holds_of_wide 15 Tryz.f15 rfl rfl rfl rfl rfl rfl rfl ⟨rfl, rfl, rfl, rfl, rfl⟩ rfl rfl rfl rfl rfl (by kernel_rfl) Tryz.func15 (by kernel_rfl)
    (of_decide_eq_true (by kernel_rfl)) (by unfold Func.isWrapper; first | (rw [if_pos (by decide +kernel)]; kernel_rfl) | (rw [if_neg (by decide +kernel)]; exact ⟨rfl, rfl⟩))
    (fun os started H enc _ => linkNames_lifted os started H enc)
end Go.Proofs.YtgbdbikjckfgmaaGreat
