/- Walk, plain: facts about sets of at most 8 places, by trying all. -/
import Derived.Test.YtpnkgjkoophckaaWY
namespace Go.Proofs.Ytpnkgjkoophckaa

theorem sub_xor : ∀ s p : Fin 256, (p : Nat) &&& (s : Nat) = (p : Nat) → (s : Nat) - (p : Nat) = (s : Nat) ^^^ (p : Nat) := by decide +kernel
theorem subs_all : ∀ s p : Fin 256, (p : Nat) &&& (s : Nat) = (p : Nat) → 0 < (p : Nat) → (subs s).contains (p : Nat) = true := by decide +kernel
def lowb (s : Nat) : Nat := ((List.range 8).find? (fun i => s.testBit i)).getD 0
theorem lowb_in : ∀ s : Fin 256, 0 < (s : Nat) → (s : Nat).testBit (lowb s) = true := by decide +kernel
theorem noF_low : ∀ s p : Fin 256, 0 < (s : Nat) → (p : Nat) &&& (s : Nat) = (p : Nat) → noF s p = !(p : Nat).testBit (lowb s) := by decide +kernel
end Go.Proofs.Ytpnkgjkoophckaa
