/- Walk: rows of 256 times; the reference's Toured and Whole. By hand. -/
import Derived.Test.YtpnkgjkoophckaaVR
namespace Go.Proofs.Ytpnkgjkoophckaa
open Go.RowKit Go.Shelf

theorem BF.setrow {w X : World} {L : List (Nat × Array Value × TypeId)} {b : Nat} {cs cs' : Array Value} {T : TypeId} (h : BF w X L) (hb : (b, cs, T) ∈ L) {L' : List (Nat × Array Value × TypeId)} (hl : ∀ y, y ∈ L' → y.1 ≠ b ∧ y ∈ L) : BF w (X.setRow b cs') ((b, cs', T) :: L') := by
  obtain ⟨hb1, hb2⟩ := h.bk b _ _ hb
  refine ⟨h.fr.trans ⟨rfl, rfl, rfl, by simp [World.setRow], fun q hq => setRow_other _ _ _ _ (by omega)⟩, fun b' cs2 T' hm => ?_⟩
  rcases List.mem_cons.1 hm with hm | hm
  · cases hm
    exact ⟨hb1, setRow_heap _ _ _ _ _ _ hb2⟩
  · obtain ⟨hn, hm2⟩ := hl _ hm
    obtain ⟨q1, q2⟩ := h.bk _ _ _ hm2
    exact ⟨q1, (setRow_other _ _ _ _ hn).trans q2⟩
/-- 256 times. -/
def t256 (F : Nat → Int) : Array Value := eA (fun j => .int .i64 (F j)) 256
theorem t256_size (F : Nat → Int) : (t256 F).size = 256 := by simp [t256, eA]
theorem t256_get (F : Nat → Int) {k : Nat} (h : k < 256) : (t256 F)[k]? = some (.int .i64 (F k)) := eA_get (fun j => .int .i64 (F j)) h
theorem t256_set (F : Nat → Int) {k : Nat} (v : Int) (h : k < 256) : (t256 F).setIfInBounds k (.int .i64 v) = t256 fun j => if j = k then v else F j := by
  unfold t256
  rw [eA_set _ _ h]
  congr 1
  funext j
  by_cases e : j = k
  · rw [if_pos e]; simp only; rw [if_pos e]
  · rw [if_neg e]; simp only; rw [if_neg e]
theorem t256_one (F : Nat → Int) : (t256 F).all (·.oneCell') = true := by
  rw [Array.all_eq_true]
  intro i hi
  have h1 : i < 256 := by rw [t256_size] at hi; exact hi
  have h2 := t256_get F h1
  rw [Array.getElem?_eq_getElem hi] at h2
  injection h2 with h2
  rw [h2]; rfl
theorem t256_info (F : Nat → Int) : (Try.prog.info? 58).map (fun i => i.size) = some (t256 F).size := by rw [t256_size]; kernel_rfl
/-- What Toured has when k sets are done. -/
def touD (m : Mp) (k j : Nat) : Int := if j < k then tuM m j else 0
theorem touD_zero (m : Mp) : touD m 0 = fun _ => 0 := by
  funext j; unfold touD; rw [if_neg (Nat.not_lt_zero j)]
theorem touD_step (m : Mp) (k : Nat) : (fun j => if j = k then tuM m k else touD m k j) = touD m (k + 1) := by
  funext j
  unfold touD
  by_cases h : j = k
  · rw [if_pos h, if_pos (by omega), h]
  · rw [if_neg h]
    by_cases h2 : j < k
    · rw [if_pos h2, if_pos (by omega)]
    · rw [if_neg h2, if_neg (by omega)]
/-- What Toured returns. -/
def touM (m : Mp) : Nat → Int := touD m (2 ^ m.nw)
theorem touM_get (m : Mp) {s : Nat} (hs : s < 2 ^ m.nw) : touM m s = tuM m s := if_pos hs
set_option maxHeartbeats 1000000 in
theorem rWhole_any (x : MV) (m : Mp) (w : World) (h8 : m.nw ≤ 8) :
    Calls Try.prog 34 #[.agg #[.slice x.wa m.nw x.wc, .slice x.ra m.nr x.rc]] w fun e w' => e = .returned (.int .i64 ((2 ^ m.nw - 1 : Nat) : Int)) ∧ Below w.heap.size w w' := by
  have HW := Lib.hid (bit_whole ⟨m.nw, by omega⟩)
  go_enter Try.func34, Try.ntmps34
  go_wp2_with fail
  go_ret
  exact ⟨congrArg (fun z => Ending.returned (.int .i64 z)) HW.out, below_alloc _ _⟩
end Go.Proofs.Ytpnkgjkoophckaa
