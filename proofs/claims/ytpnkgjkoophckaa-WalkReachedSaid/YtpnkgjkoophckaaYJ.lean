/- Walk: the calls of awake. -/
import Derived.Test.YtpnkgjkoophckaaYG
import Derived.Test.YtpnkgjkoophckaaWI
namespace Go.Proofs.Ytpnkgjkoophckaa
open Go.RowKit Go.Shelf Go.Maps

theorem BF.ints {w X : World} {L : List (Nat × Array Value × TypeId)} (h : BF w X L) {b : Nat} {cs : Array Value} {T : TypeId} (hb : (b, cs, T) ∈ L) {n : Nat} {z : Nat → Int} (hz : ∀ j, j < n → cs[j]? = some (.int .i64 (z j))) (c : Nat) : IntsIn X (.slice (some ⟨b, 0, none⟩) n c) n z :=
  .inr ⟨b, 0, c, rfl, (h.lt hb).2, fun j hj => by rw [Nat.zero_add]; exact (h.cell hb j).trans (hz j hj)⟩
theorem aw_bounds (wa ra : Option Addr) (wc rc : Nat) (ua ca : Option Addr) (uc cc : Nat) (w : World) (hM : MpIn w ⟨wa, wc, ra, rc⟩ pm) (hu : IntsIn w (.slice ua 5 uc) 5 py.rt) (hc : IntsIn w (.slice ca 2 cc) 2 py.ct) :
    Calls Try.prog 55 #[.agg #[.slice wa 4 wc, .slice ra 4 rc], .agg #[.slice ua 5 uc, .slice ca 2 cc]] w fun e w' => e = .returned (.tuple #[.agg #[.int .i64 13, .int .i64 18], .int .i64 0]) ∧ Below w.heap.size w w' := by
  have h := bounds_any ⟨wa, wc, ra, rc⟩ pm ⟨ua, uc, ca, cc⟩ py w hM ⟨hu, hc⟩ (by decide) (by decide) (by decide) (by decide)
  rw [pm_bounds.1, pm_bounds.2] at h
  exact h
theorem aw_tour (wa ra : Option Addr) (wc rc : Nat) (a : Option Addr) (cap : Nat) (w : World) (hM : MpIn w ⟨wa, wc, ra, rc⟩ pm) (hz : IntsIn w (.slice a 4 cap) 4 pz) :
    Calls Try.prog 20 #[.agg #[.slice wa 4 wc, .slice ra 4 rc], .slice a 4 cap] w fun e w' => (∃ a1 n1 c1 a2 n2 c2, e = .returned (.tuple #[.agg #[.slice a1 n1 c1, .slice a2 n2 c2], .int .i64 34, .int .i64 0])) ∧ Below w.heap.size w w' := by
  refine (Tour_any ⟨wa, wc, ra, rc⟩ pm a 4 cap pz w hM hz (by decide) (by decide) (by decide)).mono ?_
  rintro e w' ⟨hb, h⟩
  rw [pm_tour.1, pm_tour.2, pm_lg] at h
  rcases h with ⟨h, _⟩ | ⟨_, y, rfl, _⟩
  · exact absurd rfl h
  · exact ⟨⟨_, _, _, _, _, _, rfl⟩, hb⟩
theorem aw_fewest (wa ra : Option Addr) (wc rc : Nat) (w : World) (hM : MpIn w ⟨wa, wc, ra, rc⟩ pm) :
    Calls Try.prog 43 #[.agg #[.slice wa 4 wc, .slice ra 4 rc], .int .i64 16] w fun e w' => e = .returned (.tuple #[.int .i64 3, .int .i64 0]) ∧ Below w.heap.size w w' := by
  refine (Fewest_any ⟨wa, wc, ra, rc⟩ pm 16 w hM (by decide) (by decide)).mono ?_
  rintro e w' ⟨hb, h⟩
  rw [pm_dv.1, pm_dv.2] at h
  exact ⟨h, hb⟩
theorem aw_least (wa ra : Option Addr) (wc rc : Nat) (w : World) (hM : MpIn w ⟨wa, wc, ra, rc⟩ pm) :
    Calls Try.prog 31 #[.agg #[.slice wa 4 wc, .slice ra 4 rc], .int .i64 2] w fun e w' => e = .returned (.tuple #[.int .i64 19, .int .i64 0]) ∧ Below w.heap.size w w' := by
  refine (Least_any ⟨wa, wc, ra, rc⟩ pm 2 w hM (by decide) (by decide)).mono ?_
  rintro e w' h
  rw [pm_lst.1, pm_lst.2] at h
  exact ⟨h.2, h.1⟩
end Go.Proofs.Ytpnkgjkoophckaa
