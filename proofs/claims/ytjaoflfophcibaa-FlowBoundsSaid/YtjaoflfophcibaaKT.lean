/- flow.Fail of one table with a fault; of one table. -/
import Derived.Test.YtjaoflfophcibaaPM
namespace Go.Proofs.Ytjaoflfophcibaa
open Go.RowKit Go.Shelf

set_option maxRecDepth 100000 in
set_option maxHeartbeats 4000000 in
theorem Fail_bad (lb lo cap : Nat) (u : WV) (t : Tb) (w : World) (hlb : lb < w.heap.size)
    (hc : ∀ j, j < 1 → w.cell? ⟨lb, lo + j * 4, none⟩ = some (u.cv t) ∧ w.cell? ⟨lb, lo + j * 4 + 1, none⟩ = some (u.bv t) ∧ w.cell? ⟨lb, lo + j * 4 + 2, none⟩ = some (u.rv t) ∧ w.cell? ⟨lb, lo + j * 4 + 3, none⟩ = some (u.nv t))
    (hT : WL w u t ∧ t.small ∧ t.fault ≠ 0) :
    Calls Try.prog 43 #[.slice (some ⟨lb, lo, none⟩) 1 cap] w fun e w' => e = .returned (.tuple #[.slice none 0 0, .int .i64 t.fault]) ∧ Below w.heap.size w w' := by
  have HC := Lib.hid hc
  have HCT0 : Hid (∀ X, Below w.heap.size w X → Calls Try.prog 47 #[.agg #[u.cv t, u.bv t, u.rv t, u.nv t]] X fun e w' => e = .returned (.int .i64 t.fault) ∧ Below X.heap.size X w') := fun X hX => check_any _ t X (hT.1.below hX).tb hT.2.1
  have hf0 := hT.2.2
  clear hc hT
  obtain ⟨f, HFE⟩ : ∃ f : Int, Hid (t.fault = f) := ⟨_, rfl⟩
  rw [HFE.out] at HCT0 hf0 ⊢
  clear HFE
  have hq1 : (f == 0) = false := by simpa using hf0
  have hq2 : (f != 0) = true := by simpa using hf0
  go_enter Try.func43, Try.ntmps43
  go_wp2_with fail
  go_loopw [15] (fun i wr => ∃ k : Nat, k < 1 ∧ i = .int .i64 k ∧ Below w.heap.size w wr) (fun i _ => 1 - (intOf i).toNat)
  case atStart => exact ⟨0, by omega, rfl, Below.refl _ _⟩
  case round =>
    obtain ⟨k, hlt, rfl, hbl⟩ := hrel
    have HB := Lib.hid hbl
    clear hbl
    have ki : (0 : Int) ≤ (k : Int) := by omega
    have kj : (k : Int) < 1 := by omega
    obtain ⟨x0, x1, x2, x3⟩ := HC.out k hlt
    simp only [WV.cv, WV.bv, WV.rv, WV.nv] at HCT0 x0 x1 x2 x3
    have y0 := kept HB.out hlb x0
    have y1 := kept HB.out hlb x1
    have y2 := kept HB.out hlb x2
    have y3 := kept HB.out hlb x3
    clear x0 x1 x2 x3
    go_wp2_with (go_at_call 47; refine (HCT0.out _ (HB.out.trans ((below_alloc _ _).mono HB.out.size))).mono ?_; rintro _ w1 ⟨rfl, hb1⟩; have HB1 := Lib.hid (below_step (HB.out.trans ((below_alloc _ _).mono HB.out.size)) (hb1)); clear hb1)
    go_ret2
    exact ⟨rfl, HB1.out⟩
/-- What Fail returns of one table. -/
def FlA (t : Tb) (W : World) (la : Option Addr) (ln : Nat) (fe : Int) : Prop :=
  fe = t.fault ∧ (t.fault ≠ 0 → ln = 0) ∧ (t.fault = 0 → (t.agree off0 = true → ln = 0) ∧ (t.agree off0 = false → ln = 1 ∧ ∃ b, la = some ⟨b, 0, none⟩ ∧ b < W.heap.size ∧ W.cell? ⟨b, 0, none⟩ = some (.int .i64 0)))
theorem fail_one (lb : Nat) (u : WV) (t : Tb) (w : World) (hs : t.small) (hlb : lb < w.heap.size) (hl : WL w u t)
    (c0 : w.cell? ⟨lb, 0, none⟩ = some (u.cv t)) (c1 : w.cell? ⟨lb, 1, none⟩ = some (u.bv t)) (c2 : w.cell? ⟨lb, 2, none⟩ = some (u.rv t)) (c3 : w.cell? ⟨lb, 3, none⟩ = some (u.nv t)) :
    Calls Try.prog 43 #[.slice (some ⟨lb, 0, none⟩) 1 1] w fun e w' => ∃ la ln lc fe, e = .returned (.tuple #[.slice la ln lc, .int .i64 fe]) ∧ FlA t w' la ln fe ∧ Below w.heap.size w w' := by
  have hcell : ∀ j, j < 1 → w.cell? ⟨lb, 0 + j * 4, none⟩ = some (u.cv t) ∧ w.cell? ⟨lb, 0 + j * 4 + 1, none⟩ = some (u.bv t) ∧ w.cell? ⟨lb, 0 + j * 4 + 2, none⟩ = some (u.rv t) ∧ w.cell? ⟨lb, 0 + j * 4 + 3, none⟩ = some (u.nv t) := fun j hj => by
    obtain rfl : j = 0 := by omega
    exact ⟨c0, c1, c2, c3⟩
  by_cases hf : t.fault = 0
  · refine (Fail_any lb 0 1 1 (fun _ => u) (fun _ => t) w (by omega) hlb hcell (fun _ _ => ⟨hl, hs, hf⟩)).mono ?_
    rintro e w' ⟨v, rfl, how, hb⟩
    obtain ⟨la, lc, rfl⟩ := own_slice' how
    refine ⟨la, _, lc, 0, rfl, ⟨hf.symm, fun h => absurd hf h, fun _ => ⟨fun ha => ?_, fun ha => ?_⟩⟩, hb⟩
    · have e : failL (fun _ => t.agree off0) 1 = [] := by show (if t.agree off0 = true then [] else [] ++ [(0 : Int)]) = []; rw [if_pos ha]
      rw [e]; rfl
    · have e : failL (fun _ => t.agree off0) 1 = [0] := by show (if t.agree off0 = true then [] else [] ++ [((0 : Nat) : Int)]) = [0]; rw [if_neg (by rw [ha]; decide)]; rfl
      rw [e] at how ⊢
      refine ⟨rfl, ?_⟩
      rcases how.2 with ⟨_, h⟩ | ⟨b, cap, cur, e2, _⟩
      · cases h
      · cases e2
        exact ⟨b, rfl, own_lt how rfl, how.cellAt 0 (by simp)⟩
  · refine (Fail_bad lb 0 1 u t w hlb hcell ⟨hl, hs, hf⟩).mono ?_
    rintro e w' ⟨rfl, hb⟩
    exact ⟨_, _, _, _, rfl, ⟨rfl, fun _ => rfl, fun h => absurd h hf⟩, hb⟩
end Go.Proofs.Ytjaoflfophcibaa
