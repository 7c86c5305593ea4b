/- Walk: a plan as an argument of a law, opened. By hand. -/
import Derived.Test.YtpnkgjkoophckaaPF
namespace Go.Proofs.Ytpnkgjkoophckaa
open Go.ChangeShapes Go.WideShapes Go.ChangeAt Go.RowKit

set_option maxRecDepth 100000 in
theorem open_plan {H : Type} {enc : TypeId × Value → H} {W : World} {base : Nat} {v : Value} {d : DataW H} {p : List MemPlace} (hv : Value.okWide Try.prog W .any base 88 v) (h : DataW.Trod enc Try.prog W 0 (fun _ => true) true 88 v d p) :
    ∃ a n cap U Y, v = .slice a n cap ∧ PlIn W (.slice a n cap) n U Y ∧ n ≤ maxLen := by
  obtain ⟨a0, len0, cap0, rfl⟩ := Go.WideShapes.okWide_slice Try.underlying88 hv
  obtain ⟨fuel, hf⟩ := h
  rcases Go.Deep.open_slice Try.underlying88 hf with ⟨hcs, _⟩ | ⟨a, len, cap, m, n, D, Pl, hcs, _, hl, hm, hmm, _, hx⟩
  · simp [Value.cells] at hcs
    obtain ⟨rfl, rfl, rfl⟩ := hcs
    exact ⟨none, 0, 0, fun _ => ⟨none, 0, none, 0⟩, fun _ => ⟨0, fun _ => 0, 0, fun _ => 0⟩, rfl, ⟨.inl ⟨_, _, rfl, rfl⟩, fun k hk => by omega⟩, Nat.zero_le _⟩
  · simp [Value.cells] at hcs
    obtain ⟨rfl, rfl, rfl⟩ := hcs
    simp only [if_true] at hmm
    subst hmm
    have k : Try.prog.cellsOf 49 = 2 := by kernel_rfl
    rw [k] at hx
    have _ : Inhabited (LV × Wl) := ⟨(⟨none, 0, none, 0⟩, ⟨0, fun _ => 0, 0, fun _ => 0⟩)⟩
    obtain ⟨R, hR⟩ := Go.Deep.choose_lt (α := LV × Wl) (n := len0) (p := fun i (r : LV × Wl) => W.cells? 0 (a.add (i * 2)) 2 = some [.slice r.1.ra r.2.nl r.1.rc, .slice r.1.ca r.2.nc r.1.cc] ∧ WlIn W r.1 r.2) (fun i hi => by
      obtain ⟨cs', h1, h2⟩ := hx i (by omega)
      obtain ⟨u, y, rfl, h3, _, _⟩ := open_walkc h2 (World.cells?_some h1).2.1
      exact ⟨(u, y), h1, h3⟩)
    rcases Nat.eq_zero_or_pos len0 with rfl | hpos
    · exact ⟨some a, 0, _, fun _ => ⟨none, 0, none, 0⟩, fun _ => ⟨0, fun _ => 0, 0, fun _ => 0⟩, rfl, ⟨.inl ⟨_, _, rfl, rfl⟩, fun k hk => by omega⟩, Nat.zero_le _⟩
    · have hc0 := (World.cells?_some (hR 0 hpos).1).2.2 0 (by omega)
      obtain ⟨b, off, spot⟩ := a
      obtain rfl : spot = none := by simpa [Addr.add] using World.cell?_spot hc0
      have hc : ∀ j, j < len0 → ∀ i, i < 2 → W.cell? ⟨b, off + j * 2 + i, none⟩ = [Value.slice (R j).1.ra (R j).2.nl (R j).1.rc, .slice (R j).1.ca (R j).2.nc (R j).1.cc][i]? := fun j hj i hi => by
        have := (World.cells?_some (hR j hj).1).2.2 i hi
        rwa [Go.WideShapes.add_plain, Go.WideShapes.add_plain] at this
      have hbs : b < W.heap.size := World.block_lt_of_cell? W ⟨b, off + 0 * 2 + 0, none⟩ (hc 0 hpos 0 (by omega))
      exact ⟨some ⟨b, off, none⟩, len0, _, fun j => (R j).1, fun j => (R j).2, rfl, ⟨.inr ⟨b, off, _, rfl, hbs, fun j hj => ⟨hc j hj 0 (by omega), hc j hj 1 (by omega)⟩⟩, fun j hj => (hR j hj).2⟩, by omega⟩
set_option maxRecDepth 100000 in
theorem open_wordsIn {H : Type} {enc : TypeId × Value → H} {W : World} {base : Nat} {v : Value} {d : DataW H} {p : List MemPlace} (hv : Value.okWide Try.prog W .any base 107 v) (h : DataW.Trod enc Try.prog W 0 (fun _ => true) true 107 v d p) :
    ∃ n z, WordsIn W v n z ∧ n ≤ maxLen := by
  obtain ⟨a0, len, cap, rfl⟩ := Go.WideShapes.okWide_slice Try.underlying107 hv
  obtain ⟨fuel, hf⟩ := h
  rcases Go.ChangeShapes.open_ints Try.underlying107 Try.underlying75 (by kernel_rfl) hf with ⟨hcs, hx⟩ | ⟨a, len', cap', zs, hcs, _, hl, hm, hz, hx, hcell, hwz⟩
  · simp [Value.cells] at hcs
    obtain ⟨rfl, rfl, rfl⟩ := hcs
    exact ⟨0, fun _ => 0, .inl ⟨_, _, rfl, rfl⟩, Nat.zero_le _⟩
  · simp [Value.cells] at hcs
    obtain ⟨rfl, rfl, rfl⟩ := hcs
    simp only [if_true] at hz
    rcases Nat.eq_zero_or_pos len with rfl | hpos
    · exact ⟨0, fun _ => 0, .inl ⟨_, cap, rfl, rfl⟩, Nat.zero_le _⟩
    · obtain ⟨b, off, rfl, hc⟩ := ints_at hcell (by omega)
      have hbs : b < W.heap.size := World.block_lt_of_cell? W ⟨b, off + 0, none⟩ (hc 0 (by omega))
      refine ⟨len, fun j => zs.getD j 0, .inr ⟨b, off, cap, rfl, hbs, fun j hj => ⟨hc j (by omega), ?_⟩⟩, by omega⟩
      have := hwz (zs.getD j 0) (by
        have e : zs.getD j 0 = zs[j]'(by omega) := by simp [show j < zs.length by omega]
        rw [e]; exact List.getElem_mem _)
      exact bounds_u16 this
end Go.Proofs.Ytpnkgjkoophckaa
