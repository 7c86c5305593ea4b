/- A person of the reference as an argument, opened. -/
import Derived.Test.YtagfcfojfjkmbaaH3
import Derived.Test.YtagfcfojfjkmbaaL1
import Derived.Deep.Slices
import Derived.Deep.Strs
namespace Go.Proofs.Ytagfcfojfjkmbaa
open Go.ChangeShapes Go.WideShapes Go.ChangeAt Go.RowKit

instance : Inhabited Rl := ⟨⟨0, 0, 0, 0⟩⟩
instance : Inhabited Rc := ⟨⟨0, 0, 0⟩⟩

set_option maxRecDepth 100000 in
theorem open_rl {H : Type} {enc : TypeId × Value → H} {W : World} {fuel : Nat} {cs : List Value} {x : DataW H × List MemPlace} (h : DataW.trod enc Try.prog W 0 (fun _ => true) true fuel 77 cs = some x) :
    ∃ r : Rl, cs = [.int .i64 r.f, .int .i64 r.b, .int .i64 r.m, .int .i64 r.e] := by
  obtain ⟨y0, y1, y2, y3, n, _, hl, h0, h1, h2, h3⟩ := Go.Joins.trod_struct4 Try.underlying77 h
  have hl4 : cs.length = 4 := hl.trans (by kernel_rfl)
  match cs, hl4 with
  | [c0, c1, c2, c3], _ =>
    obtain ⟨f, e0, _⟩ := DataW.trod_int Try.underlying3 h0
    obtain ⟨b, e1, _⟩ := DataW.trod_int Try.underlying3 h1
    obtain ⟨m, e2, _⟩ := DataW.trod_int Try.underlying3 h2
    obtain ⟨e, e3, _⟩ := DataW.trod_int Try.underlying3 h3
    have k : Try.prog.cellsOf 3 = 1 := by kernel_rfl
    rw [k] at e0 e1 e2 e3
    simp at e0 e1 e2 e3
    subst e0 e1 e2 e3
    exact ⟨⟨f, b, m, e⟩, rfl⟩
set_option maxRecDepth 100000 in
theorem open_rc {H : Type} {enc : TypeId × Value → H} {W : World} {fuel : Nat} {cs : List Value} {x : DataW H × List MemPlace} (h : DataW.trod enc Try.prog W 0 (fun _ => true) true fuel 59 cs = some x) :
    ∃ r : Rc, cs = [.int .i64 r.day, .int .i64 r.rule, .int .i64 r.num] := by
  obtain ⟨y0, y1, y2, n, _, hl, h0, h1, h2⟩ := Go.Deep.trod_struct3 Try.underlying59 h
  have hl4 : cs.length = 3 := hl.trans (by kernel_rfl)
  match cs, hl4 with
  | [c0, c1, c2], _ =>
    obtain ⟨f, e0, _⟩ := DataW.trod_int Try.underlying3 h0
    obtain ⟨b, e1, _⟩ := DataW.trod_int Try.underlying3 h1
    obtain ⟨m, e2, _⟩ := DataW.trod_int Try.underlying3 h2
    have k : Try.prog.cellsOf 3 = 1 := by kernel_rfl
    rw [k] at e0 e1 e2
    simp at e0 e1 e2
    subst e0 e1 e2
    exact ⟨⟨f, b, m⟩, rfl⟩

set_option maxRecDepth 100000 in
theorem open_rls {H : Type} {enc : TypeId × Value → H} {W : World} {fuel : Nat} {v : Value} {x : DataW H × List MemPlace} (h : DataW.trod enc Try.prog W 0 (fun _ => true) true fuel 33 [v] = some x) :
    ∃ n R, RlsIn W v n R ∧ n ≤ maxLen := by
  rcases Go.Deep.open_slice Try.underlying33 h with ⟨hcs, _⟩ | ⟨a, len, cap, m, n, D, Pl, hcs, _, hl, hm, hmm, _, hx⟩
  · simp at hcs; subst hcs
    exact ⟨0, fun _ => default, .inl ⟨_, _, rfl, rfl⟩, Nat.zero_le _⟩
  · simp at hcs; subst hcs
    simp only [if_true] at hmm
    subst hmm
    have k : Try.prog.cellsOf 77 = 4 := by kernel_rfl
    rw [k] at hx
    obtain ⟨R, hR⟩ := Go.Deep.choose_lt (α := Rl) (n := len) (p := fun i (r : Rl) => W.cells? 0 (a.add (i * 4)) 4 = some [.int .i64 r.f, .int .i64 r.b, .int .i64 r.m, .int .i64 r.e]) (fun i hi => by
      obtain ⟨cs', h1, h2⟩ := hx i (by omega)
      obtain ⟨r, rfl⟩ := open_rl h2
      exact ⟨r, h1⟩)
    rcases Nat.eq_zero_or_pos len with rfl | hpos
    · exact ⟨0, fun _ => default, .inl ⟨_, _, rfl, rfl⟩, Nat.zero_le _⟩
    · have hc0 := (World.cells?_some (hR 0 hpos)).2.2 0 (by omega)
      obtain ⟨b, off, spot⟩ := a
      obtain rfl : spot = none := by simpa [Addr.add] using World.cell?_spot hc0
      have hc : ∀ j, j < len → ∀ i, i < 4 → W.cell? ⟨b, off + j * 4 + i, none⟩ = [Value.int .i64 (R j).f, .int .i64 (R j).b, .int .i64 (R j).m, .int .i64 (R j).e][i]? := fun j hj i hi => by
        have := (World.cells?_some (hR j hj)).2.2 i hi
        rwa [Go.WideShapes.add_plain, Go.WideShapes.add_plain] at this
      have hbs : b < W.heap.size := World.block_lt_of_cell? W ⟨b, off + 0 * 4 + 0, none⟩ (hc 0 hpos 0 (by omega))
      exact ⟨len, R, .inr ⟨b, off, _, rfl, hbs, fun j hj => ⟨hc j hj 0 (by omega), hc j hj 1 (by omega), hc j hj 2 (by omega), hc j hj 3 (by omega)⟩⟩, by omega⟩
set_option maxRecDepth 100000 in
theorem open_rcs {H : Type} {enc : TypeId × Value → H} {W : World} {fuel : Nat} {v : Value} {x : DataW H × List MemPlace} (h : DataW.trod enc Try.prog W 0 (fun _ => true) true fuel 34 [v] = some x) :
    ∃ n C, RcsIn W v n C ∧ n ≤ maxLen := by
  rcases Go.Deep.open_slice Try.underlying34 h with ⟨hcs, _⟩ | ⟨a, len, cap, m, n, D, Pl, hcs, _, hl, hm, hmm, _, hx⟩
  · simp at hcs; subst hcs
    exact ⟨0, fun _ => default, .inl ⟨_, _, rfl, rfl⟩, Nat.zero_le _⟩
  · simp at hcs; subst hcs
    simp only [if_true] at hmm
    subst hmm
    have k : Try.prog.cellsOf 59 = 3 := by kernel_rfl
    rw [k] at hx
    obtain ⟨R, hR⟩ := Go.Deep.choose_lt (α := Rc) (n := len) (p := fun i (r : Rc) => W.cells? 0 (a.add (i * 3)) 3 = some [.int .i64 r.day, .int .i64 r.rule, .int .i64 r.num]) (fun i hi => by
      obtain ⟨cs', h1, h2⟩ := hx i (by omega)
      obtain ⟨r, rfl⟩ := open_rc h2
      exact ⟨r, h1⟩)
    rcases Nat.eq_zero_or_pos len with rfl | hpos
    · exact ⟨0, fun _ => default, .inl ⟨_, _, rfl, rfl⟩, Nat.zero_le _⟩
    · have hc0 := (World.cells?_some (hR 0 hpos)).2.2 0 (by omega)
      obtain ⟨b, off, spot⟩ := a
      obtain rfl : spot = none := by simpa [Addr.add] using World.cell?_spot hc0
      have hc : ∀ j, j < len → ∀ i, i < 3 → W.cell? ⟨b, off + j * 3 + i, none⟩ = [Value.int .i64 (R j).day, .int .i64 (R j).rule, .int .i64 (R j).num][i]? := fun j hj i hi => by
        have := (World.cells?_some (hR j hj)).2.2 i hi
        rwa [Go.WideShapes.add_plain, Go.WideShapes.add_plain] at this
      have hbs : b < W.heap.size := World.block_lt_of_cell? W ⟨b, off + 0 * 3 + 0, none⟩ (hc 0 hpos 0 (by omega))
      exact ⟨len, R, .inr ⟨b, off, _, rfl, hbs, fun j hj => ⟨hc j hj 0 (by omega), hc j hj 1 (by omega), hc j hj 2 (by omega)⟩⟩, by omega⟩

set_option maxRecDepth 100000 in
theorem open_person {H : Type} {enc : TypeId × Value → H} {W : World} {base : Nat} {v : Value} {d : DataW H} {p : List MemPlace} (hv : Value.okWide Try.prog W .any base 36 v) (h : DataW.Trod enc Try.prog W 0 (fun _ => true) true 36 v d p) :
    ∃ P : Pers, PersIn W v P ∧ P.nr ≤ maxLen ∧ P.nc ≤ maxLen := by
  obtain ⟨cs, rfl, hsz⟩ := okWide_struct Try.underlying36 hv
  obtain ⟨c0, c1, c2, c3, rfl⟩ := Go.Joins.array4 (hsz.trans (by kernel_rfl))
  obtain ⟨fuel, hf⟩ := h
  obtain ⟨y0, y1, y2, n, _, _, h0, h1, h2⟩ := Go.Deep.trod_struct3 Try.underlying36 hf
  have k32 : Try.prog.cellsOf 32 = 2 := by kernel_rfl
  have k33 : Try.prog.cellsOf 33 = 1 := by kernel_rfl
  have k34 : Try.prog.cellsOf 34 = 1 := by kernel_rfl
  have k1 : Try.prog.cellsOf 3 = 1 := by kernel_rfl
  simp only [Value.cells, k32, k33, k34, List.drop, List.take] at h0 h1 h2
  obtain ⟨z0, z1, m, _, _, g0, g1⟩ := trod_struct2 Try.underlying32 h0
  simp only [k1, List.drop, List.take] at g0 g1
  obtain ⟨lo, e0, _⟩ := DataW.trod_int Try.underlying3 g0
  obtain ⟨hi, e1, _⟩ := DataW.trod_int Try.underlying3 g1
  simp at e0 e1
  subst e0 e1
  obtain ⟨nr, R, hR, hr⟩ := open_rls h1
  obtain ⟨nc, C, hC, hc⟩ := open_rcs h2
  exact ⟨⟨lo, hi, nr, R, nc, C⟩, ⟨c2, c3, rfl, hR, hC⟩, hr, hc⟩
end Go.Proofs.Ytagfcfojfjkmbaa
