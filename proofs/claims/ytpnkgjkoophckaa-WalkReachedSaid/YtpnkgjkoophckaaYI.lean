/- Walk: arguments that a law is handed, opened: maps, walks, truths, lists. -/
import Derived.Test.YtpnkgjkoophckaaYG
import Derived.Deep.Slices
import Derived.Deep.Strs
namespace Go.Proofs.Ytpnkgjkoophckaa
open Go.ChangeShapes Go.WideShapes Go.ChangeAt Go.RowKit Go.Shelf

set_option maxRecDepth 100000 in
theorem open_rng {H : Type} {enc : TypeId × Value → H} {W : World} {fuel : Nat} {cs : List Value} {x : DataW H × List MemPlace} (h : DataW.trod enc Try.prog W 0 (fun _ => true) true fuel 77 cs = some x) : ∃ r : R2, cs = [.int .i64 r.1, .int .i64 r.2] := by
  obtain ⟨z0, z1, m, _, _, g0, g1⟩ := trod_struct2 Try.underlying77 h
  have k1 : Try.prog.cellsOf 3 = 1 := by kernel_rfl
  rw [k1] at g0 g1
  obtain ⟨lo, e0, _⟩ := DataW.trod_int Try.underlying3 g0
  obtain ⟨hi, e1, _⟩ := DataW.trod_int Try.underlying3 g1
  match cs, e0, e1 with
  | [c0, c1], e0, e1 =>
    simp at e0 e1
    subst e0 e1
    exact ⟨(lo, hi), rfl⟩
set_option maxRecDepth 100000 in
theorem open_rd {H : Type} {enc : TypeId × Value → H} {W : World} {fuel : Nat} {cs : List Value} {x : DataW H × List MemPlace} (hl : cs.length = 4) (h : DataW.trod enc Try.prog W 0 (fun _ => true) true fuel 79 cs = some x) : ∃ r : Int × Int × R2, cs = [.int .i64 r.1, .int .i64 r.2.1, .int .i64 r.2.2.1, .int .i64 r.2.2.2] := by
  obtain ⟨z0, z1, z2, m, _, _, g0, g1, g2⟩ := Go.Deep.trod_struct3 Try.underlying79 h
  have k1 : Try.prog.cellsOf 3 = 1 := by kernel_rfl
  have k2 : Try.prog.cellsOf 77 = 2 := by kernel_rfl
  rw [k1] at g0 g1
  obtain ⟨a, e0, _⟩ := DataW.trod_int Try.underlying3 g0
  obtain ⟨b, e1, _⟩ := DataW.trod_int Try.underlying3 g1
  obtain ⟨r, e2⟩ := open_rng g2
  match cs, hl with
  | [c0, c1, c2, c3], _ =>
    simp [k2] at e0 e1 e2
    obtain ⟨rfl, rfl⟩ := e2
    subst e0 e1
    exact ⟨(a, b, r), rfl⟩
set_option maxRecDepth 100000 in
theorem open_rngs {H : Type} {enc : TypeId × Value → H} {W : World} {fuel : Nat} {v : Value} {x : DataW H × List MemPlace} (h : DataW.trod enc Try.prog W 0 (fun _ => true) true fuel 22 [v] = some x) :
    ∃ a n cap R, v = .slice a n cap ∧ RsIn W (.slice a n cap) n R ∧ n ≤ cap ∧ n ≤ maxLen := by
  rcases Go.Deep.open_slice Try.underlying22 h with ⟨hcs, _⟩ | ⟨a, len, cap, m, n, D, Pl, hcs, _, hl, hm, hmm, _, hx⟩
  · simp at hcs; subst hcs
    exact ⟨none, 0, 0, fun _ => (0, 0), rfl, .inl ⟨_, _, rfl, rfl⟩, Nat.zero_le _, Nat.zero_le _⟩
  · simp at hcs; subst hcs
    simp only [if_true] at hmm
    subst hmm
    have k : Try.prog.cellsOf 77 = 2 := by kernel_rfl
    rw [k] at hx
    obtain ⟨R, hR⟩ := Go.Deep.choose_lt (α := R2) (n := len) (p := fun i (r : R2) => W.cells? 0 (a.add (i * 2)) 2 = some [.int .i64 r.1, .int .i64 r.2]) (fun i hi => by
      obtain ⟨cs', h1, h2⟩ := hx i (by omega)
      obtain ⟨r, rfl⟩ := open_rng h2
      exact ⟨r, h1⟩)
    rcases Nat.eq_zero_or_pos len with rfl | hpos
    · exact ⟨some a, 0, m, fun _ => (0, 0), rfl, .inl ⟨_, _, rfl, rfl⟩, Nat.zero_le _, Nat.zero_le _⟩
    · have hc0 := (World.cells?_some (hR 0 hpos)).2.2 0 (by omega)
      obtain ⟨b, off, spot⟩ := a
      obtain rfl : spot = none := by simpa [Addr.add] using World.cell?_spot hc0
      have hc : ∀ j, j < len → ∀ i, i < 2 → W.cell? ⟨b, off + j * 2 + i, none⟩ = [Value.int .i64 (R j).1, .int .i64 (R j).2][i]? := fun j hj i hi => by
        have := (World.cells?_some (hR j hj)).2.2 i hi
        rwa [Go.WideShapes.add_plain, Go.WideShapes.add_plain] at this
      have hbs : b < W.heap.size := World.block_lt_of_cell? W ⟨b, off + 0 * 2 + 0, none⟩ (hc 0 hpos 0 (by omega))
      exact ⟨some ⟨b, off, none⟩, len, m, R, rfl, .inr ⟨b, off, _, rfl, hbs, fun j hj => ⟨hc j hj 0 (by omega), hc j hj 1 (by omega)⟩⟩, by omega, by omega⟩
set_option maxRecDepth 100000 in
theorem open_rds {H : Type} {enc : TypeId × Value → H} {W : World} {fuel : Nat} {v : Value} {x : DataW H × List MemPlace} (nw : Nat) (wk : Nat → R2) (h : DataW.trod enc Try.prog W 0 (fun _ => true) true fuel 23 [v] = some x) :
    ∃ a n cap ra rb rt, v = .slice a n cap ∧ RdIn W (.slice a n cap) n ⟨nw, wk, n, ra, rb, rt⟩ ∧ n ≤ cap ∧ n ≤ maxLen := by
  rcases Go.Deep.open_slice Try.underlying23 h with ⟨hcs, _⟩ | ⟨a, len, cap, m, n, D, Pl, hcs, _, hl, hm, hmm, _, hx⟩
  · simp at hcs; subst hcs
    exact ⟨none, 0, 0, fun _ => 0, fun _ => 0, fun _ => (0, 0), rfl, .inl ⟨_, _, rfl, rfl⟩, Nat.zero_le _, Nat.zero_le _⟩
  · simp at hcs; subst hcs
    simp only [if_true] at hmm
    subst hmm
    have k : Try.prog.cellsOf 79 = 4 := by kernel_rfl
    rw [k] at hx
    obtain ⟨R, hR⟩ := Go.Deep.choose_lt (α := Int × Int × R2) (n := len) (p := fun i (r : Int × Int × R2) => W.cells? 0 (a.add (i * 4)) 4 = some [.int .i64 r.1, .int .i64 r.2.1, .int .i64 r.2.2.1, .int .i64 r.2.2.2]) (fun i hi => by
      obtain ⟨cs', h1, h2⟩ := hx i (by omega)
      obtain ⟨r, rfl⟩ := open_rd (World.cells?_some h1).2.1 h2
      exact ⟨r, h1⟩)
    rcases Nat.eq_zero_or_pos len with rfl | hpos
    · exact ⟨some a, 0, m, fun _ => 0, fun _ => 0, fun _ => (0, 0), rfl, .inl ⟨_, _, rfl, rfl⟩, Nat.zero_le _, Nat.zero_le _⟩
    · have hc0 := (World.cells?_some (hR 0 hpos)).2.2 0 (by omega)
      obtain ⟨b, off, spot⟩ := a
      obtain rfl : spot = none := by simpa [Addr.add] using World.cell?_spot hc0
      have hc : ∀ j, j < len → ∀ i, i < 4 → W.cell? ⟨b, off + j * 4 + i, none⟩ = [Value.int .i64 (R j).1, .int .i64 (R j).2.1, .int .i64 (R j).2.2.1, .int .i64 (R j).2.2.2][i]? := fun j hj i hi => by
        have := (World.cells?_some (hR j hj)).2.2 i hi
        rwa [Go.WideShapes.add_plain, Go.WideShapes.add_plain] at this
      have hbs : b < W.heap.size := World.block_lt_of_cell? W ⟨b, off + 0 * 4 + 0, none⟩ (hc 0 hpos 0 (by omega))
      exact ⟨some ⟨b, off, none⟩, len, m, fun j => (R j).1, fun j => (R j).2.1, fun j => (R j).2.2, rfl, .inr ⟨b, off, _, rfl, hbs, fun j hj => ⟨hc j hj 0 (by omega), hc j hj 1 (by omega), hc j hj 2 (by omega), hc j hj 3 (by omega)⟩⟩, by omega, by omega⟩
/-- What a law's map is. -/
structure MpLaw (W : World) (x : MV) (m : Mp) : Prop where
  l : MpIn W x m
  bw : m.nw ≤ maxLen
  br : m.nr ≤ maxLen
  cw : m.nw ≤ x.wc
  cr : m.nr ≤ x.rc
set_option maxRecDepth 100000 in
theorem open_map {H : Type} {enc : TypeId × Value → H} {W : World} {base : Nat} {v : Value} {d : DataW H} {p : List MemPlace} (hv : Value.okWide Try.prog W .any base 25 v) (h : DataW.Trod enc Try.prog W 0 (fun _ => true) true 25 v d p) :
    ∃ (x : MV) (m : Mp), v = .agg #[.slice x.wa m.nw x.wc, .slice x.ra m.nr x.rc] ∧ MpLaw W x m := by
  obtain ⟨cs, rfl, hsz⟩ := okWide_struct Try.underlying25 hv
  have hsz2 : cs.size = 2 := hsz.trans (by kernel_rfl)
  obtain ⟨fuel, hf⟩ := h
  obtain ⟨z0, z1, m, _, _, g0, g1⟩ := trod_struct2 Try.underlying25 hf
  have k1 : Try.prog.cellsOf 22 = 1 := by kernel_rfl
  have k2 : Try.prog.cellsOf 23 = 1 := by kernel_rfl
  match cs, hsz2 with
  | ⟨[c0, c1]⟩, _ =>
    simp only [Value.cells, k1, k2, List.drop, List.take] at g0 g1
    obtain ⟨a0, n0, p0, R, rfl, q0, s0, m0⟩ := open_rngs g0
    obtain ⟨a1, n1, p1, ra, rb, rt, rfl, q1, s1, m1⟩ := open_rds n0 R g1
    exact ⟨⟨a0, p0, a1, p1⟩, ⟨n0, R, n1, ra, rb, rt⟩, rfl, ⟨q0, q1⟩, m0, m1, s0, s1⟩
set_option maxRecDepth 100000 in
theorem open_intl {H : Type} {enc : TypeId × Value → H} {W : World} {fuel : Nat} {v : Value} {x : DataW H × List MemPlace} (h : DataW.trod enc Try.prog W 0 (fun _ => true) true fuel 26 [v] = some x) :
    ∃ a n cap z, v = .slice a n cap ∧ IntsIn W (.slice a n cap) n z ∧ n ≤ cap ∧ n ≤ maxLen := by
  rcases Go.Deep.open_slice Try.underlying26 h with ⟨hcs, _⟩ | ⟨a, len, cap, m, n, D, Pl, hcs, _, hl, hm, hmm, _, hx⟩
  · simp at hcs; subst hcs
    exact ⟨none, 0, 0, fun _ => 0, rfl, .inl ⟨_, _, rfl, rfl⟩, Nat.zero_le _, Nat.zero_le _⟩
  · simp at hcs; subst hcs
    simp only [if_true] at hmm
    subst hmm
    have k : Try.prog.cellsOf 3 = 1 := by kernel_rfl
    rw [k] at hx
    obtain ⟨R, hR⟩ := Go.Deep.choose_lt (α := Int) (n := len) (p := fun i (r : Int) => W.cells? 0 (a.add (i * 1)) 1 = some [.int .i64 r]) (fun i hi => by
      obtain ⟨cs', h1, h2⟩ := hx i (by omega)
      obtain ⟨f, e0, _⟩ := DataW.trod_int Try.underlying3 h2
      subst e0
      exact ⟨f, h1⟩)
    rcases Nat.eq_zero_or_pos len with rfl | hpos
    · exact ⟨some a, 0, m, fun _ => 0, rfl, .inl ⟨_, _, rfl, rfl⟩, Nat.zero_le _, Nat.zero_le _⟩
    · have hc0 := (World.cells?_some (hR 0 hpos)).2.2 0 (by omega)
      obtain ⟨b, off, spot⟩ := a
      obtain rfl : spot = none := by simpa [Addr.add] using World.cell?_spot hc0
      have hc : ∀ j, j < len → W.cell? ⟨b, off + j * 1 + 0, none⟩ = some (.int .i64 (R j)) := fun j hj => by
        have := (World.cells?_some (hR j hj)).2.2 0 (by omega)
        rwa [Go.WideShapes.add_plain, Go.WideShapes.add_plain] at this
      have hbs : b < W.heap.size := World.block_lt_of_cell? W ⟨b, off + 0 * 1 + 0, none⟩ (hc 0 hpos)
      refine ⟨some ⟨b, off, none⟩, len, m, R, rfl, .inr ⟨b, off, _, rfl, hbs, fun j hj => ?_⟩, by omega, by omega⟩
      have h := hc j hj; rw [Nat.mul_one, Nat.add_zero] at h; exact h
set_option maxRecDepth 100000 in
theorem open_intsIn {H : Type} {enc : TypeId × Value → H} {W : World} {base : Nat} {v : Value} {d : DataW H} {p : List MemPlace} (hv : Value.okWide Try.prog W .any base 26 v) (h : DataW.Trod enc Try.prog W 0 (fun _ => true) true 26 v d p) :
    ∃ a n cap z, v = .slice a n cap ∧ IntsIn W (.slice a n cap) n z ∧ n ≤ maxLen := by
  obtain ⟨a0, len, cap, rfl⟩ := Go.WideShapes.okWide_slice Try.underlying26 hv
  obtain ⟨fuel, hf⟩ := h
  obtain ⟨a, n, c, z, h1, h2, _, h4⟩ := open_intl (by simpa [Value.cells] using hf)
  exact ⟨a, n, c, z, h1, h2, h4⟩
set_option maxRecDepth 100000 in
theorem open_walkc {H : Type} {enc : TypeId × Value → H} {W : World} {fuel : Nat} {cs : List Value} {x : DataW H × List MemPlace} (h : DataW.trod enc Try.prog W 0 (fun _ => true) true fuel 49 cs = some x) (hl : cs.length = 2) :
    ∃ (u : LV) (y : Wl), cs = [.slice u.ra y.nl u.rc, .slice u.ca y.nc u.cc] ∧ WlIn W u y ∧ y.nl ≤ maxLen ∧ y.nc ≤ maxLen := by
  obtain ⟨z0, z1, m, _, _, g0, g1⟩ := trod_struct2 Try.underlying49 h
  have k1 : Try.prog.cellsOf 26 = 1 := by kernel_rfl
  match cs, hl with
  | [c0, c1], _ =>
    simp only [k1, List.drop, List.take] at g0 g1
    obtain ⟨a0, n0, p0, R, rfl, q0, s0, m0⟩ := open_intl g0
    obtain ⟨a1, n1, p1, C, rfl, q1, s1, m1⟩ := open_intl g1
    exact ⟨⟨a0, p0, a1, p1⟩, ⟨n0, R, n1, C⟩, rfl, ⟨q0, q1⟩, m0, m1⟩
set_option maxRecDepth 100000 in
theorem open_walk {H : Type} {enc : TypeId × Value → H} {W : World} {base : Nat} {v : Value} {d : DataW H} {p : List MemPlace} (hv : Value.okWide Try.prog W .any base 49 v) (h : DataW.Trod enc Try.prog W 0 (fun _ => true) true 49 v d p) :
    ∃ (u : LV) (y : Wl), v = .agg #[.slice u.ra y.nl u.rc, .slice u.ca y.nc u.cc] ∧ WlIn W u y ∧ y.nl ≤ maxLen ∧ y.nc ≤ maxLen := by
  obtain ⟨cs, rfl, hsz⟩ := okWide_struct Try.underlying49 hv
  have hsz2 : cs.size = 2 := hsz.trans (by kernel_rfl)
  obtain ⟨fuel, hf⟩ := h
  obtain ⟨u, y, e, h1, h2, h3⟩ := open_walkc hf (by simpa [Value.cells] using hsz2)
  refine ⟨u, y, ?_, h1, h2, h3⟩
  simp only [Value.cells] at e
  exact congrArg Value.agg (by apply Array.ext'; exact e)
/-- A truth as a law has it: its lists may have any lengths. -/
structure TVL where
  z : TV
  nw : Nat
  nr : Nat
  tw : Nat → Int
  tr : Nat → Int
set_option maxRecDepth 100000 in
theorem open_truth {H : Type} {enc : TypeId × Value → H} {W : World} {base : Nat} {v : Value} {d : DataW H} {p : List MemPlace} (hv : Value.okWide Try.prog W .any base 71 v) (h : DataW.Trod enc Try.prog W 0 (fun _ => true) true 71 v d p) :
    ∃ (t : TVL), v = .agg #[.slice t.z.wa t.nw t.z.wc, .slice t.z.ra t.nr t.z.rc] ∧ IntsIn W (.slice t.z.wa t.nw t.z.wc) t.nw t.tw ∧ IntsIn W (.slice t.z.ra t.nr t.z.rc) t.nr t.tr ∧ t.nw ≤ maxLen ∧ t.nr ≤ maxLen := by
  obtain ⟨cs, rfl, hsz⟩ := okWide_struct Try.underlying71 hv
  have hsz2 : cs.size = 2 := hsz.trans (by kernel_rfl)
  obtain ⟨fuel, hf⟩ := h
  obtain ⟨z0, z1, m, _, _, g0, g1⟩ := trod_struct2 Try.underlying71 hf
  have k1 : Try.prog.cellsOf 26 = 1 := by kernel_rfl
  match cs, hsz2 with
  | ⟨[c0, c1]⟩, _ =>
    simp only [Value.cells, k1, List.drop, List.take] at g0 g1
    obtain ⟨a0, n0, p0, R, rfl, q0, s0, m0⟩ := open_intl g0
    obtain ⟨a1, n1, p1, C, rfl, q1, s1, m1⟩ := open_intl g1
    exact ⟨⟨⟨a0, p0, a1, p1⟩, n0, n1, R, C⟩, rfl, q0, q1, m0, m1⟩
end Go.Proofs.Ytpnkgjkoophckaa
