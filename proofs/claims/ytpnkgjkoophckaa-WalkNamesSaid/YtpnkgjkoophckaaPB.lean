/- Walk: arguments that a law is handed, opened: maps, walks, truths, lists. | Walk: the calls of awake. | Walk: awake. Printed by gen_yh.py. | Walk: the law's Map (a copy of a map). Printed by gen_yk.py. | Walk: the reference's In, Joins, Fault; the law's Thin, fault, ready. -/
import Derived.Test.YtpnkgjkoophckaaYG
import Derived.Deep.Slices
import Derived.Deep.Strs
import Derived.Test.YtpnkgjkoophckaaWI
import Derived.Test.YtpnkgjkoophckaaWD
import Derived.Test.YtpnkgjkoophckaaWG
namespace Go.Proofs.Ytpnkgjkoophckaa
open Go.ChangeShapes Go.WideShapes Go.ChangeAt Go.RowKit Go.Shelf

set_option maxRecDepth 100000 in
theorem open_rng {H : Type} {enc : TypeId × Value → H} {W : World} {fuel : Nat} {cs : List Value} {x : DataW H × List MemPlace} (h : DataW.trod enc Try.prog W 0 (fun _ => true) true fuel 77 cs = some x) : ∃ r : R2, cs = [.int .i64 r.1, .int .i64 r.2] := by
  obtain ⟨z0, z1, m, _, _, g0, g1⟩ := trod_struct2 Try.underlying77 h
  have k1 : Try.prog.cellsOf 3 = 1 := by kernel_rfl
  rw [k1] at g0 g1
  obtain ⟨lo, e0, _⟩ := DataW.trod_int Try.underlying3 g0
  obtain ⟨hi, e1, _⟩ := DataW.trod_int Try.underlying3 g1
  match cs, e0, e1 with
  | [c0, c1], e0, e1 =>
    simp at e0 e1
    subst e0 e1
    exact ⟨(lo, hi), rfl⟩
set_option maxRecDepth 100000 in
theorem open_rd {H : Type} {enc : TypeId × Value → H} {W : World} {fuel : Nat} {cs : List Value} {x : DataW H × List MemPlace} (hl : cs.length = 4) (h : DataW.trod enc Try.prog W 0 (fun _ => true) true fuel 79 cs = some x) : ∃ r : Int × Int × R2, cs = [.int .i64 r.1, .int .i64 r.2.1, .int .i64 r.2.2.1, .int .i64 r.2.2.2] := by
  obtain ⟨z0, z1, z2, m, _, _, g0, g1, g2⟩ := Go.Deep.trod_struct3 Try.underlying79 h
  have k1 : Try.prog.cellsOf 3 = 1 := by kernel_rfl
  have k2 : Try.prog.cellsOf 77 = 2 := by kernel_rfl
  rw [k1] at g0 g1
  obtain ⟨a, e0, _⟩ := DataW.trod_int Try.underlying3 g0
  obtain ⟨b, e1, _⟩ := DataW.trod_int Try.underlying3 g1
  obtain ⟨r, e2⟩ := open_rng g2
  match cs, hl with
  | [c0, c1, c2, c3], _ =>
    simp [k2] at e0 e1 e2
    obtain ⟨rfl, rfl⟩ := e2
    subst e0 e1
    exact ⟨(a, b, r), rfl⟩
set_option maxRecDepth 100000 in
theorem open_rngs {H : Type} {enc : TypeId × Value → H} {W : World} {fuel : Nat} {v : Value} {x : DataW H × List MemPlace} (h : DataW.trod enc Try.prog W 0 (fun _ => true) true fuel 22 [v] = some x) :
    ∃ a n cap R, v = .slice a n cap ∧ RsIn W (.slice a n cap) n R ∧ n ≤ cap ∧ n ≤ maxLen := by
  rcases Go.Deep.open_slice Try.underlying22 h with ⟨hcs, _⟩ | ⟨a, len, cap, m, n, D, Pl, hcs, _, hl, hm, hmm, _, hx⟩
  · simp at hcs; subst hcs
    exact ⟨none, 0, 0, fun _ => (0, 0), rfl, .inl ⟨_, _, rfl, rfl⟩, Nat.zero_le _, Nat.zero_le _⟩
  · simp at hcs; subst hcs
    simp only [if_true] at hmm
    subst hmm
    have k : Try.prog.cellsOf 77 = 2 := by kernel_rfl
    rw [k] at hx
    obtain ⟨R, hR⟩ := Go.Deep.choose_lt (α := R2) (n := len) (p := fun i (r : R2) => W.cells? 0 (a.add (i * 2)) 2 = some [.int .i64 r.1, .int .i64 r.2]) (fun i hi => by
      obtain ⟨cs', h1, h2⟩ := hx i (by omega)
      obtain ⟨r, rfl⟩ := open_rng h2
      exact ⟨r, h1⟩)
    rcases Nat.eq_zero_or_pos len with rfl | hpos
    · exact ⟨some a, 0, m, fun _ => (0, 0), rfl, .inl ⟨_, _, rfl, rfl⟩, Nat.zero_le _, Nat.zero_le _⟩
    · have hc0 := (World.cells?_some (hR 0 hpos)).2.2 0 (by omega)
      obtain ⟨b, off, spot⟩ := a
      obtain rfl : spot = none := by simpa [Addr.add] using World.cell?_spot hc0
      have hc : ∀ j, j < len → ∀ i, i < 2 → W.cell? ⟨b, off + j * 2 + i, none⟩ = [Value.int .i64 (R j).1, .int .i64 (R j).2][i]? := fun j hj i hi => by
        have := (World.cells?_some (hR j hj)).2.2 i hi
        rwa [Go.WideShapes.add_plain, Go.WideShapes.add_plain] at this
      have hbs : b < W.heap.size := World.block_lt_of_cell? W ⟨b, off + 0 * 2 + 0, none⟩ (hc 0 hpos 0 (by omega))
      exact ⟨some ⟨b, off, none⟩, len, m, R, rfl, .inr ⟨b, off, _, rfl, hbs, fun j hj => ⟨hc j hj 0 (by omega), hc j hj 1 (by omega)⟩⟩, by omega, by omega⟩
set_option maxRecDepth 100000 in
theorem open_rds {H : Type} {enc : TypeId × Value → H} {W : World} {fuel : Nat} {v : Value} {x : DataW H × List MemPlace} (nw : Nat) (wk : Nat → R2) (h : DataW.trod enc Try.prog W 0 (fun _ => true) true fuel 23 [v] = some x) :
    ∃ a n cap ra rb rt, v = .slice a n cap ∧ RdIn W (.slice a n cap) n ⟨nw, wk, n, ra, rb, rt⟩ ∧ n ≤ cap ∧ n ≤ maxLen := by
  rcases Go.Deep.open_slice Try.underlying23 h with ⟨hcs, _⟩ | ⟨a, len, cap, m, n, D, Pl, hcs, _, hl, hm, hmm, _, hx⟩
  · simp at hcs; subst hcs
    exact ⟨none, 0, 0, fun _ => 0, fun _ => 0, fun _ => (0, 0), rfl, .inl ⟨_, _, rfl, rfl⟩, Nat.zero_le _, Nat.zero_le _⟩
  · simp at hcs; subst hcs
    simp only [if_true] at hmm
    subst hmm
    have k : Try.prog.cellsOf 79 = 4 := by kernel_rfl
    rw [k] at hx
    obtain ⟨R, hR⟩ := Go.Deep.choose_lt (α := Int × Int × R2) (n := len) (p := fun i (r : Int × Int × R2) => W.cells? 0 (a.add (i * 4)) 4 = some [.int .i64 r.1, .int .i64 r.2.1, .int .i64 r.2.2.1, .int .i64 r.2.2.2]) (fun i hi => by
      obtain ⟨cs', h1, h2⟩ := hx i (by omega)
      obtain ⟨r, rfl⟩ := open_rd (World.cells?_some h1).2.1 h2
      exact ⟨r, h1⟩)
    rcases Nat.eq_zero_or_pos len with rfl | hpos
    · exact ⟨some a, 0, m, fun _ => 0, fun _ => 0, fun _ => (0, 0), rfl, .inl ⟨_, _, rfl, rfl⟩, Nat.zero_le _, Nat.zero_le _⟩
    · have hc0 := (World.cells?_some (hR 0 hpos)).2.2 0 (by omega)
      obtain ⟨b, off, spot⟩ := a
      obtain rfl : spot = none := by simpa [Addr.add] using World.cell?_spot hc0
      have hc : ∀ j, j < len → ∀ i, i < 4 → W.cell? ⟨b, off + j * 4 + i, none⟩ = [Value.int .i64 (R j).1, .int .i64 (R j).2.1, .int .i64 (R j).2.2.1, .int .i64 (R j).2.2.2][i]? := fun j hj i hi => by
        have := (World.cells?_some (hR j hj)).2.2 i hi
        rwa [Go.WideShapes.add_plain, Go.WideShapes.add_plain] at this
      have hbs : b < W.heap.size := World.block_lt_of_cell? W ⟨b, off + 0 * 4 + 0, none⟩ (hc 0 hpos 0 (by omega))
      exact ⟨some ⟨b, off, none⟩, len, m, fun j => (R j).1, fun j => (R j).2.1, fun j => (R j).2.2, rfl, .inr ⟨b, off, _, rfl, hbs, fun j hj => ⟨hc j hj 0 (by omega), hc j hj 1 (by omega), hc j hj 2 (by omega), hc j hj 3 (by omega)⟩⟩, by omega, by omega⟩
/-- What a law's map is. -/
structure MpLaw (W : World) (x : MV) (m : Mp) : Prop where
  l : MpIn W x m
  bw : m.nw ≤ maxLen
  br : m.nr ≤ maxLen
  cw : m.nw ≤ x.wc
  cr : m.nr ≤ x.rc
set_option maxRecDepth 100000 in
theorem open_map {H : Type} {enc : TypeId × Value → H} {W : World} {base : Nat} {v : Value} {d : DataW H} {p : List MemPlace} (hv : Value.okWide Try.prog W .any base 25 v) (h : DataW.Trod enc Try.prog W 0 (fun _ => true) true 25 v d p) :
    ∃ (x : MV) (m : Mp), v = .agg #[.slice x.wa m.nw x.wc, .slice x.ra m.nr x.rc] ∧ MpLaw W x m := by
  obtain ⟨cs, rfl, hsz⟩ := okWide_struct Try.underlying25 hv
  have hsz2 : cs.size = 2 := hsz.trans (by kernel_rfl)
  obtain ⟨fuel, hf⟩ := h
  obtain ⟨z0, z1, m, _, _, g0, g1⟩ := trod_struct2 Try.underlying25 hf
  have k1 : Try.prog.cellsOf 22 = 1 := by kernel_rfl
  have k2 : Try.prog.cellsOf 23 = 1 := by kernel_rfl
  match cs, hsz2 with
  | ⟨[c0, c1]⟩, _ =>
    simp only [Value.cells, k1, k2, List.drop, List.take] at g0 g1
    obtain ⟨a0, n0, p0, R, rfl, q0, s0, m0⟩ := open_rngs g0
    obtain ⟨a1, n1, p1, ra, rb, rt, rfl, q1, s1, m1⟩ := open_rds n0 R g1
    exact ⟨⟨a0, p0, a1, p1⟩, ⟨n0, R, n1, ra, rb, rt⟩, rfl, ⟨q0, q1⟩, m0, m1, s0, s1⟩
set_option maxRecDepth 100000 in
theorem open_intl {H : Type} {enc : TypeId × Value → H} {W : World} {fuel : Nat} {v : Value} {x : DataW H × List MemPlace} (h : DataW.trod enc Try.prog W 0 (fun _ => true) true fuel 26 [v] = some x) :
    ∃ a n cap z, v = .slice a n cap ∧ IntsIn W (.slice a n cap) n z ∧ n ≤ cap ∧ n ≤ maxLen := by
  rcases Go.Deep.open_slice Try.underlying26 h with ⟨hcs, _⟩ | ⟨a, len, cap, m, n, D, Pl, hcs, _, hl, hm, hmm, _, hx⟩
  · simp at hcs; subst hcs
    exact ⟨none, 0, 0, fun _ => 0, rfl, .inl ⟨_, _, rfl, rfl⟩, Nat.zero_le _, Nat.zero_le _⟩
  · simp at hcs; subst hcs
    simp only [if_true] at hmm
    subst hmm
    have k : Try.prog.cellsOf 3 = 1 := by kernel_rfl
    rw [k] at hx
    obtain ⟨R, hR⟩ := Go.Deep.choose_lt (α := Int) (n := len) (p := fun i (r : Int) => W.cells? 0 (a.add (i * 1)) 1 = some [.int .i64 r]) (fun i hi => by
      obtain ⟨cs', h1, h2⟩ := hx i (by omega)
      obtain ⟨f, e0, _⟩ := DataW.trod_int Try.underlying3 h2
      subst e0
      exact ⟨f, h1⟩)
    rcases Nat.eq_zero_or_pos len with rfl | hpos
    · exact ⟨some a, 0, m, fun _ => 0, rfl, .inl ⟨_, _, rfl, rfl⟩, Nat.zero_le _, Nat.zero_le _⟩
    · have hc0 := (World.cells?_some (hR 0 hpos)).2.2 0 (by omega)
      obtain ⟨b, off, spot⟩ := a
      obtain rfl : spot = none := by simpa [Addr.add] using World.cell?_spot hc0
      have hc : ∀ j, j < len → W.cell? ⟨b, off + j * 1 + 0, none⟩ = some (.int .i64 (R j)) := fun j hj => by
        have := (World.cells?_some (hR j hj)).2.2 0 (by omega)
        rwa [Go.WideShapes.add_plain, Go.WideShapes.add_plain] at this
      have hbs : b < W.heap.size := World.block_lt_of_cell? W ⟨b, off + 0 * 1 + 0, none⟩ (hc 0 hpos)
      refine ⟨some ⟨b, off, none⟩, len, m, R, rfl, .inr ⟨b, off, _, rfl, hbs, fun j hj => ?_⟩, by omega, by omega⟩
      have h := hc j hj; rw [Nat.mul_one, Nat.add_zero] at h; exact h
set_option maxRecDepth 100000 in
theorem open_intsIn {H : Type} {enc : TypeId × Value → H} {W : World} {base : Nat} {v : Value} {d : DataW H} {p : List MemPlace} (hv : Value.okWide Try.prog W .any base 26 v) (h : DataW.Trod enc Try.prog W 0 (fun _ => true) true 26 v d p) :
    ∃ a n cap z, v = .slice a n cap ∧ IntsIn W (.slice a n cap) n z ∧ n ≤ maxLen := by
  obtain ⟨a0, len, cap, rfl⟩ := Go.WideShapes.okWide_slice Try.underlying26 hv
  obtain ⟨fuel, hf⟩ := h
  obtain ⟨a, n, c, z, h1, h2, _, h4⟩ := open_intl (by simpa [Value.cells] using hf)
  exact ⟨a, n, c, z, h1, h2, h4⟩
set_option maxRecDepth 100000 in
theorem open_walkc {H : Type} {enc : TypeId × Value → H} {W : World} {fuel : Nat} {cs : List Value} {x : DataW H × List MemPlace} (h : DataW.trod enc Try.prog W 0 (fun _ => true) true fuel 49 cs = some x) (hl : cs.length = 2) :
    ∃ (u : LV) (y : Wl), cs = [.slice u.ra y.nl u.rc, .slice u.ca y.nc u.cc] ∧ WlIn W u y ∧ y.nl ≤ maxLen ∧ y.nc ≤ maxLen := by
  obtain ⟨z0, z1, m, _, _, g0, g1⟩ := trod_struct2 Try.underlying49 h
  have k1 : Try.prog.cellsOf 26 = 1 := by kernel_rfl
  match cs, hl with
  | [c0, c1], _ =>
    simp only [k1, List.drop, List.take] at g0 g1
    obtain ⟨a0, n0, p0, R, rfl, q0, s0, m0⟩ := open_intl g0
    obtain ⟨a1, n1, p1, C, rfl, q1, s1, m1⟩ := open_intl g1
    exact ⟨⟨a0, p0, a1, p1⟩, ⟨n0, R, n1, C⟩, rfl, ⟨q0, q1⟩, m0, m1⟩
set_option maxRecDepth 100000 in
theorem open_walk {H : Type} {enc : TypeId × Value → H} {W : World} {base : Nat} {v : Value} {d : DataW H} {p : List MemPlace} (hv : Value.okWide Try.prog W .any base 49 v) (h : DataW.Trod enc Try.prog W 0 (fun _ => true) true 49 v d p) :
    ∃ (u : LV) (y : Wl), v = .agg #[.slice u.ra y.nl u.rc, .slice u.ca y.nc u.cc] ∧ WlIn W u y ∧ y.nl ≤ maxLen ∧ y.nc ≤ maxLen := by
  obtain ⟨cs, rfl, hsz⟩ := okWide_struct Try.underlying49 hv
  have hsz2 : cs.size = 2 := hsz.trans (by kernel_rfl)
  obtain ⟨fuel, hf⟩ := h
  obtain ⟨u, y, e, h1, h2, h3⟩ := open_walkc hf (by simpa [Value.cells] using hsz2)
  refine ⟨u, y, ?_, h1, h2, h3⟩
  simp only [Value.cells] at e
  exact congrArg Value.agg (by apply Array.ext'; exact e)
/-- A truth as a law has it: its lists may have any lengths. -/
structure TVL where
  z : TV
  nw : Nat
  nr : Nat
  tw : Nat → Int
  tr : Nat → Int
set_option maxRecDepth 100000 in
theorem open_truth {H : Type} {enc : TypeId × Value → H} {W : World} {base : Nat} {v : Value} {d : DataW H} {p : List MemPlace} (hv : Value.okWide Try.prog W .any base 71 v) (h : DataW.Trod enc Try.prog W 0 (fun _ => true) true 71 v d p) :
    ∃ (t : TVL), v = .agg #[.slice t.z.wa t.nw t.z.wc, .slice t.z.ra t.nr t.z.rc] ∧ IntsIn W (.slice t.z.wa t.nw t.z.wc) t.nw t.tw ∧ IntsIn W (.slice t.z.ra t.nr t.z.rc) t.nr t.tr ∧ t.nw ≤ maxLen ∧ t.nr ≤ maxLen := by
  obtain ⟨cs, rfl, hsz⟩ := okWide_struct Try.underlying71 hv
  have hsz2 : cs.size = 2 := hsz.trans (by kernel_rfl)
  obtain ⟨fuel, hf⟩ := h
  obtain ⟨z0, z1, m, _, _, g0, g1⟩ := trod_struct2 Try.underlying71 hf
  have k1 : Try.prog.cellsOf 26 = 1 := by kernel_rfl
  match cs, hsz2 with
  | ⟨[c0, c1]⟩, _ =>
    simp only [Value.cells, k1, List.drop, List.take] at g0 g1
    obtain ⟨a0, n0, p0, R, rfl, q0, s0, m0⟩ := open_intl g0
    obtain ⟨a1, n1, p1, C, rfl, q1, s1, m1⟩ := open_intl g1
    exact ⟨⟨⟨a0, p0, a1, p1⟩, n0, n1, R, C⟩, rfl, q0, q1, m0, m1⟩
end Go.Proofs.Ytpnkgjkoophckaa

namespace Go.Proofs.Ytpnkgjkoophckaa
open Go.RowKit Go.Shelf Go.Maps

theorem BF.ints {w X : World} {L : List (Nat × Array Value × TypeId)} (h : BF w X L) {b : Nat} {cs : Array Value} {T : TypeId} (hb : (b, cs, T) ∈ L) {n : Nat} {z : Nat → Int} (hz : ∀ j, j < n → cs[j]? = some (.int .i64 (z j))) (c : Nat) : IntsIn X (.slice (some ⟨b, 0, none⟩) n c) n z :=
  .inr ⟨b, 0, c, rfl, (h.lt hb).2, fun j hj => by rw [Nat.zero_add]; exact (h.cell hb j).trans (hz j hj)⟩
theorem aw_bounds (wa ra : Option Addr) (wc rc : Nat) (ua ca : Option Addr) (uc cc : Nat) (w : World) (hM : MpIn w ⟨wa, wc, ra, rc⟩ pm) (hu : IntsIn w (.slice ua 5 uc) 5 py.rt) (hc : IntsIn w (.slice ca 2 cc) 2 py.ct) :
    Calls Try.prog 55 #[.agg #[.slice wa 4 wc, .slice ra 4 rc], .agg #[.slice ua 5 uc, .slice ca 2 cc]] w fun e w' => e = .returned (.tuple #[.agg #[.int .i64 13, .int .i64 18], .int .i64 0]) ∧ Below w.heap.size w w' := by
  have h := bounds_any ⟨wa, wc, ra, rc⟩ pm ⟨ua, uc, ca, cc⟩ py w hM ⟨hu, hc⟩ (by decide) (by decide) (by decide) (by decide)
  rw [pm_bounds.1, pm_bounds.2] at h
  exact h
theorem aw_tour (wa ra : Option Addr) (wc rc : Nat) (a : Option Addr) (cap : Nat) (w : World) (hM : MpIn w ⟨wa, wc, ra, rc⟩ pm) (hz : IntsIn w (.slice a 4 cap) 4 pz) :
    Calls Try.prog 20 #[.agg #[.slice wa 4 wc, .slice ra 4 rc], .slice a 4 cap] w fun e w' => (∃ a1 n1 c1 a2 n2 c2, e = .returned (.tuple #[.agg #[.slice a1 n1 c1, .slice a2 n2 c2], .int .i64 34, .int .i64 0])) ∧ Below w.heap.size w w' := by
  refine (Tour_any ⟨wa, wc, ra, rc⟩ pm a 4 cap pz w hM hz (by decide) (by decide) (by decide)).mono ?_
  rintro e w' ⟨hb, h⟩
  rw [pm_tour.1, pm_tour.2, pm_lg] at h
  rcases h with ⟨h, _⟩ | ⟨_, y, rfl, _⟩
  · exact absurd rfl h
  · exact ⟨⟨_, _, _, _, _, _, rfl⟩, hb⟩
theorem aw_fewest (wa ra : Option Addr) (wc rc : Nat) (w : World) (hM : MpIn w ⟨wa, wc, ra, rc⟩ pm) :
    Calls Try.prog 43 #[.agg #[.slice wa 4 wc, .slice ra 4 rc], .int .i64 16] w fun e w' => e = .returned (.tuple #[.int .i64 3, .int .i64 0]) ∧ Below w.heap.size w w' := by
  refine (Fewest_any ⟨wa, wc, ra, rc⟩ pm 16 w hM (by decide) (by decide)).mono ?_
  rintro e w' ⟨hb, h⟩
  rw [pm_dv.1, pm_dv.2] at h
  exact ⟨h, hb⟩
theorem aw_least (wa ra : Option Addr) (wc rc : Nat) (w : World) (hM : MpIn w ⟨wa, wc, ra, rc⟩ pm) :
    Calls Try.prog 31 #[.agg #[.slice wa 4 wc, .slice ra 4 rc], .int .i64 2] w fun e w' => e = .returned (.tuple #[.int .i64 19, .int .i64 0]) ∧ Below w.heap.size w w' := by
  refine (Least_any ⟨wa, wc, ra, rc⟩ pm 2 w hM (by decide) (by decide)).mono ?_
  rintro e w' h
  rw [pm_lst.1, pm_lst.2] at h
  exact ⟨h.2, h.1⟩
end Go.Proofs.Ytpnkgjkoophckaa

namespace Go.Proofs.Ytpnkgjkoophckaa
open Go.RowKit Go.Shelf Go.Maps

theorem fields_range : (Try.prog.fieldsOf 100).toList.map (fun f => (f.name ≠ "_" : Bool)) = [true, true] ∧ (Try.prog.fieldsOf 100).toList.map (·.type) = [3, 3] ∧ (Try.prog.fieldsOf 100).toList.map (·.offset) = [0, 1] :=
  ⟨by kernel_rfl, by kernel_rfl, by kernel_rfl⟩
theorem eq_range (a b c d : Int) (W : World) : (Op.equalIn 10000 100 (.agg #[.int .i64 a, .int .i64 b]) (.agg #[.int .i64 c, .int .i64 d])).run Try.prog W = .ok (a == c && b == d) W := by
  have hu : Try.prog.underlying 100 = some (.struct (Try.prog.fieldsOf 100)) := by kernel_rfl
  have hp : Try.prog.stoodInHeld 100 = false := by kernel_rfl
  have hk : Try.prog.plainKey 3 = true := by kernel_rfl
  obtain ⟨h1, h2, h3⟩ := fields_range
  rw [run_equalIn_struct W 9999 100 _ _ hu hp]
  generalize (Try.prog.fieldsOf 100).toList = fs at *
  obtain ⟨f0, f1, rfl⟩ : ∃ f0 f1, fs = [f0, f1] := by
    have hl := congrArg List.length h2
    rw [List.length_map] at hl
    exact ⟨fs[0]'(by simp [hl]), fs[1]'(by simp [hl]), List.ext_getElem (by simpa using hl) (fun i hi _ => by
      have : i = 0 ∨ i = 1 := by simp at hl; omega
      rcases this with rfl | rfl <;> rfl)⟩
  simp only [List.map_cons, List.map_nil, List.cons.injEq, and_true, decide_eq_true_eq] at h1 h2 h3
  obtain ⟨n0, n1⟩ := h1
  obtain ⟨t0, t1⟩ := h2
  obtain ⟨o0, o1⟩ := h3
  have p0 := run_part_plain (w := W) hk (xs := #[.int .i64 a, .int .i64 b]) (off := 0) (v := .int .i64 a) rfl
  have p1 := run_part_plain (w := W) hk (xs := #[.int .i64 a, .int .i64 b]) (off := 1) (v := .int .i64 b) rfl
  have p2 := run_part_plain (w := W) hk (xs := #[.int .i64 c, .int .i64 d]) (off := 0) (v := .int .i64 c) rfl
  have p3 := run_part_plain (w := W) hk (xs := #[.int .i64 c, .int .i64 d]) (off := 1) (v := .int .i64 d) rfl
  have q0 := run_equalIn_int W 9998 3 .i64 .i64 a c Try.underlying3
  have q1 := run_equalIn_int W 9998 3 .i64 .i64 b d Try.underlying3
  simp only [Op.eqFields, n0, n1, t0, t1, o0, o1, ne_eq, not_false_eq_true, if_true, Sem.run_bind, Result.andThen_ok, p0, p2, q0]
  cases h0 : (a == c)
  · rfl
  · simp only [Bool.not_true, Bool.false_eq_true, if_false, Sem.run_bind, Result.andThen_ok, p1, p3, q1]
    cases h1 : (b == d) <;> rfl
theorem eql_range (a b c d : Int) (W : World) : (binOp .eql 100 (.agg #[.int .i64 a, .int .i64 b]) (.agg #[.int .i64 c, .int .i64 d])).run Try.prog W = .ok (.bool (a == c && b == d)) W := by
  rw [run_eql_struct, eq_range]; rfl
theorem eql_same (a b : Int) (W : World) : (binOp .eql 100 (.agg #[.int .i64 a, .int .i64 b]) (.agg #[.int .i64 a, .int .i64 b])).run Try.prog W = .ok (.bool true) W := by
  rw [eql_range]; simp
theorem pz_rt : ∀ j, j < 5 → (#[.int .i64 0, .int .i64 1, .int .i64 2, .int .i64 1, .int .i64 0] : Array Value)[j]? = some (.int .i64 (py.rt j)) := fun j hj => by rcases j with _ | _ | _ | _ | _ | j <;> first | rfl | exact absurd hj (by omega)
theorem pz_ct : ∀ j, j < 2 → (#[.int .i64 1, .int .i64 2] : Array Value)[j]? = some (.int .i64 (py.ct j)) := fun j hj => by rcases j with _ | _ | j <;> first | rfl | exact absurd hj (by omega)
theorem pz_pl : ∀ j, j < 4 → (#[.int .i64 0, .int .i64 1, .int .i64 2, .int .i64 3] : Array Value)[j]? = some (.int .i64 (pz j)) := fun j hj => by rcases j with _ | _ | _ | _ | j <;> first | rfl | exact absurd hj (by omega)
set_option maxRecDepth 100000 in
set_option maxHeartbeats 16000000 in
theorem awake_any (w : World) : Calls Try.prog 19 #[] w fun e w' => e = .returned (.bool true) ∧ Below w.heap.size w w' := by
  go_enter Try.func19, Try.ntmps19
  go_wp2_with fail
  refine (parish_any _).mono ?_
  rintro _ w1 ⟨⟨wa, wc, ra, rc⟩, rfl, hm, hb⟩
  have HB1 := Lib.hid hb
  have HX2 := Lib.hid (BF.made2 w1 #[.int .i64 0, .int .i64 1, .int .i64 2, .int .i64 1, .int .i64 0] #[.int .i64 1, .int .i64 2] 3 3)
  have HM2 := Lib.hid (hm.below HX2.out.fr)
  have HW2 := Lib.hid (HX2.out.ints (z := py.rt) (.head _) pz_rt 5)
  have HC2 := Lib.hid (HX2.out.ints (z := py.ct) (.tail _ (.head _)) pz_ct 2)
  have HB2 := Lib.hid (HB1.out.trans (HX2.out.fr.mono HB1.out.size))
  clear hm hb HX2
  simp only
  go_wp2_with fail
  refine (aw_bounds wa ra wc rc _ _ _ _ _ HM2.out HW2.out HC2.out).mono ?_
  rintro _ w2 ⟨rfl, hb⟩
  have HB3 := Lib.hid (below_step HB2.out hb)
  clear HB1 HB2 HM2 HW2 HC2 hb
  go_wp2_with fail
  have HX4 := Lib.hid ((BF.base w2).alloc #[.int .i64 13, .int .i64 18] 100)
  have hs4 : w2.heap.size < (w2.alloc (.cells #[.int .i64 13, .int .i64 18] 100)).heap.size := by simp
  have HW4 := Lib.hid (below_step HB3.out HX4.out.fr)
  clear HB3
  generalize w2.alloc (.cells #[.int .i64 13, .int .i64 18] 100) = w3 at *
  refine (parish_any _).mono ?_
  rintro _ w4 ⟨⟨wa, wc, ra, rc⟩, rfl, hm, hb⟩
  have HX5 := Lib.hid (HX4.out.below hb)
  have HW5 := Lib.hid (below_step HW4.out hb)
  have HX6 := Lib.hid ((BF.base w4).alloc #[.int .i64 0, .int .i64 1, .int .i64 2, .int .i64 3] 3)
  have HM6 := Lib.hid (hm.below HX6.out.fr)
  have HC6 := Lib.hid (HX6.out.ints (z := pz) (.head _) pz_pl 4)
  have HX7 := Lib.hid (HX5.out.below HX6.out.fr)
  have HW7 := Lib.hid (below_step HW5.out HX6.out.fr)
  clear hm hb HX4 HX5 HX6 HW4 HW5
  simp only
  go_wp2_with fail
  generalize w4.alloc (.cells #[.int .i64 0, .int .i64 1, .int .i64 2, .int .i64 3] 3) = w5 at *
  refine (aw_tour wa ra wc rc _ _ _ HM6.out HC6.out).mono ?_
  rintro _ w6 ⟨⟨a1, n1, c1, a2, n2, c2, rfl⟩, hb⟩
  have HX8 := Lib.hid (HX7.out.below hb)
  have HW8 := Lib.hid (below_step HW7.out hb)
  clear hb HX7 HW7 HM6 HC6 hs4
  go_wp2_with fail
  have HX9 := Lib.hid (HX8.out.below (below_alloc w6 (.cells #[.slice a1 n1 c1, .slice a2 n2 c2] 30)))
  have HW9 := Lib.hid (below_step HW8.out (below_alloc w6 (.cells #[.slice a1 n1 c1, .slice a2 n2 c2] 30)))
  clear HX8 HW8
  generalize w6.alloc (.cells #[.slice a1 n1 c1, .slice a2 n2 c2] 30) = w7 at *
  refine (parish_any _).mono ?_
  rintro _ w8 ⟨⟨wa, wc, ra, rc⟩, rfl, hm, hb⟩
  have HX10 := Lib.hid (HX9.out.below hb)
  have HW10 := Lib.hid (below_step HW9.out hb)
  have HM10 := Lib.hid hm
  clear HX9 HW9 hm hb
  simp only
  go_wp2_with fail
  refine (aw_fewest wa ra wc rc _ HM10.out).mono ?_
  rintro _ w9 ⟨rfl, hb⟩
  have HX11 := Lib.hid (HX10.out.below hb)
  have HW11 := Lib.hid (below_step HW10.out hb)
  clear HX10 HW10 HM10 hb
  go_wp2_with fail
  refine (parish_any _).mono ?_
  rintro _ w10 ⟨⟨wa, wc, ra, rc⟩, rfl, hm, hb⟩
  have HX12 := Lib.hid (HX11.out.below hb)
  have HW12 := Lib.hid (below_step HW11.out hb)
  have HM12 := Lib.hid hm
  clear HX11 HW11 hm hb
  simp only
  go_wp2_with fail
  refine (aw_least wa ra wc rc _ HM12.out).mono ?_
  rintro _ w11 ⟨rfl, hb⟩
  have HX13 := Lib.hid (HX12.out.below hb)
  have HW13 := Lib.hid (below_step HW12.out hb)
  clear HX12 HW12 HM12 hb
  go_wp2_with fail
  have HE := Lib.hid (fun W => eql_same 13 18 W)
  have HAX : Hid (BF w2 w11.drew [(w2.heap.size, #[.int .i64 13, .int .i64 18], 100)]) := HX13.out.below (Below.refl _ _).drew
  have HWX : Hid (Below w.heap.size w w11.drew) := HW13.out.drew
  clear HX13 HW13
  obtain ⟨RB, hRB⟩ : ∃ RB, w2.heap.size = RB := ⟨_, rfl⟩
  rw [hRB] at HAX ⊢
  clear hRB
  refine wp_region_Z (S := fun X => X.cell? ⟨RB, 0, none⟩ = some (.int .i64 13) ∧ X.cell? ⟨RB, 1, none⟩ = some (.int .i64 18)) (by kernel_rfl) (⟨HAX.out.cell (.head _) 0, HAX.out.cell (.head _) 1⟩) (fun hS => ?_)
  generalize w11.drew = X at *
  refine tk [0, 1, 2, 3] ?_
  repeat (refine tkZ (oi := ⟨_, _, _, _, _, _⟩) (v := ?_) rfl (by kernel_rfl) (by rfl) (fun _ _ _ h => h) hS ?_ ?_; rotate_left; (· rintro W' ⟨z0, z1⟩; go_simp; try with_reducible rfl); try simp only [Act.put, putA, putZ, putS])
  refine tk0 ?_
  refine wpAnyZ_next (rs := [4]) (by kernel_rfl) (by simp) ?_
  refine NextZ.cons (o := ⟨some 39, _, _, _, _, _⟩) rfl (fun K hK => ?_) NextZ.nil
  go_simp
  refine (between_any _ _ _).mono ?_
  rintro _ X0 ⟨rfl, hb0⟩
  (try go_wp2_with fail)
  have HA0 := Lib.hid (HAX.out.below hb0)
  have HW0 := Lib.hid (below_step HWX.out hb0)
  refine hK.out _ _ (⟨HA0.out.cell (.head _) 0, HA0.out.cell (.head _) 1⟩) (fun hS => ?_)
  clear hK K
  try simp only [Act.put, putA, putZ, putS]
  clear hb0
  refine tk [5, 6, 7, 8, 9, 10, 11, 12, 13, 14, 15, 16, 17, 18, 19, 20, 21, 22, 23, 24, 25, 26, 27, 28, 29, 30, 31] ?_
  repeat (refine tkZ (oi := ⟨_, _, _, _, _, _⟩) (v := ?_) rfl (by kernel_rfl) (by rfl) (fun _ _ _ h => h) hS ?_ ?_; rotate_left; (· rintro W' ⟨z0, z1⟩; go_simp; try with_reducible rfl); try simp only [Act.put, putA, putZ, putS])
  refine tk0 ?_
  refine wpAnyZ_done (by kernel_rfl) ?_ _
  go_wp2
  go_ret
  exact ⟨rfl, HW0.out⟩
end Go.Proofs.Ytpnkgjkoophckaa

namespace Go.Proofs.Ytpnkgjkoophckaa
open Go.RowKit Go.Shelf

theorem Try.infoRangeW : (Try.prog.info? 100).map (fun i => (i.zero, i.size, i.bytes)) = some (some (.agg #[.int .i64 0, .int .i64 0]), 2, 16) := by kernel_rfl
theorem Try.infoRoadW : (Try.prog.info? 120).map (fun i => (i.zero, i.size, i.bytes)) = some (some (.agg #[.int .i64 0, .int .i64 0, .int .i64 0, .int .i64 0]), 4, 32) := by kernel_rfl
theorem Try.infoRangeF : (Try.prog.info? 77).map (fun i => (i.zero, i.size, i.bytes)) = some (some (.agg #[.int .i64 0, .int .i64 0]), 2, 16) := by kernel_rfl
theorem Try.infoRoadF : (Try.prog.info? 79).map (fun i => (i.zero, i.size, i.bytes)) = some (some (.agg #[.int .i64 0, .int .i64 0, .int .i64 0, .int .i64 0]), 4, 32) := by kernel_rfl
set_option maxHeartbeats 1000000 in
theorem to_any (a b : Int) (w : World) : Calls Try.prog 72 #[.agg #[.int .i64 a, .int .i64 b]] w fun e w' => e = .returned (.agg #[.int .i64 a, .int .i64 b]) ∧ Below w.heap.size w w' := by
  obtain ⟨i0, hi0, hz0, hz1, hz2⟩ := info_parts Try.infoRangeF
  obtain ⟨i1, hi1, hy0, hy1, hy2⟩ := info_parts Try.infoRangeW
  go_enter Try.func72, Try.ntmps72
  go_wp2
  exact bodyPost_ret (v := .agg #[.int .i64 a, .int .i64 b]) (by simp [results, Try.results72, go_sem]) rfl ⟨rfl, (below_alloc _ _).alloc (by simp) _⟩
/-- The cells of ranges; of roads. -/
def fR (R : Nat → R2) (n : Nat) : List Value := (List.range n).flatMap fun g => [.int .i64 (R g).1, .int .i64 (R g).2]
theorem fR_succ (R : Nat → R2) (n : Nat) : fR R (n + 1) = fR R n ++ [.int .i64 (R n).1, .int .i64 (R n).2] := by
  unfold fR; rw [List.range_succ, List.flatMap_append]; rfl
theorem fR_length (R : Nat → R2) (n : Nat) : (fR R n).length = n * 2 := by
  induction n with
  | zero => rfl
  | succ n ih => rw [fR_succ, List.length_append, ih]; simp; omega
theorem fR_get (R : Nat → R2) (n k : Nat) (h : k < n) : (fR R n)[k * 2]? = some (.int .i64 (R k).1) ∧ (fR R n)[k * 2 + 1]? = some (.int .i64 (R k).2) := by
  induction n with
  | zero => omega
  | succ n ih =>
    rw [fR_succ]
    have hl := fR_length R n
    rcases Nat.lt_succ_iff_lt_or_eq.1 h with h | rfl
    · rw [List.getElem?_append_left (by omega), List.getElem?_append_left (by omega)]; exact ih h
    · rw [List.getElem?_append_right (by omega), List.getElem?_append_right (by omega), hl]
      simp
def fD (m : Mp) (n : Nat) : List Value := (List.range n).flatMap fun g => [.int .i64 (m.ra g), .int .i64 (m.rb g), .int .i64 (m.rt g).1, .int .i64 (m.rt g).2]
theorem fD_succ (m : Mp) (n : Nat) : fD m (n + 1) = fD m n ++ [.int .i64 (m.ra n), .int .i64 (m.rb n), .int .i64 (m.rt n).1, .int .i64 (m.rt n).2] := by
  unfold fD; rw [List.range_succ, List.flatMap_append]; rfl
theorem fD_length (m : Mp) (n : Nat) : (fD m n).length = n * 4 := by
  induction n with
  | zero => rfl
  | succ n ih => rw [fD_succ, List.length_append, ih]; simp; omega
theorem fD_get (m : Mp) (n k : Nat) (h : k < n) : (fD m n)[k * 4]? = some (.int .i64 (m.ra k)) ∧ (fD m n)[k * 4 + 1]? = some (.int .i64 (m.rb k)) ∧ (fD m n)[k * 4 + 2]? = some (.int .i64 (m.rt k).1) ∧ (fD m n)[k * 4 + 3]? = some (.int .i64 (m.rt k).2) := by
  induction n with
  | zero => omega
  | succ n ih =>
    rw [fD_succ]
    have hl := fD_length m n
    rcases Nat.lt_succ_iff_lt_or_eq.1 h with h | rfl
    · rw [List.getElem?_append_left (by omega), List.getElem?_append_left (by omega), List.getElem?_append_left (by omega), List.getElem?_append_left (by omega)]; exact ih h
    · rw [List.getElem?_append_right (by omega), List.getElem?_append_right (by omega), List.getElem?_append_right (by omega), List.getElem?_append_right (by omega), hl]
      simp
theorem RsIn.own {W : World} {base : Nat} {T : TypeId} {v : Value} {n : Nat} {R : Nat → R2} (h : W.ownsRow base T 2 v n (fR R n)) : RsIn W v n R := by
  rcases h.2 with ⟨rfl, rfl⟩ | ⟨g, cap, cur, rfl, _, hg, _⟩
  · exact .inl ⟨none, 0, rfl, rfl⟩
  · refine .inr ⟨g, 0, cap, rfl, (Array.getElem?_eq_some_iff.1 hg).1, fun j hj => ?_⟩
    obtain ⟨h0, h1⟩ := fR_get R n j hj
    rw [Nat.zero_add]
    exact ⟨(h.cellAt _ (by omega)).trans h0, (h.cellAt _ (by omega)).trans h1⟩
theorem RdIn.own {W : World} {base : Nat} {T : TypeId} {v : Value} {n : Nat} {m : Mp} (h : W.ownsRow base T 4 v n (fD m n)) : RdIn W v n m := by
  rcases h.2 with ⟨rfl, rfl⟩ | ⟨g, cap, cur, rfl, _, hg, _⟩
  · exact .inl ⟨none, 0, rfl, rfl⟩
  · refine .inr ⟨g, 0, cap, rfl, (Array.getElem?_eq_some_iff.1 hg).1, fun j hj => ?_⟩
    obtain ⟨h0, h1, h2, h3⟩ := fD_get m n j hj
    rw [Nat.zero_add]
    exact ⟨(h.cellAt _ (by omega)).trans h0, (h.cellAt _ (by omega)).trans h1, (h.cellAt _ (by omega)).trans h2, (h.cellAt _ (by omega)).trans h3⟩
set_option maxRecDepth 100000 in
set_option maxHeartbeats 8000000 in
theorem mapC_any (x : MV) (m : Mp) (w : World) (h : MpIn w x m) (hnw : m.nw ≤ 100000) (hnr : m.nr ≤ 100000) :
    Calls Try.prog 21 #[.agg #[.slice x.wa m.nw x.wc, .slice x.ra m.nr x.rc]] w fun e w' => ∃ z : MV, e = .returned (.agg #[.slice z.wa m.nw z.wc, .slice z.ra m.nr z.rc]) ∧ MpIn w' z m ∧ Below w.heap.size w w' := by
  obtain ⟨i0, hi0, hiz0, hiz1, hiz2⟩ := info_parts Try.infoRangeW
  obtain ⟨j0, hj0, hjz0, hjz1, hjz2⟩ := info_parts Try.infoRoadW
  obtain ⟨pa, pc, qa, qc⟩ := x
  obtain ⟨hwk, hrd⟩ := h
  have HWK := Lib.hid hwk; have HRD := Lib.hid hrd
  clear hwk hrd
  simp only at *
  have HEND : Hid (∀ (Y : World) (va : Option Addr) (vc : Nat) (sa : Option Addr) (sc : Nat), Rws w.heap.size Y [⟨100, 2, .slice va m.nw vc, m.nw, fR m.wk m.nw⟩, ⟨120, 4, .slice sa m.nr sc, m.nr, fD m m.nr⟩] → MpIn Y ⟨va, vc, sa, sc⟩ m) := fun Y va vc sa sc h => ⟨RsIn.own (h.own 0 _ rfl), RdIn.own (h.own 1 _ rfl)⟩
  obtain ⟨nw, HNW⟩ : ∃ nw, Hid (m.nw = nw) := ⟨_, rfl⟩
  obtain ⟨nr, HNR⟩ : ∃ nr, Hid (m.nr = nr) := ⟨_, rfl⟩
  rw [HNW.out, HNR.out] at HEND
  rw [HNW.out] at HWK hnw ⊢
  rw [HNR.out] at HRD hnr ⊢
  clear HNW HNR
  have HA0 : Hid (BF w (((w.alloc (.cells #[.slice pa nw pc, .slice qa nr qc] 25)).alloc (.cells #[.slice none 0 0, .slice none 0 0] 37)).alloc (.cells #[.slice none 0 0, .slice none 0 0] 37)) [(w.heap.size, #[.slice pa nw pc, .slice qa nr qc], 25), (w.heap.size + 1, #[.slice none 0 0, .slice none 0 0], 37), (w.heap.size + 2, #[.slice none 0 0, .slice none 0 0], 37)]) := BF.made3 _ _ _ _ _ _ _
  have HR0 : Hid (Rws w.heap.size (((w.alloc (.cells #[.slice pa nw pc, .slice qa nr qc] 25)).alloc (.cells #[.slice none 0 0, .slice none 0 0] 37)).alloc (.cells #[.slice none 0 0, .slice none 0 0] 37)) [⟨100, 2, .slice none 0 0, 0, fR m.wk 0⟩, ⟨120, 4, .slice none 0 0, 0, fD m 0⟩]) := by
    refine ⟨fun i p hp => ?_, fun i j p q _ hp _ k e => ?_⟩
    · match i, hp with
      | 0, hp => cases hp; exact World.ownsRow_nil _ _ _ _
      | 1, hp => cases hp; exact World.ownsRow_nil _ _ _ _
    · match i, hp with
      | 0, hp => cases hp; cases e
      | 1, hp => cases hp; cases e
  go_enter Try.func21, Try.ntmps21
  go_wp2_with fail
  generalize (((w.alloc (.cells #[.slice pa nw pc, .slice qa nr qc] 25)).alloc (.cells #[.slice none 0 0, .slice none 0 0] 37)).alloc (.cells #[.slice none 0 0, .slice none 0 0] 37)) = w0 at *
  go_loopw [4] (fun i wr => ∃ k va vc, i = .int .i64 (k : Nat) ∧ k ≤ nw ∧ BF w wr [(w.heap.size, #[.slice pa nw pc, .slice qa nr qc], 25), (w.heap.size + 1, #[.slice none 0 0, .slice none 0 0], 37), (w.heap.size + 2, #[.slice va k vc, .slice none 0 0], 37)] ∧ Rws w.heap.size wr [⟨100, 2, .slice va k vc, k, fR m.wk k⟩, ⟨120, 4, .slice none 0 0, 0, fD m 0⟩]) (fun i _ => nw - (intOf i).toNat)
  case atStart => exact ⟨0, none, 0, rfl, Nat.zero_le _, HA0.out, HR0.out⟩
  case round =>
    clear HA0 HR0
    obtain ⟨k, va, vc, rfl, hk, hbf, hrw⟩ := hrel
    have HA0 := Lib.hid hbf; have HR0 := Lib.hid hrw
    clear hbf hrw
    have c0 := HA0.out.cell (.head _) 0; have c1 := HA0.out.cell (.head _) 1
    by_cases hlt : k < nw
    · obtain ⟨b, off, rfl, hb, x0, x1⟩ := HWK.out.at (k := k) hlt
      have HIL : Hid (fR m.wk (k + 1) = fR m.wk k ++ [.int .i64 (m.wk k).1, .int .i64 (m.wk k).2]) := fR_succ _ _
      have ki : (0 : Int) ≤ (k : Int) := by omega
      have kj : (k : Int) < (nw : Int) := by omega
      generalize (m.wk k).1 = lo at *
      generalize (m.wk k).2 = hi at *
      go_upto_region 5 with fail
      have hsz := HA0.out.fr.size
      have hlO := (HA0.out.lt (.tail _ (.tail _ (.head _)))).2
      have hlR := (HA0.out.lt (.tail _ (.head _))).2
      have hlM := (HA0.out.lt (.head _)).2
      have HAX : Hid (BF w wr.drew [(w.heap.size, #[.slice (some ⟨b, off, none⟩) nw pc, .slice qa nr qc], 25), (w.heap.size + 1, #[.slice none 0 0, .slice none 0 0], 37), (w.heap.size + 2, #[.slice va k vc, .slice none 0 0], 37)]) := HA0.out.below (Below.refl _ _).drew
      have HRX : Hid (Rws w.heap.size wr.drew [⟨100, 2, .slice va k vc, k, fR m.wk k⟩, ⟨120, 4, .slice none 0 0, 0, fD m 0⟩]) := HR0.out.below (Below.refl _ _).drew
      clear c0 c1 HA0 HR0
      refine wp_region_Z (S := fun X => X.cell? ⟨b, off + k * 2, none⟩ = some (.int .i64 lo) ∧ X.cell? ⟨b, off + k * 2 + 1, none⟩ = some (.int .i64 hi) ∧ X.cell? ⟨w.heap.size, 0, none⟩ = some (.slice (some ⟨b, off, none⟩) nw pc) ∧ X.cell? ⟨w.heap.size + 2, 0, none⟩ = some (.slice va k vc)) (by kernel_rfl) (⟨kept HAX.out.fr hb x0, kept HAX.out.fr hb x1, HAX.out.cell (.head _) 0, HAX.out.cell (.tail _ (.tail _ (.head _))) 0⟩) (fun hS => ?_)
      generalize wr.drew = X at *
      refine tk [0, 1, 2, 3, 4, 5, 6] ?_
      repeat (refine tkZ (oi := ⟨_, _, _, _, _, _⟩) (v := ?_) rfl (by kernel_rfl) (by rfl) (fun _ _ _ h => h) hS ?_ ?_; rotate_left; (· rintro W' ⟨z0, z1, z2, z3⟩; go_simp; try with_reducible rfl); try simp only [Act.put, putA, putZ, putS])
      refine tk0 ?_
      refine wpAnyZ_next (rs := [7]) (by kernel_rfl) (by simp) ?_
      refine NextZ.cons (o := ⟨some 21, _, _, _, _, _⟩) rfl (fun K hK => ?_) NextZ.nil
      go_simp
      refine (to_any _ _ _).mono ?_
      rintro _ X0 ⟨rfl, hb0⟩
      (try go_wp2_with fail)
      have HA0 := Lib.hid (HAX.out.below hb0)
      have HR0 := Lib.hid (HRX.out.below hb0)
      refine hK.out _ _ (⟨kept HA0.out.fr hb x0, kept HA0.out.fr hb x1, HA0.out.cell (.head _) 0, HA0.out.cell (.tail _ (.tail _ (.head _))) 0⟩) (fun hS => ?_)
      clear hK K
      try simp only [Act.put, putA, putZ, putS]
      clear hb0
      refine wpAnyZ_next (rs := [8]) (by kernel_rfl) (by simp) ?_
      refine NextZ.cons (o := ⟨some 22, _, _, _, _, _⟩) rfl (fun K hK => ?_) NextZ.nil
      go_simp
      have HA1 := Lib.hid (HA0.out.below (below_alloc X0 (.cells #[.int .i64 lo, .int .i64 hi] 100)))
      have HR1 := Lib.hid (HR0.out.below (below_alloc X0 (.cells #[.int .i64 lo, .int .i64 hi] 100)))
      have HJ : Hid ((X0.alloc (.cells #[.int .i64 lo, .int .i64 hi] 100)).heap[X0.heap.size]? = some (.cells #[.int .i64 lo, .int .i64 hi] 100 (0, 0))) := heap_alloc_new _ _
      refine hK.out _ _ (⟨kept HA1.out.fr hb x0, kept HA1.out.fr hb x1, HA1.out.cell (.head _) 0, HA1.out.cell (.tail _ (.tail _ (.head _))) 0⟩) (fun hS => ?_)
      clear hK K
      try simp only [Act.put, putA, putZ, putS]
      generalize X0.heap.size = J at *
      generalize (X0.alloc (.cells #[.int .i64 lo, .int .i64 hi] 100)) = X1 at *
      refine wpAnyZ_next (rs := [9]) (by kernel_rfl) (by simp) ?_
      refine NextZ.cons (o := ⟨some 23, _, _, _, _, _⟩) rfl (fun K hK => ?_) NextZ.nil
      refine step_append_src X1 (by rfl) (.tmp 15) (.tmp 22) 34 (by rfl) w.heap.size 100 i0 (.agg #[.int .i64 0, .int .i64 0]) 2 16 Try.underlying34 hi0 hiz0 hiz1 hiz2 rfl (by decide) (.slice va k vc) k (fR m.wk k) (by rfl) (HR1.out.own 0 _ rfl) (some ⟨J, 0, none⟩) 1 1 [.int .i64 lo, .int .i64 hi] (by rfl) ⟨rfl, fun j u hu => ⟨_, rfl, World.news_of_block HJ.out j u hu⟩⟩ (by simp [Value.oneCell']) (by unfold maxLen; omega) (by omega) HA1.out.fr.size ?_
      intro v2 X2 hown hgr hl
      rw [← HIL.out] at hown
      obtain ⟨na, nc, rfl⟩ := own_slice' hown
      have HA2 := Lib.hid (BF.grow HA1.out HR1.out (i := 0) rfl (List.forall_mem_cons.2 ⟨(show 25 ≠ 100 by decide), List.forall_mem_cons.2 ⟨(show 37 ≠ 100 by decide), List.forall_mem_cons.2 ⟨(show 37 ≠ 100 by decide), List.forall_mem_nil _⟩⟩⟩) (Nat.le_refl _) hgr)
      have HR2 : Hid (Rws w.heap.size X2 [⟨100, 2, .slice na (k + 1) nc, (k + 1), fR m.wk ((k + 1))⟩, ⟨120, 4, .slice none 0 0, 0, fD m 0⟩]) := HR1.out.app2 (i := 0) rfl hown hgr hl
      clear hown hgr hl
      refine hK.out _ _ (⟨kept HA2.out.fr hb x0, kept HA2.out.fr hb x1, HA2.out.cell (.head _) 0, HA2.out.cell (.tail _ (.tail _ (.head _))) 0⟩) (fun hS => ?_)
      clear hK K
      try simp only [Act.put, putA, putZ, putS]
      refine tZ 10 (oi := ⟨_, _, _, _, _, _⟩) (v := ?_) rfl (by kernel_rfl) (by rfl) (fun _ _ _ h => h) hS ?_ ?_
      rotate_left
      · rintro W' ⟨z0, z1, z2, z3⟩; go_simp; try with_reducible rfl
      try simp only [Act.put, putA, putZ, putS]
      refine wpAnyZ_next (rs := [11]) (by kernel_rfl) (by simp) ?_
      refine NextZ.last (o := ⟨none, _, _, _, _, _⟩) rfl (by kernel_rfl) (fun K hK => ?_)
      have e0 := HA2.out.cell (.tail _ (.tail _ (.head _))) 0
      have f0 := HA2.out.thaw (.tail _ (.tail _ (.head _))) 0
      have HA3 := Lib.hid (BF.set1 (i := 0) (cs' := #[.slice na (k + 1) nc, .slice none 0 0]) HA2.out (.tail _ (.tail _ (.head _))) (.slice na (k + 1) nc) (by simp) rfl (L' := [(w.heap.size, #[.slice (some ⟨b, off, none⟩) nw pc, .slice qa nr qc], 25), (w.heap.size + 1, #[.slice none 0 0, .slice none 0 0], 37)]) (List.forall_mem_cons.2 ⟨⟨show w.heap.size ≠ w.heap.size + 2 by omega, (.head _)⟩, List.forall_mem_cons.2 ⟨⟨show w.heap.size + 1 ≠ w.heap.size + 2 by omega, (.tail _ (.head _))⟩, List.forall_mem_nil _⟩⟩))
      have HR3 := Lib.hid (HR2.out.tab (HA2.out.bk _ _ _ (.tail _ (.tail _ (.head _)))).2 (List.forall_mem_cons.2 ⟨(show 37 ≠ 100 by decide), List.forall_mem_cons.2 ⟨(show 37 ≠ 120 by decide), List.forall_mem_nil _⟩⟩) (Fr.set X2 (w.heap.size + 2) 0 (.slice na (k + 1) nc)))
      go_simp
      refine hK.out _ _ ?_
      clear hK K
      (try simp only [Act.put])
      clear e0 f0
      refine wpAnyZ_done (by kernel_rfl) ?_ _
      go_wp2_with fail
      go_roundw
      case rel => exact ⟨k + 1, na, nc, by go_num, by omega, HA3.out.sub (List.forall_mem_cons.2 ⟨(.tail _ (.head _)), List.forall_mem_cons.2 ⟨(.tail _ (.tail _ (.head _))), List.forall_mem_cons.2 ⟨(.head _), List.forall_mem_nil _⟩⟩⟩), HR3.out⟩
      case measure => simp [intOf]; omega
    · have hkn : nw = k := by omega
      subst hkn
      go_wp2_with fail
      go_loopw [5] (fun i wr => ∃ k sa sc, i = .int .i64 (k : Nat) ∧ k ≤ nr ∧ BF w wr [(w.heap.size, #[.slice pa nw pc, .slice qa nr qc], 25), (w.heap.size + 1, #[.slice none 0 0, .slice none 0 0], 37), (w.heap.size + 2, #[.slice va nw vc, .slice sa k sc], 37)] ∧ Rws w.heap.size wr [⟨100, 2, .slice va nw vc, nw, fR m.wk nw⟩, ⟨120, 4, .slice sa k sc, k, fD m k⟩]) (fun i _ => nr - (intOf i).toNat)
      case atStart => exact ⟨0, none, 0, rfl, Nat.zero_le _, HA0.out, HR0.out⟩
      case round =>
        clear HA0 HR0 c0 c1
        obtain ⟨k, sa, sc, rfl, hk2, hbf, hrw⟩ := hrel
        rename World => wy
        have HA0 := Lib.hid hbf; have HR0 := Lib.hid hrw
        clear hbf hrw
        have c0 := HA0.out.cell (.head _) 0; have c1 := HA0.out.cell (.head _) 1
        by_cases hlt2 : k < nr
        · obtain ⟨b, off, rfl, hb, x0, x1, x2, x3⟩ := HRD.out.at (k := k) hlt2
          have y0 := kept HA0.out.fr hb x0
          have y1 := kept HA0.out.fr hb x1
          have y2 := kept HA0.out.fr hb x2
          have y3 := kept HA0.out.fr hb x3
          have HIL : Hid (fD m (k + 1) = fD m k ++ [.int .i64 (m.ra k), .int .i64 (m.rb k), .int .i64 (m.rt k).1, .int .i64 (m.rt k).2]) := fD_succ _ _
          have ki : (0 : Int) ≤ (k : Int) := by omega
          have kj : (k : Int) < (nr : Int) := by omega
          generalize m.ra k = za at *
          generalize m.rb k = zb at *
          generalize (m.rt k).1 = lo at *
          generalize (m.rt k).2 = hi at *
          go_upto_region 10 with fail
          have HA1 := Lib.hid (HA0.out.alloc #[.int .i64 za, .int .i64 zb, .int .i64 lo, .int .i64 hi] 79)
          have HR1 := Lib.hid (HR0.out.below (below_alloc wy (.cells #[.int .i64 za, .int .i64 zb, .int .i64 lo, .int .i64 hi] 79)))
          have hsz := HA0.out.fr.size
          have hlO := (HA0.out.lt (.tail _ (.tail _ (.head _)))).2
          have hlR := (HA0.out.lt (.tail _ (.head _))).2
          have hlM := (HA0.out.lt (.head _)).2
          obtain ⟨RB, hRB⟩ : ∃ RB, wy.heap.size = RB := ⟨_, rfl⟩
          have HAX : Hid (BF w (wy.alloc (.cells #[.int .i64 za, .int .i64 zb, .int .i64 lo, .int .i64 hi] 79)).drew [(RB, #[.int .i64 za, .int .i64 zb, .int .i64 lo, .int .i64 hi], 79), (w.heap.size, #[.slice pa nw pc, .slice (some ⟨b, off, none⟩) nr qc], 25), (w.heap.size + 1, #[.slice none 0 0, .slice none 0 0], 37), (w.heap.size + 2, #[.slice va nw vc, .slice sa k sc], 37)]) := by rw [← hRB]; exact HA1.out.below (Below.refl _ _).drew
          have HRX : Hid (Rws w.heap.size (wy.alloc (.cells #[.int .i64 za, .int .i64 zb, .int .i64 lo, .int .i64 hi] 79)).drew [⟨100, 2, .slice va nw vc, nw, fR m.wk nw⟩, ⟨120, 4, .slice sa k sc, k, fD m k⟩]) := HR1.out.below (Below.refl _ _).drew
          rw [hRB] at hlO hlR hlM ⊢
          clear y0 y1 y2 y3 x0 x1 x2 x3 c0 c1 HA0 HA1 HR0 HR1 hRB hb
          refine wp_region_Z (S := fun X => X.cell? ⟨RB, 0, none⟩ = some (.int .i64 za) ∧ X.cell? ⟨RB, 1, none⟩ = some (.int .i64 zb) ∧ X.cell? ⟨RB, 2, none⟩ = some (.int .i64 lo) ∧ X.cell? ⟨RB, 3, none⟩ = some (.int .i64 hi) ∧ X.cell? ⟨w.heap.size + 2, 1, none⟩ = some (.slice sa k sc)) (by kernel_rfl) (⟨HAX.out.cell (.head _) 0, HAX.out.cell (.head _) 1, HAX.out.cell (.head _) 2, HAX.out.cell (.head _) 3, HAX.out.cell (.tail _ (.tail _ (.tail _ (.head _)))) 1⟩) (fun hS => ?_)
          generalize (wy.alloc (.cells #[.int .i64 za, .int .i64 zb, .int .i64 lo, .int .i64 hi] 79)).drew = X at *
          refine tk [0, 1, 2, 3, 4, 5, 6, 7] ?_
          repeat (refine tkZ (oi := ⟨_, _, _, _, _, _⟩) (v := ?_) rfl (by kernel_rfl) (by rfl) (fun _ _ _ h => h) hS ?_ ?_; rotate_left; (· rintro W' ⟨z0, z1, z2, z3, z4⟩; go_simp; try with_reducible rfl); try simp only [Act.put, putA, putZ, putS])
          refine tk0 ?_
          refine wpAnyZ_next (rs := [8]) (by kernel_rfl) (by simp) ?_
          refine NextZ.cons (o := ⟨some 45, _, _, _, _, _⟩) rfl (fun K hK => ?_) NextZ.nil
          go_simp
          refine (to_any _ _ _).mono ?_
          rintro _ X0 ⟨rfl, hb0⟩
          (try go_wp2_with fail)
          have HA0 := Lib.hid (HAX.out.below hb0)
          have HR0 := Lib.hid (HRX.out.below hb0)
          refine hK.out _ _ (⟨HA0.out.cell (.head _) 0, HA0.out.cell (.head _) 1, HA0.out.cell (.head _) 2, HA0.out.cell (.head _) 3, HA0.out.cell (.tail _ (.tail _ (.tail _ (.head _)))) 1⟩) (fun hS => ?_)
          clear hK K
          try simp only [Act.put, putA, putZ, putS]
          clear hb0
          refine tZ 9 (oi := ⟨_, _, _, _, _, _⟩) (v := ?_) rfl (by kernel_rfl) (by rfl) (fun _ _ _ h => h) hS ?_ ?_
          rotate_left
          · rintro W' ⟨z0, z1, z2, z3, z4⟩; go_simp; try with_reducible rfl
          try simp only [Act.put, putA, putZ, putS]
          refine wpAnyZ_next (rs := [10]) (by kernel_rfl) (by simp) ?_
          refine NextZ.cons (o := ⟨some 47, _, _, _, _, _⟩) rfl (fun K hK => ?_) NextZ.nil
          go_simp
          have HA1 := Lib.hid (HA0.out.below (below_alloc X0 (.cells #[.int .i64 za, .int .i64 zb, .int .i64 lo, .int .i64 hi] 120)))
          have HR1 := Lib.hid (HR0.out.below (below_alloc X0 (.cells #[.int .i64 za, .int .i64 zb, .int .i64 lo, .int .i64 hi] 120)))
          have HJ : Hid ((X0.alloc (.cells #[.int .i64 za, .int .i64 zb, .int .i64 lo, .int .i64 hi] 120)).heap[X0.heap.size]? = some (.cells #[.int .i64 za, .int .i64 zb, .int .i64 lo, .int .i64 hi] 120 (0, 0))) := heap_alloc_new _ _
          refine hK.out _ _ (⟨HA1.out.cell (.head _) 0, HA1.out.cell (.head _) 1, HA1.out.cell (.head _) 2, HA1.out.cell (.head _) 3, HA1.out.cell (.tail _ (.tail _ (.tail _ (.head _)))) 1⟩) (fun hS => ?_)
          clear hK K
          try simp only [Act.put, putA, putZ, putS]
          generalize X0.heap.size = J at *
          generalize (X0.alloc (.cells #[.int .i64 za, .int .i64 zb, .int .i64 lo, .int .i64 hi] 120)) = X1 at *
          refine wpAnyZ_next (rs := [11]) (by kernel_rfl) (by simp) ?_
          refine NextZ.cons (o := ⟨some 48, _, _, _, _, _⟩) rfl (fun K hK => ?_) NextZ.nil
          refine step_append_src X1 (by rfl) (.tmp 38) (.tmp 47) 35 (by rfl) w.heap.size 120 j0 (.agg #[.int .i64 0, .int .i64 0, .int .i64 0, .int .i64 0]) 4 32 Try.underlying35 hj0 hjz0 hjz1 hjz2 rfl (by decide) (.slice sa k sc) k (fD m k) (by rfl) (HR1.out.own 1 _ rfl) (some ⟨J, 0, none⟩) 1 1 [.int .i64 za, .int .i64 zb, .int .i64 lo, .int .i64 hi] (by rfl) ⟨rfl, fun j u hu => ⟨_, rfl, World.news_of_block HJ.out j u hu⟩⟩ (by simp [Value.oneCell']) (by unfold maxLen; omega) (by omega) HA1.out.fr.size ?_
          intro v2 X2 hown hgr hl
          rw [← HIL.out] at hown
          obtain ⟨na, nc, rfl⟩ := own_slice' hown
          have HA2 := Lib.hid (BF.grow HA1.out HR1.out (i := 1) rfl (List.forall_mem_cons.2 ⟨(show 79 ≠ 120 by decide), List.forall_mem_cons.2 ⟨(show 25 ≠ 120 by decide), List.forall_mem_cons.2 ⟨(show 37 ≠ 120 by decide), List.forall_mem_cons.2 ⟨(show 37 ≠ 120 by decide), List.forall_mem_nil _⟩⟩⟩⟩) (Nat.le_refl _) hgr)
          have HR2 : Hid (Rws w.heap.size X2 [⟨100, 2, .slice va nw vc, nw, fR m.wk nw⟩, ⟨120, 4, .slice na (k + 1) nc, (k + 1), fD m ((k + 1))⟩]) := HR1.out.app2 (i := 1) rfl hown hgr hl
          clear hown hgr hl
          refine hK.out _ _ (⟨HA2.out.cell (.head _) 0, HA2.out.cell (.head _) 1, HA2.out.cell (.head _) 2, HA2.out.cell (.head _) 3, HA2.out.cell (.tail _ (.tail _ (.tail _ (.head _)))) 1⟩) (fun hS => ?_)
          clear hK K
          try simp only [Act.put, putA, putZ, putS]
          refine tZ 12 (oi := ⟨_, _, _, _, _, _⟩) (v := ?_) rfl (by kernel_rfl) (by rfl) (fun _ _ _ h => h) hS ?_ ?_
          rotate_left
          · rintro W' ⟨z0, z1, z2, z3, z4⟩; go_simp; try with_reducible rfl
          try simp only [Act.put, putA, putZ, putS]
          refine wpAnyZ_next (rs := [13]) (by kernel_rfl) (by simp) ?_
          refine NextZ.last (o := ⟨none, _, _, _, _, _⟩) rfl (by kernel_rfl) (fun K hK => ?_)
          have e0 := HA2.out.cell (.tail _ (.tail _ (.tail _ (.head _)))) 1
          have f0 := HA2.out.thaw (.tail _ (.tail _ (.tail _ (.head _)))) 1
          have HA3 := Lib.hid (BF.set1 (i := 1) (cs' := #[.slice va nw vc, .slice na (k + 1) nc]) HA2.out (.tail _ (.tail _ (.tail _ (.head _)))) (.slice na (k + 1) nc) (by simp) rfl (L' := [(RB, #[.int .i64 za, .int .i64 zb, .int .i64 lo, .int .i64 hi], 79), (w.heap.size, #[.slice pa nw pc, .slice (some ⟨b, off, none⟩) nr qc], 25), (w.heap.size + 1, #[.slice none 0 0, .slice none 0 0], 37)]) (List.forall_mem_cons.2 ⟨⟨show RB ≠ w.heap.size + 2 by omega, (.head _)⟩, List.forall_mem_cons.2 ⟨⟨show w.heap.size ≠ w.heap.size + 2 by omega, (.tail _ (.head _))⟩, List.forall_mem_cons.2 ⟨⟨show w.heap.size + 1 ≠ w.heap.size + 2 by omega, (.tail _ (.tail _ (.head _)))⟩, List.forall_mem_nil _⟩⟩⟩))
          have HR3 := Lib.hid (HR2.out.tab (HA2.out.bk _ _ _ (.tail _ (.tail _ (.tail _ (.head _))))).2 (List.forall_mem_cons.2 ⟨(show 37 ≠ 100 by decide), List.forall_mem_cons.2 ⟨(show 37 ≠ 120 by decide), List.forall_mem_nil _⟩⟩) (Fr.set X2 (w.heap.size + 2) 1 (.slice na (k + 1) nc)))
          go_simp
          refine hK.out _ _ ?_
          clear hK K
          (try simp only [Act.put])
          clear e0 f0
          refine wpAnyZ_done (by kernel_rfl) ?_ _
          go_wp2_with fail
          go_roundw
          case rel => exact ⟨k + 1, na, nc, by go_num, by omega, HA3.out.sub (List.forall_mem_cons.2 ⟨(.tail _ (.tail _ (.head _))), List.forall_mem_cons.2 ⟨(.tail _ (.tail _ (.tail _ (.head _)))), List.forall_mem_cons.2 ⟨(.head _), List.forall_mem_nil _⟩⟩⟩), HR3.out⟩
          case measure => simp [intOf]; omega
        · have hkn2 : nr = k := by omega
          subst hkn2
          have o0 := HA0.out.cell (.tail _ (.tail _ (.head _))) 0
          have o1 := HA0.out.cell (.tail _ (.tail _ (.head _))) 1
          have t0 := HA0.out.cell (.tail _ (.head _)) 0
          have t1 := HA0.out.cell (.tail _ (.head _)) 1
          have g0 := HA0.out.thaw (.tail _ (.head _)) 0
          have g1 := HA0.out.thaw (.tail _ (.head _)) 1
          have HA2 := Lib.hid (HA0.out.set2 (.tail _ (.head _)) (.slice va nw vc) (.slice sa nr sc) (L' := []) (List.forall_mem_nil _))
          have HR2 := Lib.hid (HR0.out.tab (HA0.out.bk _ _ _ (.tail _ (.head _))).2 (List.forall_mem_cons.2 ⟨(show 37 ≠ 100 by decide), List.forall_mem_cons.2 ⟨(show 37 ≠ 120 by decide), List.forall_mem_nil _⟩⟩) ((Fr.set wy (w.heap.size + 1) 0 (.slice va nw vc)).trans (Fr.set _ (w.heap.size + 1) 1 (.slice sa nr sc))))
          go_wp2_with fail
          have e0 := HA2.out.cell (.head _) 0
          have e1 := HA2.out.cell (.head _) 1
          exact bodyPost_ret (v := .agg #[.slice va nw vc, .slice sa nr sc]) (by simp [results, Try.results21, go_sem, e0, e1]) rfl ⟨⟨va, vc, sa, sc⟩, rfl, HEND.out _ _ _ _ _ HR2.out, HA2.out.fr⟩
end Go.Proofs.Ytpnkgjkoophckaa

namespace Go.Proofs.Ytpnkgjkoophckaa
open Go.RowKit Go.Shelf

set_option maxHeartbeats 400000 in
theorem rIn_any (a b c : Int) (w : World) :
    Calls Try.prog 24 #[.int .i64 a, .int .i64 b, .int .i64 c] w fun e w' => e = .returned (.bool (inB a b c)) ∧ w = w' := by
  go_enter Try.func24, Try.ntmps24
  go_wp2
  all_goals go_ret
  all_goals (refine ⟨?_, rfl⟩; congr 2; simp [inB]; omega)
set_option maxHeartbeats 2000000 in
theorem rJoins_any (a b lo hi x y : Int) (w : World) :
    Calls Try.prog 100 #[.agg #[.int .i64 a, .int .i64 b, .int .i64 lo, .int .i64 hi], .int .i64 x, .int .i64 y] w fun e w' => e = .returned (.bool (joinsB a b x y)) ∧ Below w.heap.size w w' := by
  go_enter Try.func100, Try.ntmps100
  go_wp2
  all_goals go_ret
  all_goals (refine ⟨ret_bool ?_, below_alloc _ _⟩; unfold joinsB; rw [Bool.eq_iff_iff]; simp; omega)
theorem insideR_in (r : R2) (hi : Int) : insideR r 0 hi = (inB r.1 0 r.2 && decide (r.2 ≤ hi)) := by unfold insideR inB; rfl
theorem insideR_in1 (r : R2) (hi : Int) : insideR r 1 hi = (inB r.1 1 r.2 && decide (r.2 ≤ hi)) := by unfold insideR inB; rfl
theorem joinsB_self (a b : Int) : joinsB a b a b = true := by simp [joinsB]
theorem road_k {m : Mp} {k : Nat} (hk : k < m.nr) (h : ∀ q, q < k → joinsB (m.ra q) (m.rb q) (m.ra k) (m.rb k) = false) : m.road (m.ra k) (m.rb k) = k := road_at hk h (joinsB_self _ _)
theorem road_nk {m : Mp} {k q : Nat} (hk : k < m.nr) (hq : q < k) (h : joinsB (m.ra q) (m.rb q) (m.ra k) (m.rb k) = true) : m.road (m.ra k) (m.rb k) ≠ k := by
  intro e
  unfold Mp.road at e
  cases hf : (List.range m.nr).find? (fun k' => joinsB (m.ra k') (m.rb k') (m.ra k) (m.rb k)) with
  | none => rw [hf] at e; simp only at e; omega
  | some p =>
    rw [hf] at e
    obtain rfl : p = k := by simp only at e; omega
    obtain ⟨_, us, bs, h1, h2⟩ := List.find?_eq_some_iff_append.1 hf
    have hlt : q ∈ us := by
      have hl := congrArg List.length h1
      simp at hl
      have e1 : (List.range m.nr)[us.length]? = some p := by rw [h1]; simp
      have : us.length = p := by
        rw [List.getElem?_range (by omega)] at e1
        simpa using e1
      have e2 : (List.range m.nr)[q]? = us[q]? := by rw [h1, List.getElem?_append_left (by omega)]
      rw [List.getElem?_range (by omega)] at e2
      exact List.mem_of_getElem? e2.symm
    have := h2 q hlt
    simp [h] at this
set_option maxRecDepth 100000 in
set_option maxHeartbeats 16000000 in
theorem rFault_any (x : MV) (m : Mp) (w : World) (h : MpIn w x m) (hnw : m.nw ≤ 100000) (hnr : m.nr ≤ 100000) :
    Calls Try.prog 73 #[.agg #[.slice x.wa m.nw x.wc, .slice x.ra m.nr x.rc]] w fun e w' => e = .returned (.int .i64 m.fault) ∧ Below w.heap.size w w' := by
  obtain ⟨qa, qc, rda, rdc⟩ := x
  obtain ⟨hwk, hrd⟩ := h
  have HWK := Lib.hid hwk; have HRD := Lib.hid hrd
  clear hwk hrd
  simp only at *
  have HFE : Hid (m.fault = if 8 < m.nw ∨ 20 < m.nr then 3 else if (decide (1 ≤ m.nw) && allB (fun i => insideR (m.wk i) 0 50) m.nw && allB m.roadOk m.nr) = true then 0 else 1) := fault_eq m
  have HA0 : Hid (BF w (w.alloc (.cells #[.slice qa m.nw qc, .slice rda m.nr rdc] 25)) [(w.heap.size, #[.slice qa m.nw qc, .slice rda m.nr rdc], 25)]) := (BF.base w).alloc _ _
  go_enter Try.func73, Try.ntmps73
  go_upto_region 1 with fail
  generalize w.alloc (.cells #[.slice qa m.nw qc, .slice rda m.nr rdc] 25) = w0 at *
  have c0 := HA0.out.cell (.head _) 0
  have c1 := HA0.out.cell (.head _) 1
  by_cases k1 : 8 < m.nw
  · have kb : ((m.nw : Int) > 8) := by omega
    go_wp2_with fail
    go_ret
    exact ⟨ret_int (by rw [HFE.out, if_pos (.inl k1)]), HA0.out.fr⟩
  have kb : ¬ ((m.nw : Int) > 8) := by omega
  by_cases k2 : 20 < m.nr
  · have kc : ((m.nr : Int) > 20) := by omega
    go_wp2_with fail
    go_ret
    exact ⟨ret_int (by rw [HFE.out, if_pos (.inr k2)]), HA0.out.fr⟩
  have kc : ¬ ((m.nr : Int) > 20) := by omega
  have HFE2 : Hid (m.fault = if (decide (1 ≤ m.nw) && allB (fun i => insideR (m.wk i) 0 50) m.nw && allB m.roadOk m.nr) = true then 0 else 1) := by
    have h := HFE.out; rw [if_neg (by omega)] at h; exact h
  clear HFE
  by_cases k3 : m.nw = 0
  · have kd : (m.nw : Int) = 0 := by omega
    go_wp2_with fail
    go_ret
    exact ⟨ret_int (by rw [HFE2.out, k3]; simp), HA0.out.fr⟩
  have kd : ((m.nw : Int) == 0) = false := by simp; omega
  have HFE3 : Hid (m.fault = if (allB (fun i => insideR (m.wk i) 0 50) m.nw && allB m.roadOk m.nr) = true then 0 else 1) := by
    have h := HFE2.out; rw [decide_eq_true (show 1 ≤ m.nw by omega), Bool.true_and] at h; exact h
  clear HFE2
  have HOKD := Lib.hid (fun k => show m.roadOk k = (inB (m.ra k) 0 (m.nw - 1) && inB (m.rb k) 0 (m.nw - 1) && decide (m.ra k ≠ m.rb k) && insideR ((m.rt k).1, (m.rt k).2) 1 50 && decide (m.road (m.ra k) (m.rb k) = k)) from rfl)
  go_wp2_with fail
  go_loopw [3] (fun i wr => ∃ k : Nat, i = .int .i64 k ∧ k ≤ m.nw ∧ (∀ q, q < k → insideR (m.wk q) 0 50 = true) ∧ BF w wr [(w.heap.size, #[.slice qa m.nw qc, .slice rda m.nr rdc], 25)]) (fun i _ => m.nw - (intOf i).toNat)
  case atStart => exact ⟨0, rfl, Nat.zero_le _, fun q h => absurd h (Nat.not_lt_zero _), HA0.out⟩
  case round =>
    clear HA0 c0 c1
    obtain ⟨k, rfl, hk, hall, hbf⟩ := hrel
    have HAL := Lib.hid hall
    have HA0 := Lib.hid hbf
    clear hall hbf
    have c0 := HA0.out.cell (.head _) 0
    have c1 := HA0.out.cell (.head _) 1
    by_cases hlt : k < m.nw
    · obtain ⟨b, off, rfl, hb, x0, x1⟩ := HWK.out.at (k := k) hlt
      have y0 := kept HA0.out.fr hb x0
      have y1 := kept HA0.out.fr hb x1
      have HIS : Hid (insideR (m.wk k) 0 50 = (inB (m.wk k).1 0 (m.wk k).2 && decide ((m.wk k).2 ≤ 50))) := insideR_in _ _
      have HA1 := Lib.hid ((HA0.out.alloc #[.int .i64 (m.wk k).1, .int .i64 (m.wk k).2] 77).sub (L' := [(w.heap.size, #[.slice (some ⟨b, off, none⟩) m.nw qc, .slice rda m.nr rdc], 25)]) (List.forall_mem_cons.2 ⟨.tail _ (.head _), List.forall_mem_nil _⟩))
      have HIA := Lib.hid (fun W => rIn_any (m.wk k).1 0 (m.wk k).2 W)
      have ki : (0 : Int) ≤ (k : Int) := by omega
      have kj : (k : Int) < (m.nw : Int) := by omega
      generalize inB (m.wk k).1 0 (m.wk k).2 = p1 at *
      obtain ⟨ir, HIR⟩ : ∃ ir, Hid (insideR (m.wk k) 0 50 = ir) := ⟨_, rfl⟩
      rw [HIR.out] at HIS
      generalize (m.wk k).1 = lo at *
      generalize (m.wk k).2 = hi at *
      clear x0 x1 hb
      cases p1
      · go_wp2_with (go_at_call 24; refine (HIA.out _).mono ?_; rintro _ _ ⟨rfl, rfl⟩)
        go_ret
        exact ⟨ret_int (by rw [HFE3.out, if_neg]; rw [allB_false hlt (HIR.out.trans (HIS.out.trans (Bool.false_and _)))]; simp), HA1.out.fr⟩
      by_cases h50 : hi ≤ 50
      · have ke : ¬ (hi > 50) := by omega
        go_wp2_with (go_at_call 24; refine (HIA.out _).mono ?_; rintro _ _ ⟨rfl, rfl⟩)
        go_roundw
        case rel => exact ⟨k + 1, by go_num, by omega, (fun q hq => by rcases Nat.lt_succ_iff_lt_or_eq.1 hq with h | rfl; exact HAL.out q h; exact HIR.out.trans (HIS.out.trans (by simp [h50]))), HA1.out⟩
        case measure => simp [intOf]; omega
      · have ke : (hi > 50) := by omega
        go_wp2_with (go_at_call 24; refine (HIA.out _).mono ?_; rintro _ _ ⟨rfl, rfl⟩)
        go_ret
        exact ⟨ret_int (by rw [HFE3.out, if_neg]; rw [allB_false hlt (HIR.out.trans (HIS.out.trans (by simp [h50])))]; simp), HA1.out.fr⟩
    · have hkn : m.nw = k := by omega
      have HFE4 : Hid (m.fault = if allB m.roadOk m.nr = true then 0 else 1) := by
        have h := HFE3.out; rw [allB_true (fun q hq => HAL.out q (by omega)), Bool.true_and] at h; exact h
      clear HFE3 HAL
      have HNW := Lib.hid hkn
      rw [hkn] at HWK HA0 HOKD hnw c0
      have hq : ¬ ((k : Int) < (k : Int)) := by omega
      clear hlt hkn kb kd k1 k3
      go_wp2_with fail
      rename World => wy
      go_loopw [5] (fun i wr => ∃ j : Nat, i = .int .i64 j ∧ j ≤ m.nr ∧ (∀ q, q < j → m.roadOk q = true) ∧ BF w wr [(w.heap.size, #[.slice qa k qc, .slice rda m.nr rdc], 25)]) (fun i _ => m.nr - (intOf i).toNat)
      case atStart => exact ⟨0, rfl, Nat.zero_le _, fun q h => absurd h (Nat.not_lt_zero _), HA0.out⟩
      case round =>
        clear HA0 c0 c1
        obtain ⟨j, rfl, hj, hall, hbf⟩ := hrel
        rename World => wr
        have HAL := Lib.hid hall
        have HA0 := Lib.hid hbf
        clear hall hbf
        have c0 := HA0.out.cell (.head _) 0
        have c1 := HA0.out.cell (.head _) 1
        by_cases hlt : j < m.nr
        · obtain ⟨b, off, rfl, hb, x0, x1, x2, x3⟩ := HRD.out.at (k := j) hlt
          have y0 := kept HA0.out.fr hb x0
          have y1 := kept HA0.out.fr hb x1
          have y2 := kept HA0.out.fr hb x2
          have y3 := kept HA0.out.fr hb x3
          have HIS : Hid (insideR ((m.rt j).1, (m.rt j).2) 1 50 = (inB (m.rt j).1 1 (m.rt j).2 && decide ((m.rt j).2 ≤ 50))) := insideR_in1 _ _
          have HOK : Hid (m.roadOk j = (inB (m.ra j) 0 ((k : Int) - 1) && inB (m.rb j) 0 ((k : Int) - 1) && decide (m.ra j ≠ m.rb j) && (inB (m.rt j).1 1 (m.rt j).2 && decide ((m.rt j).2 ≤ 50)) && decide (m.road (m.ra j) (m.rb j) = j))) := by
            have h := HOKD.out j; rw [HIS.out] at h; exact h
          have HRK := Lib.hid (road_k (m := m) hlt)
          have HRN := Lib.hid (fun q hq hh => road_nk (m := m) (q := q) hlt hq hh)
          obtain ⟨xs, hxs⟩ : ∃ xs, xs = (#[.int .i64 (m.ra j), .int .i64 (m.rb j), .int .i64 (m.rt j).1, .int .i64 (m.rt j).2] : Array Value) := ⟨_, rfl⟩
          have HA1 := Lib.hid (HA0.out.alloc #[.int .i64 (m.ra j), .int .i64 (m.rb j), .int .i64 (m.rt j).1, .int .i64 (m.rt j).2] 79)
          have HI1 := Lib.hid (fun W => rIn_any (m.ra j) 0 ((k : Int) - 1) W)
          have HI2 := Lib.hid (fun W => rIn_any (m.rb j) 0 ((k : Int) - 1) W)
          have HI3 := Lib.hid (fun W => rIn_any (m.rt j).1 1 (m.rt j).2 W)
          have HJN := Lib.hid (fun q W => rJoins_any (m.ra q) (m.rb q) (m.rt q).1 (m.rt q).2 (m.ra j) (m.rb j) W)
          have ki : (0 : Int) ≤ (j : Int) := by omega
          have kj : (j : Int) < (m.nr : Int) := by omega
          have kw : IntKind.i64.wrap ((k : Int) - 1) = (k : Int) - 1 := IntWalk.i64_in _ (by omega)
          generalize inB (m.ra j) 0 ((k : Int) - 1) = p1 at *
          generalize inB (m.rb j) 0 ((k : Int) - 1) = p2 at *
          generalize inB (m.rt j).1 1 (m.rt j).2 = p3 at *
          obtain ⟨rk, HRKK⟩ : ∃ rk, Hid (m.roadOk j = rk) := ⟨_, rfl⟩
          rw [HRKK.out] at HOK
          have HFB : Hid (rk = false → m.fault = 1) := fun h => by rw [HFE4.out, if_neg]; rw [allB_false hlt (HRKK.out.trans h)]; simp
          have HJF := Lib.hid (fun q => show joinsB (m.ra q) (m.rb q) (m.ra j) (m.rb j) = joinsB (m.ra q) (m.rb q) (m.ra j) (m.rb j) from rfl)
          generalize m.road (m.ra j) (m.rb j) = rr at *
          generalize hza : m.ra j = za at *
          generalize hzb : m.rb j = zb at *
          generalize (m.rt j).1 = lo at *
          generalize (m.rt j).2 = hi at *
          clear x0 x1 x2 x3 hb HIS hxs hza hzb
          have T1 : True := trivial
          have hsM := (HA0.out.lt (.head _)).2
          cases p1
          · go_wp2_with (go_at_call 24; refine (HI1.out _).mono ?_; rintro _ _ ⟨rfl, rfl⟩)
            go_ret
            exact ⟨ret_int (HFB.out (by rw [HOK.out]; simp)).symm, HA1.out.fr⟩
          cases p2
          · go_wp2_with (first | (go_at_call 24; have qq := T1; clear qq T1; refine (HI1.out _).mono ?_; rintro _ _ ⟨rfl, rfl⟩; have T2 : True := trivial) | (go_at_call 24; have qq := T2; clear qq T2; refine (HI2.out _).mono ?_; rintro _ _ ⟨rfl, rfl⟩; have T3 : True := trivial))
            go_ret
            exact ⟨ret_int (HFB.out (by rw [HOK.out]; simp)).symm, HA1.out.fr⟩
          by_cases hab : za = zb
          · subst hab
            go_wp2_with (first | (go_at_call 24; have qq := T1; clear qq T1; refine (HI1.out _).mono ?_; rintro _ _ ⟨rfl, rfl⟩; have T2 : True := trivial) | (go_at_call 24; have qq := T2; clear qq T2; refine (HI2.out _).mono ?_; rintro _ _ ⟨rfl, rfl⟩; have T3 : True := trivial))
            go_ret
            exact ⟨ret_int (HFB.out (by rw [HOK.out]; simp)).symm, HA1.out.fr⟩
          have kab : (za == zb) = false := by simp [hab]
          cases p3
          · go_wp2_with (first | (go_at_call 24; have qq := T1; clear qq T1; refine (HI1.out _).mono ?_; rintro _ _ ⟨rfl, rfl⟩; have T2 : True := trivial) | (go_at_call 24; have qq := T2; clear qq T2; refine (HI2.out _).mono ?_; rintro _ _ ⟨rfl, rfl⟩; have T3 : True := trivial) | (go_at_call 24; have qq := T3; clear qq T3; refine (HI3.out _).mono ?_; rintro _ _ ⟨rfl, rfl⟩; have T4 : True := trivial))
            go_ret
            exact ⟨ret_int (HFB.out (by rw [HOK.out]; simp)).symm, HA1.out.fr⟩
          by_cases h50 : hi ≤ 50
          case neg =>
            have ke : (hi > 50) := by omega
            go_wp2_with (first | (go_at_call 24; have qq := T1; clear qq T1; refine (HI1.out _).mono ?_; rintro _ _ ⟨rfl, rfl⟩; have T2 : True := trivial) | (go_at_call 24; have qq := T2; clear qq T2; refine (HI2.out _).mono ?_; rintro _ _ ⟨rfl, rfl⟩; have T3 : True := trivial) | (go_at_call 24; have qq := T3; clear qq T3; refine (HI3.out _).mono ?_; rintro _ _ ⟨rfl, rfl⟩; have T4 : True := trivial))
            go_ret
            exact ⟨ret_int (HFB.out (by rw [HOK.out]; simp [show ¬ hi ≤ 50 from by omega])).symm, HA1.out.fr⟩
          have ke : ¬ (hi > 50) := by omega
          have HOK2 : Hid (rk = decide (rr = j)) := by have h := HOK.out; simp [hab, h50] at h; exact h
          clear HOK
          go_wp2_with (first | (go_at_call 24; have qq := T1; clear qq T1; refine (HI1.out _).mono ?_; rintro _ _ ⟨rfl, rfl⟩; have T2 : True := trivial) | (go_at_call 24; have qq := T2; clear qq T2; refine (HI2.out _).mono ?_; rintro _ _ ⟨rfl, rfl⟩; have T3 : True := trivial) | (go_at_call 24; have qq := T3; clear qq T3; refine (HI3.out _).mono ?_; rintro _ _ ⟨rfl, rfl⟩; have T4 : True := trivial))
          clear HI1 HI2 HI3 y0 y1 y2 y3 c0 c1 HOKD
          have hsz := HA0.out.fr.size
          obtain ⟨RB, hRB⟩ : ∃ RB, wr.heap.size = RB := ⟨_, rfl⟩
          rw [hRB] at HA1 ⊢
          clear hRB
          generalize wr.alloc (.cells #[.int .i64 za, .int .i64 zb, .int .i64 lo, .int .i64 hi] 79) = w5 at *
          go_loopw [7] (fun i wr => ∃ q : Nat, i = .int .i64 q ∧ q ≤ j ∧ (∀ p, p < q → joinsB (m.ra p) (m.rb p) za zb = false) ∧ BF w wr [(RB, #[.int .i64 za, .int .i64 zb, .int .i64 lo, .int .i64 hi], 79), (w.heap.size, #[.slice qa k qc, .slice (some ⟨b, off, none⟩) m.nr rdc], 25)]) (fun i _ => j - (intOf i).toNat)
          case atStart => exact ⟨0, rfl, Nat.zero_le _, fun q h => absurd h (Nat.not_lt_zero _), HA1.out⟩
          case round =>
            clear HA1 HA0
            obtain ⟨q, rfl, hq2, hall, hbf⟩ := hrel
            rename World => wz
            have HA2 := Lib.hid hbf
            have HNO := Lib.hid hall
            clear hbf hall
            have c0 := HA2.out.cell (.tail _ (.head _)) 0
            have c1 := HA2.out.cell (.tail _ (.head _)) 1
            have d0 := HA2.out.cell (.head _) 0
            have d1 := HA2.out.cell (.head _) 1
            by_cases hlq : q < j
            · obtain ⟨b', off', e', hbq, x0, x1, x2, x3⟩ := HRD.out.at (k := q) (by omega)
              cases e'
              have y0 := kept HA2.out.fr hbq x0
              have y1 := kept HA2.out.fr hbq x1
              have y2 := kept HA2.out.fr hbq x2
              have y3 := kept HA2.out.fr hbq x3
              have HJQ := Lib.hid (HJN.out q)
              obtain ⟨jb, HJB⟩ : ∃ jb, Hid (joinsB (m.ra q) (m.rb q) za zb = jb) := ⟨_, rfl⟩
              rw [HJB.out] at HJQ
              have HJB2 : Hid (∀ p, p = q → joinsB (m.ra p) (m.rb p) za zb = jb) := fun p e => by rw [e]; exact HJB.out
              clear HJB
              have qi : (0 : Int) ≤ (q : Int) := by omega
              have qj : (q : Int) < (m.nr : Int) := by omega
              have ql : (q : Int) < (j : Int) := by omega
              generalize m.ra q = ya at *
              generalize m.rb q = yb at *
              generalize (m.rt q).1 = l2 at *
              generalize (m.rt q).2 = h2 at *
              clear HJN
              go_upto_region 20 with fail
              have S4 := y2
              go_region_held3 (fun X => X.cell? ⟨w.heap.size, 1, none⟩ = some (.slice (some ⟨b, off, none⟩) m.nr rdc) ∧ X.cell? ⟨RB, 0, none⟩ = some (.int .i64 za) ∧ X.cell? ⟨RB, 1, none⟩ = some (.int .i64 zb) ∧ X.cell? ⟨b, off + q * 4, none⟩ = some (.int .i64 ya) ∧ X.cell? ⟨b, off + q * 4 + 1, none⟩ = some (.int .i64 yb) ∧ X.cell? ⟨b, off + q * 4 + 2, none⟩ = some (.int .i64 l2) ∧ X.cell? ⟨b, off + q * 4 + 3, none⟩ = some (.int .i64 h2)) (first | (refine ⟨?_, ?_, ?_, ?_, ?_, ?_, ?_⟩ <;> assumption) | go_keep) (first | (go_at_call 100; refine (HJQ.out _).mono ?_; rintro _ w6 ⟨rfl, hb⟩; have HA3 := Lib.hid (HA2.out.below ((Below.refl _ _).drew.trans hb)); have z1 := HA3.out.cell (.tail _ (.head _)) 1; have z2 := HA3.out.cell (.head _) 0; have z3 := HA3.out.cell (.head _) 1; have z4 := kept HA3.out.fr hbq x0; have z5 := kept HA3.out.fr hbq x1; have z6 := kept HA3.out.fr hbq x2; have z7 := kept HA3.out.fr hbq x3; clear hb))
              clear y0 y1 y2 y3 S4 c0 c1 d0 d1 x0 x1 x2 x3 hbq z1 z2 z3 z4 z5 z6 z7
              cases jb
              · go_wp2_with fail
                go_roundw
                case rel => exact ⟨q + 1, by go_num, by omega, (fun p hp => by rcases Nat.lt_succ_iff_lt_or_eq.1 hp with h | rfl; exact HNO.out p h; exact HJB2.out _ rfl), HA3.out⟩
                case measure => simp [intOf]; omega
              · have HRJ := Lib.hid (HRN.out q hlq (HJB2.out q rfl))
                go_wp2_with fail
                go_ret
                exact ⟨ret_int (HFB.out (by rw [HOK2.out]; simp [HRJ.out])).symm, HA3.out.fr⟩
            · obtain rfl : q = j := by omega
              have HRJ := Lib.hid (HRK.out HNO.out)
              have ql : ¬ ((q : Int) < (q : Int)) := by omega
              go_wp2_with fail
              go_roundw
              case rel => exact ⟨q + 1, by go_num, by omega, (fun p hp => by rcases Nat.lt_succ_iff_lt_or_eq.1 hp with h | rfl; exact HAL.out p h; exact HRKK.out.trans (HOK2.out.trans (by simp [HRJ.out]))), HA2.out.sub (List.forall_mem_cons.2 ⟨.tail _ (.head _), List.forall_mem_nil _⟩)⟩
              case measure => simp [intOf]; omega
        · have hjn : m.nr = j := by omega
          go_wp2_with fail
          go_ret
          exact ⟨ret_int (by rw [HFE4.out, if_pos (allB_true (fun q hq => HAL.out q (by omega)))]), HA0.out.fr⟩
theorem thin_any (x : MV) (nw nr : Nat) (w : World) :
    Calls Try.prog 18 #[.agg #[.slice x.wa nw x.wc, .slice x.ra nr x.rc]] w fun e w' => e = .returned (.bool (decide (nw ≤ 11) && decide (nr ≤ 24))) ∧ Below w.heap.size w w' := by
  go_enter Try.func18, Try.ntmps18
  go_wp2
  all_goals go_ret
  all_goals (refine ⟨ret_bool ?_, below_alloc _ _⟩; rw [Bool.eq_iff_iff]; simp; omega)
theorem lfault_any (x : MV) (m : Mp) (w : World) (h : MpIn w x m) (hnw : m.nw ≤ 100000) (hnr : m.nr ≤ 100000) :
    Calls Try.prog 23 #[.agg #[.slice x.wa m.nw x.wc, .slice x.ra m.nr x.rc]] w fun e w' => e = .returned (.int .i64 m.fault) ∧ Below w.heap.size w w' := by
  have HF := Lib.hid (fun W (hW : Below w.heap.size w W) => rFault_any x m W (h.below hW) hnw hnr)
  clear h
  go_enter Try.func23, Try.ntmps23
  have HB := Lib.hid (below_alloc w (.cells #[.slice x.wa m.nw x.wc, .slice x.ra m.nr x.rc] 25))
  go_wp2_with fail
  refine (HF.out _ HB.out).mono ?_
  rintro _ w1 ⟨rfl, hb⟩
  go_wp2_with fail
  go_ret
  exact ⟨rfl, below_step HB.out hb⟩
def readyB (m : Mp) : Bool := decide (m.nw ≤ 11) && decide (m.nr ≤ 24) && decide (m.fault = 0)
set_option maxHeartbeats 4000000 in
theorem ready_any (x : MV) (m : Mp) (w : World) (h : MpIn w x m) (hnw : m.nw ≤ maxLen) (hnr : m.nr ≤ maxLen) :
    Calls Try.prog 35 #[.agg #[.slice x.wa m.nw x.wc, .slice x.ra m.nr x.rc]] w fun e w' => e = .returned (.bool (readyB m)) ∧ Below w.heap.size w w' := by
  have HF := Lib.hid (fun W (hW : Below w.heap.size w W) h1 h2 => lfault_any x m W (h.below hW) h1 h2)
  have HRB : Hid (readyB m = (decide (m.nw ≤ 11) && decide (m.nr ≤ 24) && decide (m.fault = 0))) := rfl
  clear h
  unfold maxLen at hnw hnr
  go_enter Try.func35, Try.ntmps35
  have HB := Lib.hid (below_alloc w (.cells #[.slice x.wa m.nw x.wc, .slice x.ra m.nr x.rc] 25))
  have c0 := cell_of_row _ _ 0 _ _ _ (heap_alloc_new w (.cells #[.slice x.wa m.nw x.wc, .slice x.ra m.nr x.rc] 25))
  have c1 := cell_of_row _ _ 1 _ _ _ (heap_alloc_new w (.cells #[.slice x.wa m.nw x.wc, .slice x.ra m.nr x.rc] 25))
  have hsz : w.heap.size < (w.alloc (.cells #[.slice x.wa m.nw x.wc, .slice x.ra m.nr x.rc] 25)).heap.size := by simp
  go_upto_region 1 with fail
  generalize w.alloc (.cells #[.slice x.wa m.nw x.wc, .slice x.ra m.nr x.rc] 25) = w0 at *
  by_cases hth : m.nw ≤ 11 ∧ m.nr ≤ 24
  · obtain ⟨h1, h2⟩ := hth
    have HT : Hid (∀ W, Calls Try.prog 18 #[.agg #[.slice x.wa m.nw x.wc, .slice x.ra m.nr x.rc]] W fun e w' => e = .returned (.bool true) ∧ Below W.heap.size W w') := fun W => by have h := thin_any x m.nw m.nr W; rw [decide_eq_true h1, decide_eq_true h2] at h; exact h
    have HRB2 : Hid (readyB m = decide (m.fault = 0)) := by have h := HRB.out; rw [decide_eq_true h1, decide_eq_true h2] at h; exact h
    have HF2 := Lib.hid (fun W hW => HF.out W hW (by omega) (by omega))
    clear HF HRB
    generalize m.fault = ft at *
    go_wp2_with (go_at_call 18; refine (HT.out _).mono ?_; rintro _ w1 ⟨rfl, hb⟩; have HB1 := Lib.hid (below_step HB.out hb); have d0 := (hb.cell (p := ⟨w.heap.size, 0, none⟩) hsz).trans c0; have d1 := (hb.cell (p := ⟨w.heap.size, 1, none⟩) hsz).trans c1; clear hb)
    refine (HF2.out _ HB1.out).mono ?_
    rintro _ w2 ⟨rfl, hb⟩
    go_wp2_with fail
    go_ret
    exact ⟨ret_bool (by rw [HRB2.out]; rfl), below_step HB1.out hb⟩
  · have HT : Hid (∀ W, Calls Try.prog 18 #[.agg #[.slice x.wa m.nw x.wc, .slice x.ra m.nr x.rc]] W fun e w' => e = .returned (.bool false) ∧ Below W.heap.size W w') := fun W => by have h := thin_any x m.nw m.nr W; rw [show (decide (m.nw ≤ 11) && decide (m.nr ≤ 24)) = false by rw [Bool.eq_false_iff]; simp; omega] at h; exact h
    have HRB2 : Hid (readyB m = false) := by have h := HRB.out; rw [show (decide (m.nw ≤ 11) && decide (m.nr ≤ 24)) = false by rw [Bool.eq_false_iff]; simp; omega] at h; exact h
    clear HF HRB
    go_wp2_with (go_at_call 18; refine (HT.out _).mono ?_; rintro _ w1 ⟨rfl, hb⟩; have HB1 := Lib.hid (below_step HB.out hb); clear hb)
    go_ret
    exact ⟨ret_bool HRB2.out.symm, HB1.out⟩
end Go.Proofs.Ytpnkgjkoophckaa
