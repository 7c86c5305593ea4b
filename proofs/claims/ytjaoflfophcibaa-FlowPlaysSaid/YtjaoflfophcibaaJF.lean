/- FlowPlays: a truth that a law is handed, opened. -/
import Derived.Test.YtjaoflfophcibaaJC
namespace Go.Proofs.Ytjaoflfophcibaa
open Go.ChangeShapes Go.WideShapes Go.ChangeAt Go.RowKit Go.Shelf

set_option maxRecDepth 100000 in
theorem open_intl {H : Type} {enc : TypeId × Value → H} {W : World} {fuel : Nat} {v : Value} {x : DataW H × List MemPlace} (h : DataW.trod enc Try.prog W 0 (fun _ => true) true fuel 72 [v] = some x) :
    ∃ a n cap z, v = .slice a n cap ∧ IntsIn W (.slice a n cap) n z ∧ n ≤ cap ∧ n ≤ maxLen := by
  rcases Go.Deep.open_slice Try.underlying72 h with ⟨hcs, _⟩ | ⟨a, len, cap, m, n, D, Pl, hcs, _, hl, hm, hmm, _, hx⟩
  · simp at hcs; subst hcs
    exact ⟨none, 0, 0, fun _ => 0, rfl, .inl ⟨_, _, rfl, rfl⟩, Nat.zero_le _, Nat.zero_le _⟩
  · simp at hcs; subst hcs
    simp only [if_true] at hmm
    subst hmm
    have k : Try.prog.cellsOf 3 = 1 := by kernel_rfl
    rw [k] at hx
    obtain ⟨R, hR⟩ := Go.Deep.choose_lt (α := Int) (n := len) (p := fun i (r : Int) => W.cells? 0 (a.add (i * 1)) 1 = some [.int .i64 r]) (fun i hi => by
      obtain ⟨cs', h1, h2⟩ := hx i (by omega)
      obtain ⟨f, e0, _⟩ := DataW.trod_int Try.underlying3 h2
      subst e0
      exact ⟨f, h1⟩)
    rcases Nat.eq_zero_or_pos len with rfl | hpos
    · exact ⟨some a, 0, m, fun _ => 0, rfl, .inl ⟨_, _, rfl, rfl⟩, Nat.zero_le _, Nat.zero_le _⟩
    · have hc0 := (World.cells?_some (hR 0 hpos)).2.2 0 (by omega)
      obtain ⟨b, off, spot⟩ := a
      obtain rfl : spot = none := by simpa [Addr.add] using World.cell?_spot hc0
      have hc : ∀ j, j < len → W.cell? ⟨b, off + j * 1 + 0, none⟩ = some (.int .i64 (R j)) := fun j hj => by
        have := (World.cells?_some (hR j hj)).2.2 0 (by omega)
        rwa [Go.WideShapes.add_plain, Go.WideShapes.add_plain] at this
      have hbs : b < W.heap.size := World.block_lt_of_cell? W ⟨b, off + 0 * 1 + 0, none⟩ (hc 0 hpos)
      refine ⟨some ⟨b, off, none⟩, len, m, R, rfl, .inr ⟨b, off, _, rfl, hbs, fun j hj => ?_⟩, by omega, by omega⟩
      have h := hc j hj; rw [Nat.mul_one, Nat.add_zero] at h; exact h
set_option maxRecDepth 100000 in
theorem open_introws {H : Type} {enc : TypeId × Value → H} {W : World} {fuel : Nat} {v : Value} {x : DataW H × List MemPlace} (h : DataW.trod enc Try.prog W 0 (fun _ => true) true fuel 73 [v] = some x) :
    ∃ a n cap rl ct, v = .slice a n cap ∧ IRowsIn W (.slice a n cap) n rl ct ∧ n ≤ maxLen ∧ ∀ c, rl c ≤ maxLen := by
  rcases Go.Deep.open_slice Try.underlying73 h with ⟨hcs, _⟩ | ⟨a, len, cap, m, n, D, Pl, hcs, _, hl, hm, hmm, _, hx⟩
  · simp at hcs; subst hcs
    exact ⟨none, 0, 0, fun _ => 0, fun _ _ => 0, rfl, .inl ⟨_, _, rfl, rfl⟩, Nat.zero_le _, fun _ => Nat.zero_le _⟩
  · simp at hcs; subst hcs
    simp only [if_true] at hmm
    subst hmm
    have k : Try.prog.cellsOf 72 = 1 := by kernel_rfl
    rw [k] at hx
    obtain ⟨F, hF⟩ := Go.Deep.choose_lt (α := Value × Nat × (Nat → Int)) (n := len) (p := fun i (r : Value × Nat × (Nat → Int)) => W.cells? 0 (a.add (i * 1)) 1 = some [r.1] ∧ IntsIn W r.1 r.2.1 r.2.2 ∧ r.2.1 ≤ maxLen) (fun i hi => by
      obtain ⟨cs', h1, h2⟩ := hx i (by omega)
      have hl1 : cs'.length = 1 := (World.cells?_some h1).2.1
      match cs', hl1, h1, h2 with
      | [rv], _, h1, h2 =>
        obtain ⟨a', n', cap', R, rfl, h3, _, h4⟩ := open_intl h2
        exact ⟨(_, n', R), h1, h3, h4⟩)
    rcases Nat.eq_zero_or_pos len with rfl | hpos
    · exact ⟨some a, 0, m, fun _ => 0, fun _ _ => 0, rfl, .inl ⟨_, _, rfl, rfl⟩, Nat.zero_le _, fun _ => Nat.zero_le _⟩
    · have hc0 := (World.cells?_some (hF 0 hpos).1).2.2 0 (by omega)
      obtain ⟨b, off, spot⟩ := a
      obtain rfl : spot = none := by simpa [Addr.add] using World.cell?_spot hc0
      have hc : ∀ j, j < len → W.cell? ⟨b, off + j * 1 + 0, none⟩ = some (F j).1 := fun j hj => by
        have := (World.cells?_some (hF j hj).1).2.2 0 (by omega)
        rwa [Go.WideShapes.add_plain, Go.WideShapes.add_plain] at this
      have hbs : b < W.heap.size := World.block_lt_of_cell? W ⟨b, off + 0 * 1 + 0, none⟩ (hc 0 hpos)
      refine ⟨some ⟨b, off, none⟩, len, m, fun c => if c < len then (F c).2.1 else 0, fun c => (F c).2.2, rfl, .inr ⟨b, off, _, rfl, hbs, fun j hj => ⟨(F j).1, ?_, ?_⟩⟩, by omega, fun c => ?_⟩
      · have h := hc j hj; rw [Nat.mul_one, Nat.add_zero] at h; exact h
      · show IntsIn W (F j).1 (if j < len then (F j).2.1 else 0) (F j).2.2
        rw [if_pos hj]; exact (hF j hj).2.1
      · show (if c < len then (F c).2.1 else 0) ≤ maxLen
        split
        · rename_i hj; exact (hF c hj).2.2
        · exact Nat.zero_le _
set_option maxRecDepth 100000 in
theorem open_truth {H : Type} {enc : TypeId × Value → H} {W : World} {base : Nat} {v : Value} {d : DataW H} {p : List MemPlace} (hv : Value.okWide Try.prog W .any base 75 v) (h : DataW.Trod enc Try.prog W 0 (fun _ => true) true 75 v d p) :
    ∃ (y : XV) (x : Tr), v = .agg #[.slice y.fa x.nf y.fc, .slice y.ba x.nb y.bc, .slice y.da x.nd y.dc, .slice y.ma x.nm y.mc] ∧ XLi W y x ∧ x.big := by
  obtain ⟨cs, rfl, hsz⟩ := okWide_struct Try.underlying75 hv
  obtain ⟨c0, c1, c2, c3, rfl⟩ := Go.Joins.array4 (hsz.trans (by kernel_rfl))
  obtain ⟨fuel, hf⟩ := h
  obtain ⟨y0, y1, y2, y3, n, _, _, h0, h1, h2, h3⟩ := Go.Joins.trod_struct4 Try.underlying75 hf
  have k23 : Try.prog.cellsOf 72 = 1 := by kernel_rfl
  have k22 : Try.prog.cellsOf 73 = 1 := by kernel_rfl
  simp only [Value.cells, k22, k23, List.drop, List.take] at h0 h1 h2 h3
  obtain ⟨a0, n0, p0, z0, rfl, q0, _, m0⟩ := open_intl h0
  obtain ⟨a1, n1, p1, z1, rfl, q1, _, m1⟩ := open_intl h1
  obtain ⟨a2, n2, p2, rl2, ct2, rfl, q2, m2, r2⟩ := open_introws h2
  obtain ⟨a3, n3, p3, rl3, ct3, rfl, q3, m3, r3⟩ := open_introws h3
  exact ⟨⟨a0, p0, a1, p1, a2, p2, a3, p3⟩, ⟨n0, z0, n1, z1, n2, rl2, ct2, n3, rl3, ct3⟩, rfl, ⟨q0, q1, q2, q3⟩, ⟨m0, m1, m2, m3, r2, r3⟩⟩
end Go.Proofs.Ytjaoflfophcibaa
