/- Link: a law's arguments opened: files, entries, lists of numbers. | Link, plain: the pairs that pass a test, row by row, as the laws collect them. | Link, plain: the rows of bits of a graph without some pairs. | Link: what a law's file gives: contracts at any later world. -/
import Derived.Test.YtgbdbikjckfgmaaGreatN0
import Derived.Deep.Slices
import Derived.Deep.Strs
import Derived.Lib.SmallJoins
import Derived.Test.YtgbdbikjckfgmaaGreatMX
import Derived.Test.YtgbdbikjckfgmaaGreatM3
import Derived.Test.YtgbdbikjckfgmaaGreatNG
import Derived.Test.YtgbdbikjckfgmaaGreatL0
import Derived.Test.YtgbdbikjckfgmaaGreatN1
namespace Go.Proofs.YtgbdbikjckfgmaaGreat
open Go.ChangeShapes Go.WideShapes Go.ChangeAt Go.RowKit Go.Shelf

instance : Inhabited En := ⟨⟨⟨0, 0, 0, fun _ => default, 0, fun _ => default⟩, 0, 0, fun _ => 0, 0⟩⟩
set_option maxRecDepth 100000 in
theorem open_mv {H : Type} {enc : TypeId × Value → H} {W : World} {fuel : Nat} {cs : List Value} {x : DataW H × List MemPlace} (h : DataW.trod enc Tryz.prog W 0 (fun _ => true) true fuel 63 cs = some x) : ∃ r : Int × Int, cs = [.int .i64 r.1, .int .i64 r.2] := by
  obtain ⟨z0, z1, m, _, _, g0, g1⟩ := trod_struct2 Tryz.underlying63 h
  have k1 : Tryz.prog.cellsOf 3 = 1 := by kernel_rfl
  rw [k1] at g0 g1
  obtain ⟨lo, e0, _⟩ := DataW.trod_int Tryz.underlying3 g0
  obtain ⟨hi, e1, _⟩ := DataW.trod_int Tryz.underlying3 g1
  match cs, e0, e1 with
  | [c0, c1], e0, e1 =>
    simp at e0 e1
    subst e0 e1
    exact ⟨(lo, hi), rfl⟩
set_option maxRecDepth 100000 in
theorem open_mvs {H : Type} {enc : TypeId × Value → H} {W : World} {fuel : Nat} {v : Value} {x : DataW H × List MemPlace} (h : DataW.trod enc Tryz.prog W 0 (fun _ => true) true fuel 23 [v] = some x) :
    ∃ a n cap p q, v = .slice a n cap ∧ RsIn W (.slice a n cap) n p q ∧ n ≤ cap ∧ n ≤ maxLen := by
  rcases Go.Deep.open_slice Tryz.underlying23 h with ⟨hcs, _⟩ | ⟨a, len, cap, m, n, D, Pl, hcs, _, hl, hm, hmm, _, hx⟩
  · simp at hcs; subst hcs
    exact ⟨none, 0, 0, fun _ => 0, fun _ => 0, rfl, .inl ⟨_, _, rfl, rfl⟩, Nat.zero_le _, Nat.zero_le _⟩
  · simp at hcs; subst hcs
    simp only [if_true] at hmm
    subst hmm
    have k : Tryz.prog.cellsOf 63 = 2 := by kernel_rfl
    rw [k] at hx
    obtain ⟨R, hR⟩ := Go.Deep.choose_lt (α := Int × Int) (n := len) (p := fun i (r : Int × Int) => W.cells? 0 (a.add (i * 2)) 2 = some [.int .i64 r.1, .int .i64 r.2]) (fun i hi => by
      obtain ⟨cs', h1, h2⟩ := hx i (by omega)
      obtain ⟨r, rfl⟩ := open_mv h2
      exact ⟨r, h1⟩)
    rcases Nat.eq_zero_or_pos len with rfl | hpos
    · exact ⟨some a, 0, m, fun _ => 0, fun _ => 0, rfl, .inl ⟨_, _, rfl, rfl⟩, Nat.zero_le _, Nat.zero_le _⟩
    · have hc0 := (World.cells?_some (hR 0 hpos)).2.2 0 (by omega)
      obtain ⟨b, off, spot⟩ := a
      obtain rfl : spot = none := by simpa [Addr.add] using World.cell?_spot hc0
      have hc : ∀ j, j < len → ∀ i, i < 2 → W.cell? ⟨b, off + j * 2 + i, none⟩ = [Value.int .i64 (R j).1, .int .i64 (R j).2][i]? := fun j hj i hi => by
        have := (World.cells?_some (hR j hj)).2.2 i hi
        rwa [Go.WideShapes.add_plain, Go.WideShapes.add_plain] at this
      have hbs : b < W.heap.size := World.block_lt_of_cell? W ⟨b, off + 0 * 2 + 0, none⟩ (hc 0 hpos 0 (by omega))
      exact ⟨some ⟨b, off, none⟩, len, m, fun j => (R j).1, fun j => (R j).2, rfl, .inr ⟨b, off, _, rfl, hbs, fun j hj => ⟨hc j hj 0 (by omega), hc j hj 1 (by omega)⟩⟩, by omega, by omega⟩
set_option maxRecDepth 100000 in
theorem open_intl {H : Type} {enc : TypeId × Value → H} {W : World} {fuel : Nat} {v : Value} {x : DataW H × List MemPlace} (h : DataW.trod enc Tryz.prog W 0 (fun _ => true) true fuel 47 [v] = some x) :
    ∃ a n cap z, v = .slice a n cap ∧ IntsIn W (.slice a n cap) n z ∧ n ≤ cap ∧ n ≤ maxLen := by
  rcases Go.Deep.open_slice Tryz.underlying47 h with ⟨hcs, _⟩ | ⟨a, len, cap, m, n, D, Pl, hcs, _, hl, hm, hmm, _, hx⟩
  · simp at hcs; subst hcs
    exact ⟨none, 0, 0, fun _ => 0, rfl, .inl ⟨_, _, rfl, rfl⟩, Nat.zero_le _, Nat.zero_le _⟩
  · simp at hcs; subst hcs
    simp only [if_true] at hmm
    subst hmm
    have k : Tryz.prog.cellsOf 3 = 1 := by kernel_rfl
    rw [k] at hx
    obtain ⟨R, hR⟩ := Go.Deep.choose_lt (α := Int) (n := len) (p := fun i (r : Int) => W.cells? 0 (a.add (i * 1)) 1 = some [.int .i64 r]) (fun i hi => by
      obtain ⟨cs', h1, h2⟩ := hx i (by omega)
      obtain ⟨f, e0, _⟩ := DataW.trod_int Tryz.underlying3 h2
      subst e0
      exact ⟨f, h1⟩)
    rcases Nat.eq_zero_or_pos len with rfl | hpos
    · exact ⟨some a, 0, m, fun _ => 0, rfl, .inl ⟨_, _, rfl, rfl⟩, Nat.zero_le _, Nat.zero_le _⟩
    · have hc0 := (World.cells?_some (hR 0 hpos)).2.2 0 (by omega)
      obtain ⟨b, off, spot⟩ := a
      obtain rfl : spot = none := by simpa [Addr.add] using World.cell?_spot hc0
      have hc : ∀ j, j < len → W.cell? ⟨b, off + j * 1 + 0, none⟩ = some (.int .i64 (R j)) := fun j hj => by
        have := (World.cells?_some (hR j hj)).2.2 0 (by omega)
        rwa [Go.WideShapes.add_plain, Go.WideShapes.add_plain] at this
      have hbs : b < W.heap.size := World.block_lt_of_cell? W ⟨b, off + 0 * 1 + 0, none⟩ (hc 0 hpos)
      refine ⟨some ⟨b, off, none⟩, len, m, R, rfl, .inr ⟨b, off, _, rfl, hbs, fun j hj => ?_⟩, by omega, by omega⟩
      have h := hc j hj; rw [Nat.mul_one, Nat.add_zero] at h; exact h
set_option maxRecDepth 100000 in
theorem open_intsIn {H : Type} {enc : TypeId × Value → H} {W : World} {base : Nat} {v : Value} {d : DataW H} {p : List MemPlace} (hv : Value.okWide Tryz.prog W .any base 47 v) (h : DataW.Trod enc Tryz.prog W 0 (fun _ => true) true 47 v d p) :
    ∃ a n cap z, v = .slice a n cap ∧ IntsIn W (.slice a n cap) n z ∧ n ≤ maxLen := by
  obtain ⟨a0, len, cap, rfl⟩ := Go.WideShapes.okWide_slice Tryz.underlying47 hv
  obtain ⟨fuel, hf⟩ := h
  obtain ⟨a, n, c, z, h1, h2, _, h4⟩ := open_intl (by simpa [Value.cells] using hf)
  exact ⟨a, n, c, z, h1, h2, h4⟩
set_option maxRecDepth 100000 in
theorem open_persc {H : Type} {enc : TypeId × Value → H} {W : World} {fuel : Nat} {cs : List Value} {x : DataW H × List MemPlace} (h : DataW.trod enc Tryz.prog W 0 (fun _ => true) true fuel 75 cs = some x) (hl : cs.length = 4) :
    ∃ (P : Pers) (rv cv : Value), cs = [.int .i64 P.lo, .int .i64 P.hi, rv, cv] ∧ RlsIn W rv P.nr P.R ∧ RcsIn W cv P.nc P.C ∧ P.nr ≤ maxLen ∧ P.nc ≤ maxLen := by
  match cs, hl with
  | [c0, c1, c2, c3], _ =>
    obtain ⟨y0, y1, y2, n, _, _, h0, h1, h2⟩ := Go.Deep.trod_struct3 Tryz.underlying75 h
    have k32 : Tryz.prog.cellsOf 71 = 2 := by kernel_rfl
    have k33 : Tryz.prog.cellsOf 72 = 1 := by kernel_rfl
    have k34 : Tryz.prog.cellsOf 73 = 1 := by kernel_rfl
    have k1 : Tryz.prog.cellsOf 3 = 1 := by kernel_rfl
    simp only [k32, k33, k34, List.drop, List.take] at h0 h1 h2
    obtain ⟨z0, z1, m, _, _, g0, g1⟩ := trod_struct2 Tryz.underlying71 h0
    simp only [k1, List.drop, List.take] at g0 g1
    obtain ⟨lo, e0, _⟩ := DataW.trod_int Tryz.underlying3 g0
    obtain ⟨hi, e1, _⟩ := DataW.trod_int Tryz.underlying3 g1
    simp at e0 e1
    subst e0 e1
    obtain ⟨nr, R, hR, hr⟩ := open_rls h1
    obtain ⟨nc, C, hC, hc⟩ := open_rcs h2
    exact ⟨⟨lo, hi, nr, R, nc, C⟩, c2, c3, rfl, hR, hC, hr, hc⟩
/-- An entry's seven values. -/
def EnC (W : World) (cs : List Value) (e : En) : Prop := ∃ rv cv nv, cs = [.int .i64 e.p.lo, .int .i64 e.p.hi, rv, cv, .int .i64 e.sex, nv, .int .i64 e.pl] ∧ QR W rv cv nv e
set_option maxRecDepth 100000 in
theorem open_en {H : Type} {enc : TypeId × Value → H} {W : World} {fuel : Nat} {cs : List Value} {x : DataW H × List MemPlace} (h : DataW.trod enc Tryz.prog W 0 (fun _ => true) true fuel 77 cs = some x) (hl : cs.length = 7) : ∃ e : En, EnC W cs e := by
  match cs, hl with
  | [c0, c1, c2, c3, c4, c5, c6], _ =>
    obtain ⟨y0, y1, y2, y3, n, _, _, h0, h1, h2, h3⟩ := Go.Joins.trod_struct4 Tryz.underlying77 h
    have k4 : Tryz.prog.cellsOf 75 = 4 := by kernel_rfl
    have k33 : Tryz.prog.cellsOf 47 = 1 := by kernel_rfl
    have k1 : Tryz.prog.cellsOf 3 = 1 := by kernel_rfl
    simp only [k4, k33, k1, List.drop, List.take] at h0 h1 h2 h3
    obtain ⟨P, rv, cv, e0, hR, hC, br, bc⟩ := open_persc h0 rfl
    obtain ⟨sx, e1, _⟩ := DataW.trod_int Tryz.underlying3 h1
    obtain ⟨a, nn, cap, z, e2, hZ, _, bz⟩ := open_intl h2
    obtain ⟨pl, e3, _⟩ := DataW.trod_int Tryz.underlying3 h3
    simp at e0 e1 e3
    obtain ⟨rfl, rfl, rfl, rfl⟩ := e0
    subst e1 e2 e3
    exact ⟨⟨P, sx, nn, z, pl⟩, c2, c3, _, rfl, hR, hC, hZ, br, bc, bz⟩
set_option maxRecDepth 100000 in
theorem open_ens {H : Type} {enc : TypeId × Value → H} {W : World} {fuel : Nat} {v : Value} {x : DataW H × List MemPlace} (h : DataW.trod enc Tryz.prog W 0 (fun _ => true) true fuel 22 [v] = some x) :
    ∃ a n cap E, v = .slice a n cap ∧ EsQ QR W (.slice a n cap) n E ∧ n ≤ cap ∧ n ≤ maxLen := by
  rcases Go.Deep.open_slice Tryz.underlying22 h with ⟨hcs, _⟩ | ⟨a, len, cap, m, n, D, Pl, hcs, _, hl, hm, hmm, _, hx⟩
  · simp at hcs; subst hcs
    exact ⟨none, 0, 0, fun _ => default, rfl, .inl ⟨_, _, rfl, rfl⟩, Nat.zero_le _, Nat.zero_le _⟩
  · simp at hcs; subst hcs
    simp only [if_true] at hmm
    subst hmm
    have k : Tryz.prog.cellsOf 77 = 7 := by kernel_rfl
    rw [k] at hx
    obtain ⟨R, hR⟩ := Go.Deep.choose_lt (α := En × List Value) (n := len) (p := fun i (r : En × List Value) => W.cells? 0 (a.add (i * 7)) 7 = some r.2 ∧ EnC W r.2 r.1) (fun i hi => by
      obtain ⟨cs', h1, h2⟩ := hx i (by omega)
      obtain ⟨e, he⟩ := open_en h2 (World.cells?_some h1).2.1
      exact ⟨(e, cs'), h1, he⟩)
    rcases Nat.eq_zero_or_pos len with rfl | hpos
    · exact ⟨some a, 0, m, fun _ => default, rfl, .inl ⟨_, _, rfl, rfl⟩, Nat.zero_le _, Nat.zero_le _⟩
    · obtain ⟨rv, cv, nv, e0, _⟩ := (hR 0 hpos).2
      have hc0 := (World.cells?_some (hR 0 hpos).1).2.2 0 (by omega)
      obtain ⟨b, off, spot⟩ := a
      have : W.cell? (((⟨b, off, spot⟩ : Addr).add (0 * 7)).add 0) = some (.int .i64 (R 0).1.p.lo) := by rw [hc0, e0]; rfl
      obtain rfl : spot = none := by simpa [Addr.add] using World.cell?_spot this
      have hc : ∀ j, j < len → ∀ i, i < 7 → W.cell? ⟨b, off + j * 7 + i, none⟩ = (R j).2[i]? := fun j hj i hi => by
        have := (World.cells?_some (hR j hj).1).2.2 i hi
        rwa [Go.WideShapes.add_plain, Go.WideShapes.add_plain] at this
      have hbs : b < W.heap.size := World.block_lt_of_cell? W ⟨b, off + 0 * 7 + 0, none⟩ (by rw [hc 0 hpos 0 (by omega), e0]; rfl)
      refine ⟨some ⟨b, off, none⟩, len, m, fun j => (R j).1, rfl, .inr ⟨b, off, _, rfl, hbs, fun j hj => ?_⟩, by omega, by omega⟩
      obtain ⟨rv, cv, nv, e, hq⟩ := (hR j hj).2
      have hcj := hc j hj
      rw [e] at hcj
      exact ⟨rv, cv, nv, ⟨hcj 0 (by omega), hcj 1 (by omega), hcj 2 (by omega), hcj 3 (by omega), hcj 4 (by omega), hcj 5 (by omega), hcj 6 (by omega)⟩, hq⟩
/-- What a law's file is. -/
structure FlLaw (W : World) (x : FV) (f : Fl) : Prop where
  l : FlQ QR W x f
  bo : f.no ≤ maxLen
  bw : f.nw ≤ maxLen
  bm : f.nm ≤ maxLen
  co : f.no ≤ x.oc
  cn : f.nw ≤ x.nc
  cm : f.nm ≤ x.mc
set_option maxRecDepth 100000 in
theorem open_file {H : Type} {enc : TypeId × Value → H} {W : World} {base : Nat} {v : Value} {d : DataW H} {p : List MemPlace} (hv : Value.okWide Tryz.prog W .any base 25 v) (h : DataW.Trod enc Tryz.prog W 0 (fun _ => true) true 25 v d p) :
    ∃ (x : FV) (f : Fl), v = .agg #[.slice x.oa f.no x.oc, .slice x.na f.nw x.nc, .slice x.ma f.nm x.mc] ∧ FlLaw W x f := by
  obtain ⟨cs, rfl, hsz⟩ := okWide_struct Tryz.underlying25 hv
  have hsz3 : cs.size = 3 := hsz.trans (by kernel_rfl)
  obtain ⟨fuel, hf⟩ := h
  obtain ⟨z0, z1, z2, m, _, _, g0, g1, g2⟩ := Go.Deep.trod_struct3 Tryz.underlying25 hf
  have k1 : Tryz.prog.cellsOf 22 = 1 := by kernel_rfl
  have k2 : Tryz.prog.cellsOf 23 = 1 := by kernel_rfl
  match cs, hsz3 with
  | ⟨[c0, c1, c2]⟩, _ =>
    simp only [Value.cells, k1, k2, List.drop, List.take] at g0 g1 g2
    obtain ⟨a0, n0, p0, E0, rfl, q0, s0, m0⟩ := open_ens g0
    obtain ⟨a1, n1, p1, E1, rfl, q1, s1, m1⟩ := open_ens g1
    obtain ⟨a2, n2, p2, mf, mt, rfl, q2, s2, m2⟩ := open_mvs g2
    exact ⟨⟨a0, p0, a1, p1, a2, p2⟩, ⟨n0, E0, n1, E1, n2, mf, mt⟩, rfl, ⟨q0, q1, q2⟩, m0, m1, m2, s0, s1, s2⟩
end Go.Proofs.YtgbdbikjckfgmaaGreat

namespace Go.Proofs.YtgbdbikjckfgmaaGreat
open Go.RowKit Go.Shelf

def dR (q : Nat → Nat → Bool) (i k : Nat) : List (Int × Int) := ((List.range k).filter (q i)).map fun (k : Nat) => ((i : Int), (k : Int))
theorem dR_zero (q : Nat → Nat → Bool) (i : Nat) : dR q i 0 = [] := rfl
theorem dR_succ (q : Nat → Nat → Bool) (i k : Nat) : dR q i (k + 1) = dR q i k ++ if q i k = true then [((i : Int), (k : Int))] else [] := by
  unfold dR
  rw [List.range_succ, List.filter_append, List.map_append]
  congr 1
  rw [List.filter_cons, List.filter_nil]
  by_cases c : q i k = true
  · rw [if_pos c, if_pos c]; rfl
  · rw [if_neg c, if_neg c]; rfl
theorem dR_len (q : Nat → Nat → Bool) (i k : Nat) : (dR q i k).length ≤ k := by
  unfold dR; rw [List.length_map]; exact Nat.le_trans (List.length_filter_le _ _) (by simp)
def dL (q : Nat → Nat → Bool) (nw i : Nat) : List (Int × Int) := (List.range i).flatMap fun i => dR q i nw
theorem dL_zero (q : Nat → Nat → Bool) (nw : Nat) : dL q nw 0 = [] := rfl
theorem dL_succ (q : Nat → Nat → Bool) (nw i : Nat) : dL q nw (i + 1) = dL q nw i ++ dR q i nw := by
  unfold dL; rw [List.range_succ, List.flatMap_append]; simp
theorem dL_len (q : Nat → Nat → Bool) (nw : Nat) : ∀ i, (dL q nw i).length ≤ nw * i
  | 0 => by simp [dL]
  | i + 1 => by
    have h1 := dL_len q nw i
    have h2 := dR_len q i nw
    rw [dL_succ, List.length_append, Nat.mul_succ]; omega
theorem dL_ch (f : Fl) (p : Nat → Nat → Bool) (n : Nat) : dL (fun i k => f.g i k && p i k) f.nw n = chL f p n := by
  unfold dL chL
  congr 1
  funext i
  unfold dR rowP Fl.P
  rw [List.filter_filter]
  congr 2
  funext k
  exact Bool.and_comm _ _
theorem dL_congr {q q' : Nat → Nat → Bool} {nw n : Nat} (h : ∀ i k, i < n → k < nw → q i k = q' i k) : dL q nw n = dL q' nw n := by
  induction n with
  | zero => rfl
  | succ n ih =>
    rw [dL_succ, dL_succ, ih fun i k hi hk => h i k (by omega) hk]
    congr 1
    unfold dR
    congr 1
    apply List.filter_congr
    intro k hk
    exact h n k (by omega) (List.mem_range.1 hk)
theorem dL_g (f : Fl) : dL f.g f.nw f.no = chL f pT f.no := by
  rw [← dL_ch]; exact dL_congr fun i k _ _ => by simp [pT]
end Go.Proofs.YtgbdbikjckfgmaaGreat

namespace Go.Proofs.YtgbdbikjckfgmaaGreat
open Go.RowKit Go.Shelf

theorem bit_sub : ∀ (x : Fin 256) (b j : Fin 8), (x : Nat).testBit b = true → ((x : Nat) - 2 ^ (b : Nat)).testBit j = ((x : Nat).testBit j && !decide ((j : Nat) = b)) := by decide +kernel
theorem bit_le {x b : Nat} (h : x.testBit b = true) : 2 ^ b ≤ x := Nat.ge_two_pow_of_testBit h
theorem lt256_ext {x y : Nat} (hx : x < 256) (hy : y < 256) (h : ∀ j, j < 8 → x.testBit j = y.testBit j) : x = y := by
  apply Nat.eq_of_testBit_eq
  intro j
  by_cases hj : j < 8
  · exact h j hj
  · have e : ∀ z, z < 256 → z.testBit j = false := fun z hz => Nat.testBit_lt_two_pow (Nat.lt_of_lt_of_le hz (show 2 ^ 8 ≤ 2 ^ j from Nat.pow_le_pow_right (by decide) (by omega)))
    rw [e x hx, e y hy]
theorem rowN_256 (p : Nat → Bool) : rowN p 8 < 256 := rowN_lt p 8
theorem rowN_off (p : Nat → Bool) (b : Nat) (hb : b < 8) : rowN (fun k => p k && !decide (k = b)) 8 = if p b = true then rowN p 8 - 2 ^ b else rowN p 8 := by
  have h0 := rowN_256 p
  have h1 := rowN_256 (fun k => p k && !decide (k = b))
  by_cases c : p b = true
  · rw [if_pos c]
    have hb2 : (rowN p 8).testBit b = true := by rw [rowN_test]; simp [hb, c]
    refine lt256_ext h1 (Nat.lt_of_le_of_lt (Nat.sub_le _ _) h0) fun j hj => ?_
    rw [bit_sub ⟨rowN p 8, h0⟩ ⟨b, hb⟩ ⟨j, hj⟩ hb2]
    simp only [rowN_test, hj, decide_true, Bool.true_and]
  · rw [if_neg c]
    refine lt256_ext h1 h0 fun j hj => ?_
    simp only [rowN_test, hj, decide_true, Bool.true_and]
    by_cases e : j = b
    · subst e; simp at c; simp [c]
    · simp [e]
theorem rowN_nil (p : Nat → Bool) (h : ∀ k, k < 8 → p k = false) : rowN p 8 = 0 := by
  refine lt256_ext (rowN_256 p) (by decide) fun j hj => ?_
  rw [rowN_test]; simp [h j hj]
theorem rowN_eqv {p q : Nat → Bool} (h : ∀ k, k < 8 → p k = q k) : rowN p 8 = rowN q 8 := by
  refine lt256_ext (rowN_256 p) (rowN_256 q) fun j hj => ?_
  rw [rowN_test, rowN_test]; simp [hj, h j hj]
theorem gI_congr {G H : Nat → Nat → Bool} {i : Nat} (h : ∀ k, k < 8 → G i k = H i k) : gI G i = gI H i := by
  unfold gI; rw [rowN_eqv h]
/-- Without one pair. -/
theorem gI_one (G : Nat → Nat → Bool) (a b : Nat) (hb : b < 8) (i : Nat) : gI (offG G (oneS a b)) i = if i = a then (if G a b = true then gI G a - ((2 ^ b : Nat) : Int) else gI G a) else gI G i := by
  by_cases e : i = a
  · subst e
    rw [if_pos rfl]
    have e1 : gI (offG G (oneS i b)) i = ((rowN (fun k => G i k && !decide (k = b)) 8 : Nat) : Int) := by
      unfold gI; congr 1; exact rowN_eqv fun k _ => by simp [offG, oneS]
    rw [e1, rowN_off _ _ hb]
    by_cases c : G i b = true
    · rw [if_pos c, if_pos c]
      have : 2 ^ b ≤ rowN (G i) 8 := bit_le (by rw [rowN_test]; simp [hb, c])
      unfold gI; omega
    · rw [if_neg c, if_neg c]; rfl
  · rw [if_neg e]; exact gI_congr fun k _ => by simp [offG, oneS, e]
/-- Without all pairs of an old entry and of a new one (-1: of none). -/
def awS (a b : Int) : Nat → Nat → Bool := fun i k => decide ((i : Int) = a) || decide ((k : Int) = b)
/-- The same, of a new entry with the first n old ones alone. -/
def awN (a b : Int) (n : Nat) : Nat → Nat → Bool := fun i k => decide ((i : Int) = a) || (decide (i < n) && decide ((k : Int) = b))
theorem awN_zero (G : Nat → Nat → Bool) (a b : Int) (i : Nat) : gI (offG G (awN a b 0)) i = if (i : Int) = a then 0 else gI G i := by
  by_cases e : (i : Int) = a
  · rw [if_pos e]; unfold gI
    rw [rowN_nil _ fun k _ => by simp [offG, awN, e]]; rfl
  · rw [if_neg e]; exact gI_congr fun k _ => by simp [offG, awN, e]
theorem awN_succ (G : Nat → Nat → Bool) (a : Int) (b n : Nat) : offG (offG G (awN a b n)) (oneS n b) = offG G (awN a b (n + 1)) := by
  funext i k
  simp only [offG, awN, oneS]
  by_cases c1 : i = n
  · subst c1
    by_cases c2 : k = b
    · subst c2; simp
    · have : ¬ ((k : Int) = (b : Int)) := by omega
      simp [c2, this]
  · have : (decide (i < n + 1)) = decide (i < n) := by simp; omega
    simp [c1, this]
theorem awN_8 (G : Nat → Nat → Bool) (a b : Int) {i : Nat} (hi : i < 8) : gI (offG G (awN a b 8)) i = gI (offG G (awS a b)) i :=
  gI_congr fun k _ => by simp [offG, awN, awS, hi]
theorem awN_neg (G : Nat → Nat → Bool) (a : Int) (i : Nat) {b : Int} (hb : b < 0) : gI (offG G (awN a b 0)) i = gI (offG G (awS a b)) i :=
  gI_congr fun k _ => by
    have : ¬ ((k : Int) = b) := by omega
    simp [offG, awN, awS, this]
theorem awS_two (a b : Nat) : awS (a : Int) (b : Int) = twoS a b := by
  funext i k
  simp only [awS, twoS]
  congr 1 <;> · apply decide_eq_decide.2; omega
theorem awS_row (a : Nat) : awS (a : Int) (-1) = rowS a := by
  funext i k
  have : ¬ ((k : Int) = -1) := by omega
  simp only [awS, rowS, decide_eq_false this, Bool.or_false]
  apply decide_eq_decide.2; omega
theorem awS_col (b : Nat) : awS (-1) (b : Int) = colS b := by
  funext i k
  have : ¬ ((i : Int) = -1) := by omega
  simp only [awS, colS, decide_eq_false this, Bool.false_or]
  apply decide_eq_decide.2; omega
end Go.Proofs.YtgbdbikjckfgmaaGreat

namespace Go.Proofs.YtgbdbikjckfgmaaGreat
open Go.RowKit Go.Shelf

theorem thinE_at {n : Nat} {E : Nat → En} (h : thinE n E = true) : n ≤ 11 ∧ ∀ j, j < n → (E j).p.nr ≤ 7 ∧ (E j).p.nc ≤ 11 ∧ (E j).nn ≤ 7 := by
  unfold thinE at h
  rw [Bool.and_eq_true] at h
  refine ⟨of_decide_eq_true h.1, fun j hj => ?_⟩
  have h2 := allB_all h.2 j hj
  simp only [En.thinB, Pers.thin, Bool.and_eq_true, decide_eq_true_eq] at h2
  omega
theorem thin_bd {f : Fl} (h : f.thin = true) : f.no ≤ 11 ∧ f.nw ≤ 11 ∧ f.nm ≤ 19 ∧ (∀ j, j < f.no → (f.O j).p.nr ≤ 7 ∧ (f.O j).p.nc ≤ 11 ∧ (f.O j).nn ≤ 7) ∧ ∀ j, j < f.nw → (f.N j).p.nr ≤ 7 ∧ (f.N j).p.nc ≤ 11 ∧ (f.N j).nn ≤ 7 := by
  unfold Fl.thin at h
  simp only [Bool.and_eq_true, decide_eq_true_eq] at h
  obtain ⟨⟨h1, h2⟩, h3⟩ := h
  exact ⟨(thinE_at h1).1, (thinE_at h2).1, h3, (thinE_at h1).2, (thinE_at h2).2⟩
theorem thinW (x : FV) (f : Fl) (w : World) (h : FlQ QR w x f) (b : Bool) (hb : f.thin = b) : ∀ X, Below w.heap.size w X → Calls Tryz.prog 18 #[.agg #[.slice x.oa f.no x.oc, .slice x.na f.nw x.nc, .slice x.ma f.nm x.mc]] X fun e w' => e = .returned (.bool b) ∧ Below X.heap.size X w' := fun X hX => by
  have := thinF_any x f X (h.below QR.k hX); rwa [hb] at this
theorem fileW (x : FV) (f : Fl) (w : World) (h : FlQ QR w x f) (ht : f.thin = true) : ∀ X, Below w.heap.size w X → Calls Tryz.prog 21 #[.agg #[.slice x.oa f.no x.oc, .slice x.na f.nw x.nc, .slice x.ma f.nm x.mc]] X fun e w' => ∃ z : FV, e = .returned (.agg #[.slice z.oa f.no z.oc, .slice z.na f.nw z.nc, .slice z.ma f.nm z.mc]) ∧ FlQ QP w' z f ∧ Below X.heap.size X w' := fun X hX => by
  obtain ⟨b1, b2, b3, b4, b5⟩ := thin_bd ht
  exact file5_any x f X (h.below QR.k hX) (by omega) (by omega) (by omega) (fun j hj => by have := b4 j hj; omega) (fun j hj => by have := b5 j hj; omega)
theorem faultW (x : FV) (f : Fl) (w : World) (h : FlQ QR w x f) (n : Int) (hn : f.fault = n) : ∀ X, Below w.heap.size w X → Calls Tryz.prog 23 #[.agg #[.slice x.oa f.no x.oc, .slice x.na f.nw x.nc, .slice x.ma f.nm x.mc]] X fun e w' => e = .returned (.int .i64 n) ∧ Below X.heap.size X w' := fun X hX => by
  have := fault5_any x f X (h.below QR.k hX); rwa [hn] at this
theorem graphedW (x : FV) (f : Fl) (w : World) (h : FlQ QR w x f) (hf : f.fault = 0) : ∀ X, Below w.heap.size w X → Calls Tryz.prog 24 #[.agg #[.slice x.oa f.no x.oc, .slice x.na f.nw x.nc, .slice x.ma f.nm x.mc]] X fun e w' => e = .returned (.agg (a8 (gI f.g))) ∧ Below X.heap.size X w' := fun X hX => graphed_any x f X (h.below QR.k hX) hf
theorem checkW (f : Fl) (ht : f.thin = true) (n : Int) (hn : f.fault = n) : ∀ (z : FV) X, FlQ QP X z f → Calls Tryz.prog 20 #[.agg #[.slice z.oa f.no z.oc, .slice z.na f.nw z.nc, .slice z.ma f.nm z.mc]] X fun e w' => e = .returned (.int .i64 n) ∧ Below X.heap.size X w' := fun z X hq => by
  obtain ⟨b1, b2, b3, _⟩ := thin_bd ht
  have := checkFile_any z f X hq (by omega) (by omega) (by omega); rwa [hn] at this
theorem graph_info (F : Nat → Int) : (Tryz.prog.info? 40).map (fun i => i.size) = some (a8 F).size := by rw [a8_size]; kernel_rfl
theorem Tryz.infoPairR : (Tryz.prog.info? 45).map (fun i => (i.zero, i.size, i.bytes)) = some (some (.agg #[.int .i64 0, .int .i64 0]), 2, 16) := by kernel_rfl
theorem BF.setw {w X : World} {L : List (Nat × Array Value × TypeId)} {T : TypeId} (h : BF w X L) (cs0 cs' : Array Value) : BF w ((X.alloc (.cells cs0 T)).setRow X.heap.size cs') ((X.heap.size, cs', T) :: L) := by
  refine (h.alloc cs0 T).setR (.head _) cs' fun y hy => ⟨?_, .tail _ hy⟩
  have := (h.lt (b := y.1) (cs := y.2.1) (T := y.2.2) hy).2
  omega
theorem below_setw {w X : World} (h : Below w.heap.size w X) (cs0 cs' : Array Value) (T : TypeId) : Below w.heap.size w ((X.alloc (.cells cs0 T)).setRow X.heap.size cs') := below_setRow (h.trans ((below_alloc X _).mono h.size)) h.size
end Go.Proofs.YtgbdbikjckfgmaaGreat
