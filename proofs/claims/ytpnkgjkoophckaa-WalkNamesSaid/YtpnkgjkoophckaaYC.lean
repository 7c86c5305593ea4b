/- Walk: divide. -/
import Derived.Test.YtpnkgjkoophckaaYB
namespace Go.Proofs.Ytpnkgjkoophckaa
open Go.RowKit Go.Shelf Go.Maps

/-- What divide gives. -/
def GivesD (w : World) (A bm n : Nat) (x : MV) (m : Mp) (lim : Int) (e : Ending) (W' : World) : Prop :=
  ∃ v, e = .returned (.tuple #[v, .bool (decide (dv (okL m lim) (2 ^ m.nw - 1) ≠ []))]) ∧ At W' A bm n x m ∧ Hold W' v (dv (okL m lim) (2 ^ m.nw - 1)) ∧ Fr (fun q => q = bm) w W'
theorem Try.infoSets : (Try.prog.info? 136).map (fun i => (i.zero, i.size, i.bytes)) = some (some (.slice none 0 0), 1, 24) := by kernel_rfl
theorem eA_nil (N : Nat) : madeCells (Value.slice none 0 0).cells (N * 1) = eA (fun _ => .slice none 0 0) N := by
  have h : (madeCells (Value.slice none 0 0).cells (N * 1)).toList = (List.range N).map (fun _ => Value.slice none 0 0) := by
    rw [Nat.mul_one, List.map_const', List.length_range]
    exact toList_madeCells_one _ _
  unfold eA
  rw [← h]
theorem make_sets (N : Nat) (hN : N ≤ 100000) (W : World) : (Instr.makeSlice 168 (.int .i64 (N : Int)) (.int .i64 (N : Int))).run Try.prog W = .ok (.slice (some ⟨W.heap.size, 0, none⟩) N N) (W.alloc (.cells (eA (fun _ => .slice none 0 0) N) 136)) := by
  obtain ⟨i, hi, hz, h1, h2⟩ := info_parts Try.infoSets
  have := run_makeSlice (P := Try.prog) W 168 136 i (.slice none 0 0) Try.underlying168 hi hz .i64 .i64 N N (by omega) (Int.le_refl _) (by rw [h1, Int.toNat_natCast]; omega) (by rw [h2]; omega) (by omega)
  rw [h1, Int.toNat_natCast, eA_nil] at this
  exact this
set_option maxRecDepth 100000 in
set_option maxHeartbeats 16000000 in
theorem divide_any {m : Mp} (ok : OkM m) (x : MV) (A bm n : Nat) (lim : Int) (hn : n ≤ 900000000000000000) (w : World) (hw : At w A bm n x m) :
    Calls Try.prog 78 #[.pointer (some ⟨A, 0, none⟩), .int .i64 lim] w (GivesD w A bm (n + 30000000000000000) x m lim) := by
  have hnw := ok.nw
  unfold GivesD
  obtain ⟨N, hN⟩ : ∃ N, N = 2 ^ m.nw := ⟨_, rfl⟩
  have hN8 : N ≤ 256 := by rw [hN]; exact Nat.pow_le_pow_right (by decide) hnw.2
  have hN2 : 2 ≤ N := by rw [hN]; exact Nat.pow_le_pow_right (n := 2) (by decide) hnw.1
  have HWH := Lib.hid (fun W => whole_any (.slice x.ra m.nr x.rc) m.nw x.wc x.wa (by omega) W)
  rw [← hN] at HWH ⊢
  obtain ⟨l, hl⟩ : ∃ l, dv (okL m lim) (N - 1) = l := ⟨_, rfl⟩
  have HLD := Lib.hid hl
  rw [hl]
  clear hl
  have HNN := Lib.hid hN
  have HSW := Lib.hid hw
  have HOK := Lib.hid ok
  clear hN hw
  have hwr : IntKind.i64.wrap (((N - 1 : Nat) : Int) + 1) = (N : Int) := (IntWalk.i64_in _ (by omega)).trans (by omega)
  have HA0 : Hid (BF w ((w.alloc (.cells #[.pointer (some ⟨A, 0, none⟩)] 125)).alloc (.cells #[.int .i64 lim] 3)) [(w.heap.size, #[.pointer (some ⟨A, 0, none⟩)], 125), (w.heap.size + 1, #[.int .i64 lim], 3)]) := BF.made2 _ _ _ _ _
  have HC := Lib.hid (fun X (hX : Below w.heap.size w X) => (HSW.out.below hX).wkc)
  go_enter Try.func78, Try.ntmps78
  go_upto_region 1 with fail
  generalize ((w.alloc (.cells #[.pointer (some ⟨A, 0, none⟩)] 125)).alloc (.cells #[.int .i64 lim] 3)) = w0 at *
  have c0 := HA0.out.cell (.head _) 0
  obtain ⟨a0, a1⟩ := HC.out _ HA0.out.fr
  have ni : (0 : Int) ≤ (N : Int) := by omega
  have hmk := fun W => make_sets N (by omega) W
  go_wp2_with (go_at_call 77; refine (HWH.out _).mono ?_; rintro _ w1 ⟨rfl, hb1⟩; have HA1 := Lib.hid (HA0.out.below hb1); clear hb1)
  obtain ⟨z1, z2, z3, z4, z5⟩ := alloc3 w1 (.cells (eA (fun _ => .slice none 0 0) N) 136) (.cells #[.slice (some ⟨w1.heap.size, 0, none⟩) N N] 168) (.cells #[clo (w1.heap.size + 1) w.heap.size (w.heap.size + 1) (w1.heap.size + 1 + 1)] 169)
  have HX3 := Lib.hid (HA1.out.below z2)
  have HD0 : Hid (Dv w _ A bm n x m (w1.heap.size + 1) w.heap.size (w.heap.size + 1) (w1.heap.size + 1 + 1) w1.heap.size N lim (fun _ => []) (fun _ => .slice none 0 0)) := ⟨HSW.out.below HX3.out.fr, Fr.below HX3.out.fr _, HA1.out.fr.size, z4, (HX3.out.bk _ _ _ (.head _)).2, (HX3.out.bk _ _ _ (.tail _ (.head _))).2, z5, z3, fun _ _ => .inl ⟨rfl, rfl⟩⟩
  unfold clo at HD0
  clear z1 z2 z3 z4 z5 HX3 c0 a0 a1 hmk
  have hwn := HA1.out.fr.size
  generalize w1.heap.size + 1 + 1 = Bs at *
  generalize w1.heap.size + 1 = Bb at *
  generalize w1.heap.size = BQ at *
  generalize hX : World.alloc _ _ = w2 at HD0 ⊢
  clear hX
  have HK := Lib.hid (fun X (hX : Below w2.heap.size w2 X) => HD0.out.below hX)
  obtain ⟨c1, c2, c3, c4⟩ := HD0.out.cells
  obtain ⟨a0, a1⟩ := HD0.out.st.wkc
  unfold clo at c4
  have HBD : Hid (Below w2.heap.size w2 w2.drew) := (Below.refl _ _).drew
  go_region_held3 (fun X => X.cell? ⟨w.heap.size, 0, none⟩ = some (.pointer (some ⟨A, 0, none⟩)) ∧ X.cell? ⟨Bs, 0, none⟩ = some (.func (.func 102) #[] #[.pointer (some ⟨Bb, 0, none⟩), .pointer (some ⟨w.heap.size, 0, none⟩), .pointer (some ⟨w.heap.size + 1, 0, none⟩), .pointer (some ⟨Bs, 0, none⟩)]) ∧ X.cell? ⟨A, 0, none⟩ = some (.slice x.wa m.nw x.wc) ∧ X.cell? ⟨A, 1, none⟩ = some (.slice x.ra m.nr x.rc)) (first | (refine ⟨?_, ?_, ?_, ?_⟩ <;> assumption) | go_keep) (first | (go_at_call 77; refine (HWH.out _).mono ?_; rintro _ w3 ⟨rfl, hb3⟩; have HD3 := Lib.hid (HK.out _ (HBD.out.trans (hb3.mono HBD.out.size))); obtain ⟨e1, e2, e3, e4⟩ := HD3.out.cells; unfold clo at e4; obtain ⟨g0, g1⟩ := HD3.out.st.wkc; clear hb3) | (go_at_call 102; refine (split_any HOK.out x A bm Bb w.heap.size (w.heap.size + 1) Bs BQ n n (N - 1) N lim w HSW.out HNN.out (by omega) (by omega) _ _ _ HD3.out ?_).mono ?_; (intro k hk; exact Or.inl rfl); rintro _ w4 ⟨v, Z4, E4, rfl, hd4, hv4, _, _⟩; have HD4 := Lib.hid hd4; have HV4 : Hid (Hold w4 v l) := HLD.out ▸ hv4; obtain ⟨k1, k2, k3, k4⟩ := hd4.cells; unfold clo at k4; obtain ⟨j0, j1⟩ := hd4.st.wkc; clear hd4 hv4))
  clear HK HWH HD0 HD3 k1 k2 k3 k4 j0 j1 e1 e2 e3 e4 g0 g1 c1 c2 c3 c4 a0 a1
  rcases HV4.out.cases with ⟨hl, hv⟩ | ⟨hl, g, c, hv⟩
  · subst hv hl
    have hnv := fun W => set_neq W none 0 0
    go_wp2_with fail
    exact bodyPost_ret (v := .tuple #[.slice none 0 0, .bool false]) (by simp [results, Try.results78, go_sem]) rfl ⟨_, rfl, HD4.out.st, HV4.out, HD4.out.fr⟩
  · subst hv
    have hnv := fun W => set_neq W (some ⟨g, 0, none⟩) l.length c
    have HL : Hid (decide (l ≠ []) = true) := by simpa [Hid] using hl
    clear hl
    go_wp2_with fail
    exact bodyPost_ret (v := .tuple #[.slice (some ⟨g, 0, none⟩) l.length c, .bool true]) (by simp [results, Try.results78, go_sem]) rfl ⟨_, by rw [HL.out], HD4.out.st, HV4.out, HD4.out.fr⟩
end Go.Proofs.Ytpnkgjkoophckaa
