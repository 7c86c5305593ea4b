/- awake: the chapter's examples hold. -/
import Derived.Test.YtjaoflfophcibaaPH
namespace Go.Proofs.Ytjaoflfophcibaa
open Go.RowKit Go.Shelf

theorem fields_range : (Try.prog.fieldsOf 29).toList.map (fun f => (f.name ≠ "_" : Bool)) = [true, true] ∧ (Try.prog.fieldsOf 29).toList.map (·.type) = [3, 3] ∧ (Try.prog.fieldsOf 29).toList.map (·.offset) = [0, 1] :=
  ⟨by kernel_rfl, by kernel_rfl, by kernel_rfl⟩
theorem eq_range (a b c d : Int) (W : World) : (Op.equalIn 10000 29 (.agg #[.int .i64 a, .int .i64 b]) (.agg #[.int .i64 c, .int .i64 d])).run Try.prog W = .ok (a == c && b == d) W := by
  have hu : Try.prog.underlying 29 = some (.struct (Try.prog.fieldsOf 29)) := by kernel_rfl
  have hp : Try.prog.stoodInHeld 29 = false := by kernel_rfl
  have hk : Try.prog.plainKey 3 = true := by kernel_rfl
  obtain ⟨h1, h2, h3⟩ := fields_range
  rw [run_equalIn_struct W 9999 29 _ _ hu hp]
  generalize (Try.prog.fieldsOf 29).toList = fs at *
  obtain ⟨f0, f1, rfl⟩ : ∃ f0 f1, fs = [f0, f1] := by
    have hl := congrArg List.length h2
    rw [List.length_map] at hl
    exact ⟨fs[0]'(by simp [hl]), fs[1]'(by simp [hl]), List.ext_getElem (by simpa using hl) (fun i hi _ => by
      have : i = 0 ∨ i = 1 := by simp at hl; omega
      rcases this with rfl | rfl <;> rfl)⟩
  simp only [List.map_cons, List.map_nil, List.cons.injEq, and_true, decide_eq_true_eq] at h1 h2 h3
  obtain ⟨n0, n1⟩ := h1
  obtain ⟨t0, t1⟩ := h2
  obtain ⟨o0, o1⟩ := h3
  have p0 := run_part_plain (w := W) hk (xs := #[.int .i64 a, .int .i64 b]) (off := 0) (v := .int .i64 a) rfl
  have p1 := run_part_plain (w := W) hk (xs := #[.int .i64 a, .int .i64 b]) (off := 1) (v := .int .i64 b) rfl
  have p2 := run_part_plain (w := W) hk (xs := #[.int .i64 c, .int .i64 d]) (off := 0) (v := .int .i64 c) rfl
  have p3 := run_part_plain (w := W) hk (xs := #[.int .i64 c, .int .i64 d]) (off := 1) (v := .int .i64 d) rfl
  have q0 := run_equalIn_int W 9998 3 .i64 .i64 a c Try.underlying3
  have q1 := run_equalIn_int W 9998 3 .i64 .i64 b d Try.underlying3
  simp only [Op.eqFields, n0, n1, t0, t1, o0, o1, ne_eq, not_false_eq_true, if_true, Sem.run_bind, Result.andThen_ok, p0, p2, q0]
  cases h0 : (a == c)
  · rfl
  · simp only [Bool.not_true, Bool.false_eq_true, if_false, Sem.run_bind, Result.andThen_ok, p1, p3, q1]
    cases h1 : (b == d) <;> rfl
theorem eql_range (a b c d : Int) (W : World) : (binOp .eql 29 (.agg #[.int .i64 a, .int .i64 b]) (.agg #[.int .i64 c, .int .i64 d])).run Try.prog W = .ok (.bool (a == c && b == d)) W := by
  rw [run_eql_struct, eq_range]; rfl
theorem neq_range (a b c d : Int) (W : World) : (binOp .neq 29 (.agg #[.int .i64 a, .int .i64 b]) (.agg #[.int .i64 c, .int .i64 d])).run Try.prog W = .ok (.bool (!(a == c && b == d))) W := by
  rw [run_neq_struct, eq_range]; rfl
theorem fields_rcell : (Try.prog.fieldsOf 48).toList.map (fun f => (f.name ≠ "_" : Bool)) = [true, true] ∧ (Try.prog.fieldsOf 48).toList.map (·.type) = [3, 3] ∧ (Try.prog.fieldsOf 48).toList.map (·.offset) = [0, 1] :=
  ⟨by kernel_rfl, by kernel_rfl, by kernel_rfl⟩
theorem eq_rcell (a b c d : Int) (W : World) : (Op.equalIn 10000 48 (.agg #[.int .i64 a, .int .i64 b]) (.agg #[.int .i64 c, .int .i64 d])).run Try.prog W = .ok (a == c && b == d) W := by
  have hu : Try.prog.underlying 48 = some (.struct (Try.prog.fieldsOf 48)) := by kernel_rfl
  have hp : Try.prog.stoodInHeld 48 = false := by kernel_rfl
  have hk : Try.prog.plainKey 3 = true := by kernel_rfl
  obtain ⟨h1, h2, h3⟩ := fields_rcell
  rw [run_equalIn_struct W 9999 48 _ _ hu hp]
  generalize (Try.prog.fieldsOf 48).toList = fs at *
  obtain ⟨f0, f1, rfl⟩ : ∃ f0 f1, fs = [f0, f1] := by
    have hl := congrArg List.length h2
    rw [List.length_map] at hl
    exact ⟨fs[0]'(by simp [hl]), fs[1]'(by simp [hl]), List.ext_getElem (by simpa using hl) (fun i hi _ => by
      have : i = 0 ∨ i = 1 := by simp at hl; omega
      rcases this with rfl | rfl <;> rfl)⟩
  simp only [List.map_cons, List.map_nil, List.cons.injEq, and_true, decide_eq_true_eq] at h1 h2 h3
  obtain ⟨n0, n1⟩ := h1
  obtain ⟨t0, t1⟩ := h2
  obtain ⟨o0, o1⟩ := h3
  have p0 := run_part_plain (w := W) hk (xs := #[.int .i64 a, .int .i64 b]) (off := 0) (v := .int .i64 a) rfl
  have p1 := run_part_plain (w := W) hk (xs := #[.int .i64 a, .int .i64 b]) (off := 1) (v := .int .i64 b) rfl
  have p2 := run_part_plain (w := W) hk (xs := #[.int .i64 c, .int .i64 d]) (off := 0) (v := .int .i64 c) rfl
  have p3 := run_part_plain (w := W) hk (xs := #[.int .i64 c, .int .i64 d]) (off := 1) (v := .int .i64 d) rfl
  have q0 := run_equalIn_int W 9998 3 .i64 .i64 a c Try.underlying3
  have q1 := run_equalIn_int W 9998 3 .i64 .i64 b d Try.underlying3
  simp only [Op.eqFields, n0, n1, t0, t1, o0, o1, ne_eq, not_false_eq_true, if_true, Sem.run_bind, Result.andThen_ok, p0, p2, q0]
  cases h0 : (a == c)
  · rfl
  · simp only [Bool.not_true, Bool.false_eq_true, if_false, Sem.run_bind, Result.andThen_ok, p1, p3, q1]
    cases h1 : (b == d) <;> rfl
theorem eql_rcell (a b c d : Int) (W : World) : (binOp .eql 48 (.agg #[.int .i64 a, .int .i64 b]) (.agg #[.int .i64 c, .int .i64 d])).run Try.prog W = .ok (.bool (a == c && b == d)) W := by
  rw [run_eql_struct, eq_rcell]; rfl
theorem neq_rcell (a b c d : Int) (W : World) : (binOp .neq 48 (.agg #[.int .i64 a, .int .i64 b]) (.agg #[.int .i64 c, .int .i64 d])).run Try.prog W = .ok (.bool (!(a == c && b == d))) W := by
  rw [run_neq_struct, eq_rcell]; rfl
theorem CL.rs {W : World} {v : Value} {l : List (Int × Int)} (h : CL W v l) : RsAt W v l.length (fun j => l.getD j (0, 0)) := by
  have hh : W.ownsRow 0 39 2 v l.length (flat l) := h
  rcases h.form with ⟨rfl, rfl⟩ | ⟨g, cap, rfl, hg⟩
  · exact .inl ⟨rfl, rfl⟩
  · refine .inr ⟨g, 0, cap, rfl, hg, fun j hj => ?_⟩
    obtain ⟨h0, h1⟩ := flat_get l j hj
    have e : l.getD j (0, 0) = l[j] := by rw [List.getD_eq_getElem?_getD, List.getElem?_eq_getElem hj]; rfl
    show W.cell? ⟨g, 0 + j * 2, none⟩ = some (.int .i64 (l.getD j (0, 0)).1) ∧ W.cell? ⟨g, 0 + j * 2 + 1, none⟩ = some (.int .i64 (l.getD j (0, 0)).2)
    rw [Nat.zero_add, e]
    exact ⟨(hh.cellAt _ (by omega)).trans h0, (hh.cellAt _ (by omega)).trans h1⟩
theorem rs_one (W : World) (x y : Int) : RsAt (W.alloc (.cells #[.int .i64 x, .int .i64 y] 48)) (.slice (some ⟨W.heap.size, 0, none⟩) 1 1) 1 (fun j => [(x, y)].getD j (0, 0)) := by
  refine .inr ⟨W.heap.size, 0, 1, rfl, by simp, fun j hj => ?_⟩
  obtain rfl : j = 0 := by omega
  exact ⟨cell_of_row _ _ 0 _ _ _ (heap_alloc_new W _), cell_of_row _ _ 1 _ _ _ (heap_alloc_new W _)⟩
theorem eq_range_ok (a b : Int) (W : World) : (binOp .eql 29 (.agg #[.int .i64 a, .int .i64 b]) (.agg #[.int .i64 a, .int .i64 b])).run Try.prog W = .ok (.bool true) W := by rw [eql_range]; simp
theorem RowsAt.two {w : World} {v : Value} {n : Nat} {rl : Nat → Nat} {ct : Nat → Nat → R2} (h : RowsAt w v n rl ct) (hn : 0 < n) : ∃ b off cap, v = .slice (some ⟨b, off, none⟩) n cap ∧ b < w.heap.size ∧ ∀ j, j < n → ∃ rv, w.cell? ⟨b, off + j, none⟩ = some rv ∧ RsAt w rv (rl j) (ct j) := by
  rcases h with ⟨_, h⟩ | h
  · omega
  · exact h
theorem RsAt.two {w : World} {v : Value} {n : Nat} {R : Nat → R2} (h : RsAt w v n R) (hn : 0 < n) : ∃ b off cap, v = .slice (some ⟨b, off, none⟩) n cap ∧ b < w.heap.size ∧ ∀ j, j < n → w.cell? ⟨b, off + j * 2, none⟩ = some (.int .i64 (R j).1) ∧ w.cell? ⟨b, off + j * 2 + 1, none⟩ = some (.int .i64 (R j).2) := by
  rcases h with ⟨_, h⟩ | h
  · omega
  · exact h

attribute [local go_sem ↓] Go.wp_at_zero Go.wp_at_succ
set_option maxRecDepth 100000 in
set_option maxHeartbeats 4000000 in
theorem awake_any (w : World) : Calls Try.prog 18 #[] w fun e w' => e = .returned (.bool true) ∧ Below w.heap.size w w' := by
  obtain ⟨i0, hi0, hz0, hz1, hz2⟩ := info_parts Try.infoRangeF
  obtain ⟨i1, hi1, hy0, hy1, hy2⟩ := info_parts Try.infoRangesF
  have HD : Hid (∀ W x, WL W x (countyT 60 120) → Calls Try.prog 39 #[.agg #[x.cv (countyT 60 120), x.bv (countyT 60 120), x.rv (countyT 60 120), x.nv (countyT 60 120)]] W fun e w' => ∃ v, e = .returned (.tuple #[v, .int .i64 0]) ∧ RowsAt w' v 2 (fun _ => 3) (bndR (countyT 60 120) off0) ∧ Below W.heap.size W w') := fun W x hx => Bounds_ok x _ (countyT_small _ _) W hx cty_fault cty_agree cty_up
  have HWD : Hid (∀ W x, WL W x (countyT 60 120) → Calls Try.prog 19 #[.agg #[x.cv (countyT 60 120), x.bv (countyT 60 120), x.rv (countyT 60 120), x.nv (countyT 60 120)], .agg #[.int .i64 0, .int .i64 2]] W fun e w' => e = .returned (.tuple #[.agg #[.int .i64 19, .int .i64 68], .int .i64 0]) ∧ Below W.heap.size W w') := fun W x hx => (Would_ok x _ (countyT_small _ _) 0 2 W hx cty_fault).mono (fun e w' h => by unfold WouldP at h; rw [cty_would.1, cty_would.2] at h; exact h)
  have HPJ : Hid (∀ W x, WL W x (countyT 60 120) → Calls Try.prog 31 #[.agg #[x.cv (countyT 60 120), x.bv (countyT 60 120), x.rv (countyT 60 120), x.nv (countyT 60 120)], .agg #[.int .i64 0, .int .i64 50]] W fun e w' => ∃ v, e = .returned (.tuple #[v, .int .i64 0]) ∧ RsAt w' v 3 ((countyT 60 120).before off0 2) ∧ Below W.heap.size W w') := fun W x hx => (Project_ok x _ (countyT_small _ _) W hx cty_fault 0 50 cty_births (by decide) cty_agree).mono (fun e w' h => by
    rcases h with ⟨⟨⟨g, hg, hE⟩, _⟩ | ⟨_, v, h1, h2⟩, h3⟩
    · exfalso
      have hg' : g = 0 ∨ g = 1 ∨ g = 2 := by have : g < 3 := hg; omega
      obtain ⟨p0, p1, p2⟩ := cty_proj
      have hE' : emptyR ((countyT 60 120).before off0 2 g) = true := hE
      rcases hg' with rfl | rfl | rfl
      · rw [p0] at hE'; exact absurd hE' (by decide)
      · rw [p1] at hE'; exact absurd hE' (by decide)
      · rw [p2] at hE'; exact absurd hE' (by decide)
    · exact ⟨v, h1, h2, h3⟩)
  have HLV : Hid (∀ W x, WL W x (countyT 60 70) → Calls Try.prog 33 #[.agg #[x.cv (countyT 60 70), x.bv (countyT 60 70), x.rv (countyT 60 70), x.nv (countyT 60 70)]] W fun e w' => ∃ v, e = .returned (.tuple #[v, .int .i64 0]) ∧ CL w' v [(1, 0)] ∧ Below W.heap.size W w') := fun W x hx => (Leave_ok x _ (countyT_small _ _) W hx cty_fault7).mono (fun e w' h => by
    unfold LeaveP at h
    rw [cty_leave] at h
    obtain ⟨⟨v, h1, h2⟩, h3⟩ := h
    exact ⟨v, h1, h2, h3⟩)
  go_enter Try.func18, Try.ntmps18
  go_wp2_with fail
  refine (county_any _ _ _).mono ?_
  rintro e w1 ⟨x1, rfl, hx1, hb1⟩
  have HB1 : Hid (Below w.heap.size w w1) := hb1
  have HX1 := Lib.hid hx1
  clear hb1 hx1
  go_wp2_with fail
  refine (HD.out _ _ HX1.out).mono ?_
  rintro e w2 ⟨v2, rfl, hr2, hb2⟩
  obtain ⟨g2, o2, c2, rfl, hg2, hz2⟩ := hr2.two (by omega)
  have HB2 : Hid (Below w1.heap.size w1 w2) := hb2
  obtain ⟨r0, hr0, k0⟩ := hz2 0 (by omega)
  obtain ⟨r1, hr1, k1⟩ := hz2 1 (by omega)
  obtain ⟨ga, oa, ca, rfl, hga, kz0⟩ := k0.two (by omega)
  obtain ⟨gb, ob, cb, rfl, hgb, kz1⟩ := k1.two (by omega)
  have kA := Lib.hid (kz0 1 (by omega))
  have kB := Lib.hid (kz1 0 (by omega))
  have kC := Lib.hid (kz1 1 (by omega))
  have kR := Lib.hid (And.intro hr0 hr1)
  clear hb2 hz2 hr2 k0 k1 kz0 kz1 hr0 hr1 HX1
  go_wp2_with fail
  refine (county_any _ _ _).mono ?_
  rintro e w3 ⟨x3, rfl, hx3, hb3⟩
  have HB3 : Hid (Below w2.heap.size w2 w3) := hb3
  have HX3 := Lib.hid hx3
  clear hb3 hx3
  go_wp2_with fail
  refine (HWD.out _ _ HX3.out).mono ?_
  rintro e w4 ⟨rfl, hb4⟩
  have HB4 : Hid (Below w3.heap.size w3 w4) := hb4
  clear hb4 HX3
  go_wp2_with fail
  refine (county_any _ _ _).mono ?_
  rintro e w5 ⟨x5, rfl, hx5, hb5⟩
  have hP : (w4.alloc (.cells #[.int .i64 19, .int .i64 68] 29)).cell? ⟨w4.heap.size, 0, none⟩ = some (.int .i64 19) := cell_of_row _ _ 0 _ _ _ (heap_alloc_new w4 (.cells #[.int .i64 19, .int .i64 68] 29))
  have hP' : (w4.alloc (.cells #[.int .i64 19, .int .i64 68] 29)).cell? ⟨w4.heap.size, 1, none⟩ = some (.int .i64 68) := cell_of_row _ _ 1 _ _ _ (heap_alloc_new w4 (.cells #[.int .i64 19, .int .i64 68] 29))
  have p0 := kept (b := w4.heap.size) hb5 (by simp) hP
  have p1 := kept (b := w4.heap.size) hb5 (by simp) hP'
  have hs5 : w4.heap.size + 1 ≤ w5.heap.size := by simpa using hb5.size
  have HB5 : Hid (Below w4.heap.size w4 w5) := below_step (below_alloc _ _) hb5
  have HP5 := Lib.hid (And.intro p0 p1)
  have HX5 := Lib.hid hx5
  clear hb5 hx5 hP hP' p0 p1
  go_wp2_with fail
  refine (between_any _ _ _).mono ?_
  rintro e w6 ⟨rfl, hb6⟩
  have HB6 : Hid (Below w5.heap.size w5 w6) := hb6
  clear hb6
  go_wp2_with fail
  refine (HPJ.out _ _ (HX5.out.below HB6.out)).mono ?_
  rintro e w7 ⟨v7, rfl, hr7, hb7⟩
  obtain ⟨g7, o7, c7, rfl, hg7, hz7⟩ := hr7.two (by omega)
  have HB7 : Hid (Below w6.heap.size w6 w7) := hb7
  have kD := Lib.hid (hz7 0 (by omega))
  have kE := Lib.hid (hz7 1 (by omega))
  have kF := Lib.hid (hz7 2 (by omega))
  clear hr7 hb7 hz7 HX5
  go_wp2_with fail
  refine (county_any _ _ _).mono ?_
  rintro e w8 ⟨x8, rfl, hx8, hb8⟩
  have HB8 : Hid (Below w7.heap.size w7 w8) := hb8
  have HX8 := Lib.hid hx8
  clear hb8 hx8
  go_wp2_with fail
  refine (HLV.out _ _ HX8.out).mono ?_
  rintro e w9 ⟨v9, rfl, hc9, hb9⟩
  have HB9 : Hid (Below w8.heap.size w8 w9) := hb9
  have HCL := Lib.hid hc9
  clear hb9 HX8
  obtain ⟨a9, c9, rfl⟩ := hc9.slice
  clear hc9
  have b79 : Below w7.heap.size w7 w9 := below_step HB8.out HB9.out
  have b59 : Below w5.heap.size w5 w9 := below_step HB6.out (below_step HB7.out b79)
  have b29 : Below w2.heap.size w2 w9 := below_step HB3.out (below_step HB4.out (below_step HB5.out b59))
  have HW : Hid (Below w.heap.size w w9) := below_step HB1.out (below_step HB2.out b29)
  have s2 := b29.size; have s5 := b59.size; have s7 := b79.size
  obtain ⟨bA, bB, bC⟩ := cty_bnd
  obtain ⟨pA, pB, pC⟩ := cty_proj
  have kA := kA.out; have kB := kB.out; have kC := kC.out; have kD := kD.out; have kE := kE.out; have kF := kF.out
  rw [bA] at kA; rw [bB] at kB; rw [bC] at kC; rw [pA] at kD; rw [pB] at kE; rw [pC] at kF
  clear bA bB bC pA pB pC
  have HSB : Hid (∀ X : World, Below w9.heap.size w9 X → X.cell? ⟨ga, oa + 2, none⟩ = some (.int .i64 80) ∧ X.cell? ⟨ga, oa + 3, none⟩ = some (.int .i64 90) ∧ X.cell? ⟨gb, ob, none⟩ = some (.int .i64 88) ∧ X.cell? ⟨gb, ob + 1, none⟩ = some (.int .i64 102) ∧ X.cell? ⟨gb, ob + 2, none⟩ = some (.int .i64 91) ∧ X.cell? ⟨gb, ob + 3, none⟩ = some (.int .i64 97) ∧ X.cell? ⟨g2, o2, none⟩ = some (.slice (some ⟨ga, oa, none⟩) 3 ca) ∧ X.cell? ⟨g2, o2 + 1, none⟩ = some (.slice (some ⟨gb, ob, none⟩) 3 cb) ∧ X.cell? ⟨w4.heap.size, 0, none⟩ = some (.int .i64 19) ∧ X.cell? ⟨w4.heap.size, 1, none⟩ = some (.int .i64 68) ∧ X.cell? ⟨g7, o7, none⟩ = some (.int .i64 0) ∧ X.cell? ⟨g7, o7 + 1, none⟩ = some (.int .i64 43) ∧ X.cell? ⟨g7, o7 + 2, none⟩ = some (.int .i64 79) ∧ X.cell? ⟨g7, o7 + 3, none⟩ = some (.int .i64 105) ∧ X.cell? ⟨g7, o7 + 4, none⟩ = some (.int .i64 145) ∧ X.cell? ⟨g7, o7 + 5, none⟩ = some (.int .i64 174)) := fun X hX => by
    have x29 : Below w2.heap.size w2 X := b29.trans (hX.mono s2)
    have x59 : Below w5.heap.size w5 X := b59.trans (hX.mono s5)
    have x79 : Below w7.heap.size w7 X := b79.trans (hX.mono s7)
    exact ⟨kept x29 hga kA.1, kept x29 hga kA.2, kept x29 hgb kB.1, kept x29 hgb kB.2, kept x29 hgb kC.1, kept x29 hgb kC.2, kept x29 hg2 kR.out.1, kept x29 hg2 kR.out.2, kept x59 (by omega) HP5.out.1, kept x59 (by omega) HP5.out.2, kept x79 hg7 kD.1, kept x79 hg7 kD.2, kept x79 hg7 kE.1, kept x79 hg7 kE.2, kept x79 hg7 kF.1, kept x79 hg7 kF.2⟩
  clear b79 b59 b29 s2 s5 s7 kA kB kC kD kE kF hs5
  have q1 := eq_range_ok 80 90; have q2 := eq_range_ok 88 102; have q3 := eq_range_ok 91 97; have q4 := eq_range_ok 19 68; have q5 := eq_range_ok 0 43; have q6 := eq_range_ok 79 105; have q7 := eq_range_ok 145 174
  go_wp2_with fail
  have HAX : Hid (Below w9.heap.size w9 w9.drew) := (Below.refl _ _).drew
  refine wp_region_held_drew (S := fun X => X.cell? ⟨ga, oa + 2, none⟩ = some (.int .i64 80) ∧ X.cell? ⟨ga, oa + 3, none⟩ = some (.int .i64 90) ∧ X.cell? ⟨gb, ob, none⟩ = some (.int .i64 88) ∧ X.cell? ⟨gb, ob + 1, none⟩ = some (.int .i64 102) ∧ X.cell? ⟨gb, ob + 2, none⟩ = some (.int .i64 91) ∧ X.cell? ⟨gb, ob + 3, none⟩ = some (.int .i64 97) ∧ X.cell? ⟨g2, o2, none⟩ = some (.slice (some ⟨ga, oa, none⟩) 3 ca) ∧ X.cell? ⟨g2, o2 + 1, none⟩ = some (.slice (some ⟨gb, ob, none⟩) 3 cb) ∧ X.cell? ⟨w4.heap.size, 0, none⟩ = some (.int .i64 19) ∧ X.cell? ⟨w4.heap.size, 1, none⟩ = some (.int .i64 68) ∧ X.cell? ⟨g7, o7, none⟩ = some (.int .i64 0) ∧ X.cell? ⟨g7, o7 + 1, none⟩ = some (.int .i64 43) ∧ X.cell? ⟨g7, o7 + 2, none⟩ = some (.int .i64 79) ∧ X.cell? ⟨g7, o7 + 3, none⟩ = some (.int .i64 105) ∧ X.cell? ⟨g7, o7 + 4, none⟩ = some (.int .i64 145) ∧ X.cell? ⟨g7, o7 + 5, none⟩ = some (.int .i64 174)) (by kernel_rfl) (HSB.out _ HAX.out) (fun hS => ?_)
  generalize w9.drew = X at *
  refine tk [0, 1, 2, 3, 4, 5, 6, 7, 8, 9, 10, 11, 12, 13, 14, 15, 16, 17, 18, 19] ?_
  repeat (refine tkH (oi := ⟨_, _, _, _, _, _⟩) (v := ?_) rfl (by kernel_rfl) (by rfl) (fun _ _ _ h => h) hS ?_ ?_; rotate_left; (· rintro W' ⟨z0, z1, z2, z3, z4, z5, z6, z7, z8, z9, z10, z11, z12, z13, z14, z15⟩; go_simp; try with_reducible rfl); try simp only [Act.put, putA, putZ, putS])
  refine tk0 ?_
  refine wpAnyH_ready (rs := [20]) (by kernel_rfl) (by simp) ?_
  refine AllReadyH.cons (o := ⟨some 51, _, _, _, _, _⟩) rfl (fun K hK => ?_) AllReadyH.nil
  · as_aux_lemma =>
    go_simp
    refine (between_any _ _ _).mono ?_
    rintro _ X0 ⟨rfl, hb0⟩
    (try go_wp2_with fail)
    have HA0 := Lib.hid (below_step HAX.out hb0)
    refine hK.out _ _ (HSB.out _ HA0.out) (fun hS => ?_)
    clear hK K
    try simp only [Act.put, putA, putZ, putS]
    clear hb0
    refine tk [21, 22, 23, 24, 25, 26, 27, 28] ?_
    repeat (refine tkH (oi := ⟨_, _, _, _, _, _⟩) (v := ?_) rfl (by kernel_rfl) (by rfl) (fun _ _ _ h => h) hS ?_ ?_; rotate_left; (· rintro W' ⟨z0, z1, z2, z3, z4, z5, z6, z7, z8, z9, z10, z11, z12, z13, z14, z15⟩; go_simp; try with_reducible rfl); try simp only [Act.put, putA, putZ, putS])
    refine tk0 ?_
    refine wpAnyH_ready (rs := [29]) (by kernel_rfl) (by simp) ?_
    refine AllReadyH.cons (o := ⟨some 60, _, _, _, _, _⟩) rfl (fun K hK => ?_) AllReadyH.nil
    · as_aux_lemma =>
      go_simp
      refine (between_any _ _ _).mono ?_
      rintro _ X1 ⟨rfl, hb1⟩
      (try go_wp2_with fail)
      have HA1 := Lib.hid (below_step HA0.out hb1)
      refine hK.out _ _ (HSB.out _ HA1.out) (fun hS => ?_)
      clear hK K
      try simp only [Act.put, putA, putZ, putS]
      clear hb1
      refine tk [30, 31, 32, 33, 34, 35, 36, 37] ?_
      repeat (refine tkH (oi := ⟨_, _, _, _, _, _⟩) (v := ?_) rfl (by kernel_rfl) (by rfl) (fun _ _ _ h => h) hS ?_ ?_; rotate_left; (· rintro W' ⟨z0, z1, z2, z3, z4, z5, z6, z7, z8, z9, z10, z11, z12, z13, z14, z15⟩; go_simp; try with_reducible rfl); try simp only [Act.put, putA, putZ, putS])
      refine tk0 ?_
      refine wpAnyH_ready (rs := [38]) (by kernel_rfl) (by simp) ?_
      refine AllReadyH.cons (o := ⟨some 69, _, _, _, _, _⟩) rfl (fun K hK => ?_) AllReadyH.nil
      · as_aux_lemma =>
        go_simp
        refine (between_any _ _ _).mono ?_
        rintro _ X2 ⟨rfl, hb2⟩
        (try go_wp2_with fail)
        have HA2 := Lib.hid (below_step HA1.out hb2)
        refine hK.out _ _ (HSB.out _ HA2.out) (fun hS => ?_)
        clear hK K
        try simp only [Act.put, putA, putZ, putS]
        clear hb2
        refine tk [39, 40, 41, 42, 43, 44, 45, 46] ?_
        repeat (refine tkH (oi := ⟨_, _, _, _, _, _⟩) (v := ?_) rfl (by kernel_rfl) (by rfl) (fun _ _ _ h => h) hS ?_ ?_; rotate_left; (· rintro W' ⟨z0, z1, z2, z3, z4, z5, z6, z7, z8, z9, z10, z11, z12, z13, z14, z15⟩; go_simp; try with_reducible rfl); try simp only [Act.put, putA, putZ, putS])
        refine tk0 ?_
        refine wpAnyH_ready (rs := [47]) (by kernel_rfl) (by simp) ?_
        refine AllReadyH.cons (o := ⟨some 78, _, _, _, _, _⟩) rfl (fun K hK => ?_) AllReadyH.nil
        · as_aux_lemma =>
          go_simp
          refine (between_any _ _ _).mono ?_
          rintro _ X3 ⟨rfl, hb3⟩
          (try go_wp2_with fail)
          have HA3 := Lib.hid (below_step HA2.out hb3)
          refine hK.out _ _ (HSB.out _ HA3.out) (fun hS => ?_)
          clear hK K
          try simp only [Act.put, putA, putZ, putS]
          clear hb3
          refine tk [48, 49, 50, 51, 52, 53, 54, 55, 56, 57, 58, 59, 60, 61, 62] ?_
          repeat (refine tkH (oi := ⟨_, _, _, _, _, _⟩) (v := ?_) rfl (by kernel_rfl) (by rfl) (fun _ _ _ h => h) hS ?_ ?_; rotate_left; (· rintro W' ⟨z0, z1, z2, z3, z4, z5, z6, z7, z8, z9, z10, z11, z12, z13, z14, z15⟩; go_simp; try with_reducible rfl); try simp only [Act.put, putA, putZ, putS])
          refine tk0 ?_
          refine wpAnyH_ready (rs := [63]) (by kernel_rfl) (by simp) ?_
          refine AllReadyH.cons (o := ⟨some 94, _, _, _, _, _⟩) rfl (fun K hK => ?_) AllReadyH.nil
          · as_aux_lemma =>
            go_simp
            refine (between_any _ _ _).mono ?_
            rintro _ X4 ⟨rfl, hb4⟩
            (try go_wp2_with fail)
            have HA4 := Lib.hid (below_step HA3.out hb4)
            refine hK.out _ _ (HSB.out _ HA4.out) (fun hS => ?_)
            clear hK K
            try simp only [Act.put, putA, putZ, putS]
            clear hb4
            refine tk [64, 65, 66, 67, 68, 69] ?_
            repeat (refine tkH (oi := ⟨_, _, _, _, _, _⟩) (v := ?_) rfl (by kernel_rfl) (by rfl) (fun _ _ _ h => h) hS ?_ ?_; rotate_left; (· rintro W' ⟨z0, z1, z2, z3, z4, z5, z6, z7, z8, z9, z10, z11, z12, z13, z14, z15⟩; go_simp; try with_reducible rfl); try simp only [Act.put, putA, putZ, putS])
            refine tk0 ?_
            refine wpAnyH_ready (rs := [70]) (by kernel_rfl) (by simp) ?_
            refine AllReadyH.cons (o := ⟨some 101, _, _, _, _, _⟩) rfl (fun K hK => ?_) AllReadyH.nil
            · as_aux_lemma =>
              go_simp
              refine (between_any _ _ _).mono ?_
              rintro _ X5 ⟨rfl, hb5⟩
              (try go_wp2_with fail)
              have HA5 := Lib.hid (below_step HA4.out hb5)
              refine hK.out _ _ (HSB.out _ HA5.out) (fun hS => ?_)
              clear hK K
              try simp only [Act.put, putA, putZ, putS]
              clear hb5
              refine tk [71, 72, 73, 74, 75, 76] ?_
              repeat (refine tkH (oi := ⟨_, _, _, _, _, _⟩) (v := ?_) rfl (by kernel_rfl) (by rfl) (fun _ _ _ h => h) hS ?_ ?_; rotate_left; (· rintro W' ⟨z0, z1, z2, z3, z4, z5, z6, z7, z8, z9, z10, z11, z12, z13, z14, z15⟩; go_simp; try with_reducible rfl); try simp only [Act.put, putA, putZ, putS])
              refine tk0 ?_
              refine wpAnyH_ready (rs := [77]) (by kernel_rfl) (by simp) ?_
              refine AllReadyH.cons (o := ⟨some 108, _, _, _, _, _⟩) rfl (fun K hK => ?_) AllReadyH.nil
              · as_aux_lemma =>
                go_simp
                refine (between_any _ _ _).mono ?_
                rintro _ X6 ⟨rfl, hb6⟩
                (try go_wp2_with fail)
                have HA6 := Lib.hid (below_step HA5.out hb6)
                refine hK.out _ _ (HSB.out _ HA6.out) (fun hS => ?_)
                clear hK K
                try simp only [Act.put, putA, putZ, putS]
                clear hb6
                refine tk [78, 79, 80, 81, 82, 83, 84, 85, 86] ?_
                repeat (refine tkH (oi := ⟨_, _, _, _, _, _⟩) (v := ?_) rfl (by kernel_rfl) (by rfl) (fun _ _ _ h => h) hS ?_ ?_; rotate_left; (· rintro W' ⟨z0, z1, z2, z3, z4, z5, z6, z7, z8, z9, z10, z11, z12, z13, z14, z15⟩; go_simp; try with_reducible rfl); try simp only [Act.put, putA, putZ, putS])
                refine tk0 ?_
                refine wpAnyH_ready (rs := [87]) (by kernel_rfl) (by simp) ?_
                refine AllReadyH.cons (o := ⟨some 118, _, _, _, _, _⟩) rfl (fun K hK => ?_) AllReadyH.nil
                · as_aux_lemma =>
                  go_simp
                  have HA7 := Lib.hid (below_step HA6.out (below_alloc X6 (.cells #[.int .i64 1, .int .i64 0] 48)))
                  have HR := Lib.hid (rs_one X6 1 0)
                  refine hK.out _ _ (HSB.out _ HA7.out) (fun hS => ?_)
                  clear hK K
                  try simp only [Act.put, putA, putZ, putS]
                  refine wpAnyH_ready (rs := [88]) (by kernel_rfl) (by simp) ?_
                  refine AllReadyH.cons (o := ⟨some 119, _, _, _, _, _⟩) rfl (fun K hK => ?_) AllReadyH.nil
                  · as_aux_lemma =>
                    go_simp
                    refine (cells_any_eq _ _ 1 1 (fun j => [((1 : Int), (0 : Int))].getD j (0, 0)) (fun j => [((1 : Int), (0 : Int))].getD j (0, 0)) _ ((HCL.out.below HA7.out).rs) HR.out (by omega) (by omega)).mono ?_
                    rintro _ X8 ⟨rfl, hb8⟩
                    (try go_wp2_with fail)
                    have HA8 := Lib.hid (below_step HA7.out hb8)
                    refine hK.out _ _ (HSB.out _ HA8.out) (fun hS => ?_)
                    clear hK K
                    try simp only [Act.put, putA, putZ, putS]
                    clear hb8
                    refine tH 89 (oi := ⟨_, _, _, _, _, _⟩) (v := ?_) rfl (by kernel_rfl) (by rfl) (fun _ _ _ h => h) hS ?_ ?_
                    rotate_left
                    · rintro W' ⟨z0, z1, z2, z3, z4, z5, z6, z7, z8, z9, z10, z11, z12, z13, z14, z15⟩; go_simp; try with_reducible rfl
                    try simp only [Act.put, putA, putZ, putS]
                    refine tH 90 (oi := ⟨_, _, _, _, _, _⟩) (v := ?_) rfl (by kernel_rfl) (by rfl) (fun _ _ _ h => h) hS ?_ ?_
                    rotate_left
                    · rintro W' ⟨z0, z1, z2, z3, z4, z5, z6, z7, z8, z9, z10, z11, z12, z13, z14, z15⟩; go_simp; try with_reducible rfl
                    try simp only [Act.put, List.setIfInBounds_toArray, List.set_cons_zero]
                    refine wpAnyH_done (by kernel_rfl) ?_ _
                    go_wp2
                    go_ret
                    exact ⟨ret_bool (by decide), HW.out.trans (Below.mono HA8.out HW.out.size)⟩
end Go.Proofs.Ytjaoflfophcibaa
