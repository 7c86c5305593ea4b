/- Walk: awake. Printed by gen_yh.py. -/
import Derived.Test.YtpnkgjkoophckaaYJ
namespace Go.Proofs.Ytpnkgjkoophckaa
open Go.RowKit Go.Shelf Go.Maps

theorem fields_range : (Try.prog.fieldsOf 100).toList.map (fun f => (f.name ≠ "_" : Bool)) = [true, true] ∧ (Try.prog.fieldsOf 100).toList.map (·.type) = [3, 3] ∧ (Try.prog.fieldsOf 100).toList.map (·.offset) = [0, 1] :=
  ⟨by kernel_rfl, by kernel_rfl, by kernel_rfl⟩
theorem eq_range (a b c d : Int) (W : World) : (Op.equalIn 10000 100 (.agg #[.int .i64 a, .int .i64 b]) (.agg #[.int .i64 c, .int .i64 d])).run Try.prog W = .ok (a == c && b == d) W := by
  have hu : Try.prog.underlying 100 = some (.struct (Try.prog.fieldsOf 100)) := by kernel_rfl
  have hp : Try.prog.stoodInHeld 100 = false := by kernel_rfl
  have hk : Try.prog.plainKey 3 = true := by kernel_rfl
  obtain ⟨h1, h2, h3⟩ := fields_range
  rw [run_equalIn_struct W 9999 100 _ _ hu hp]
  generalize (Try.prog.fieldsOf 100).toList = fs at *
  obtain ⟨f0, f1, rfl⟩ : ∃ f0 f1, fs = [f0, f1] := by
    have hl := congrArg List.length h2
    rw [List.length_map] at hl
    exact ⟨fs[0]'(by simp [hl]), fs[1]'(by simp [hl]), List.ext_getElem (by simpa using hl) (fun i hi _ => by
      have : i = 0 ∨ i = 1 := by simp at hl; omega
      rcases this with rfl | rfl <;> rfl)⟩
  simp only [List.map_cons, List.map_nil, List.cons.injEq, and_true, decide_eq_true_eq] at h1 h2 h3
  obtain ⟨n0, n1⟩ := h1
  obtain ⟨t0, t1⟩ := h2
  obtain ⟨o0, o1⟩ := h3
  have p0 := run_part_plain (w := W) hk (xs := #[.int .i64 a, .int .i64 b]) (off := 0) (v := .int .i64 a) rfl
  have p1 := run_part_plain (w := W) hk (xs := #[.int .i64 a, .int .i64 b]) (off := 1) (v := .int .i64 b) rfl
  have p2 := run_part_plain (w := W) hk (xs := #[.int .i64 c, .int .i64 d]) (off := 0) (v := .int .i64 c) rfl
  have p3 := run_part_plain (w := W) hk (xs := #[.int .i64 c, .int .i64 d]) (off := 1) (v := .int .i64 d) rfl
  have q0 := run_equalIn_int W 9998 3 .i64 .i64 a c Try.underlying3
  have q1 := run_equalIn_int W 9998 3 .i64 .i64 b d Try.underlying3
  simp only [Op.eqFields, n0, n1, t0, t1, o0, o1, ne_eq, not_false_eq_true, if_true, Sem.run_bind, Result.andThen_ok, p0, p2, q0]
  cases h0 : (a == c)
  · rfl
  · simp only [Bool.not_true, Bool.false_eq_true, if_false, Sem.run_bind, Result.andThen_ok, p1, p3, q1]
    cases h1 : (b == d) <;> rfl
theorem eql_range (a b c d : Int) (W : World) : (binOp .eql 100 (.agg #[.int .i64 a, .int .i64 b]) (.agg #[.int .i64 c, .int .i64 d])).run Try.prog W = .ok (.bool (a == c && b == d)) W := by
  rw [run_eql_struct, eq_range]; rfl
theorem eql_same (a b : Int) (W : World) : (binOp .eql 100 (.agg #[.int .i64 a, .int .i64 b]) (.agg #[.int .i64 a, .int .i64 b])).run Try.prog W = .ok (.bool true) W := by
  rw [eql_range]; simp
theorem pz_rt : ∀ j, j < 5 → (#[.int .i64 0, .int .i64 1, .int .i64 2, .int .i64 1, .int .i64 0] : Array Value)[j]? = some (.int .i64 (py.rt j)) := fun j hj => by rcases j with _ | _ | _ | _ | _ | j <;> first | rfl | exact absurd hj (by omega)
theorem pz_ct : ∀ j, j < 2 → (#[.int .i64 1, .int .i64 2] : Array Value)[j]? = some (.int .i64 (py.ct j)) := fun j hj => by rcases j with _ | _ | j <;> first | rfl | exact absurd hj (by omega)
theorem pz_pl : ∀ j, j < 4 → (#[.int .i64 0, .int .i64 1, .int .i64 2, .int .i64 3] : Array Value)[j]? = some (.int .i64 (pz j)) := fun j hj => by rcases j with _ | _ | _ | _ | j <;> first | rfl | exact absurd hj (by omega)
set_option maxRecDepth 100000 in
set_option maxHeartbeats 16000000 in
theorem awake_any (w : World) : Calls Try.prog 19 #[] w fun e w' => e = .returned (.bool true) ∧ Below w.heap.size w w' := by
  go_enter Try.func19, Try.ntmps19
  go_wp2_with fail
  refine (parish_any _).mono ?_
  rintro _ w1 ⟨⟨wa, wc, ra, rc⟩, rfl, hm, hb⟩
  have HB1 := Lib.hid hb
  have HX2 := Lib.hid (BF.made2 w1 #[.int .i64 0, .int .i64 1, .int .i64 2, .int .i64 1, .int .i64 0] #[.int .i64 1, .int .i64 2] 3 3)
  have HM2 := Lib.hid (hm.below HX2.out.fr)
  have HW2 := Lib.hid (HX2.out.ints (z := py.rt) (.head _) pz_rt 5)
  have HC2 := Lib.hid (HX2.out.ints (z := py.ct) (.tail _ (.head _)) pz_ct 2)
  have HB2 := Lib.hid (HB1.out.trans (HX2.out.fr.mono HB1.out.size))
  clear hm hb HX2
  simp only
  go_wp2_with fail
  refine (aw_bounds wa ra wc rc _ _ _ _ _ HM2.out HW2.out HC2.out).mono ?_
  rintro _ w2 ⟨rfl, hb⟩
  have HB3 := Lib.hid (below_step HB2.out hb)
  clear HB1 HB2 HM2 HW2 HC2 hb
  go_wp2_with fail
  have HX4 := Lib.hid ((BF.base w2).alloc #[.int .i64 13, .int .i64 18] 100)
  have hs4 : w2.heap.size < (w2.alloc (.cells #[.int .i64 13, .int .i64 18] 100)).heap.size := by simp
  have HW4 := Lib.hid (below_step HB3.out HX4.out.fr)
  clear HB3
  generalize w2.alloc (.cells #[.int .i64 13, .int .i64 18] 100) = w3 at *
  refine (parish_any _).mono ?_
  rintro _ w4 ⟨⟨wa, wc, ra, rc⟩, rfl, hm, hb⟩
  have HX5 := Lib.hid (HX4.out.below hb)
  have HW5 := Lib.hid (below_step HW4.out hb)
  have HX6 := Lib.hid ((BF.base w4).alloc #[.int .i64 0, .int .i64 1, .int .i64 2, .int .i64 3] 3)
  have HM6 := Lib.hid (hm.below HX6.out.fr)
  have HC6 := Lib.hid (HX6.out.ints (z := pz) (.head _) pz_pl 4)
  have HX7 := Lib.hid (HX5.out.below HX6.out.fr)
  have HW7 := Lib.hid (below_step HW5.out HX6.out.fr)
  clear hm hb HX4 HX5 HX6 HW4 HW5
  simp only
  go_wp2_with fail
  generalize w4.alloc (.cells #[.int .i64 0, .int .i64 1, .int .i64 2, .int .i64 3] 3) = w5 at *
  refine (aw_tour wa ra wc rc _ _ _ HM6.out HC6.out).mono ?_
  rintro _ w6 ⟨⟨a1, n1, c1, a2, n2, c2, rfl⟩, hb⟩
  have HX8 := Lib.hid (HX7.out.below hb)
  have HW8 := Lib.hid (below_step HW7.out hb)
  clear hb HX7 HW7 HM6 HC6 hs4
  go_wp2_with fail
  have HX9 := Lib.hid (HX8.out.below (below_alloc w6 (.cells #[.slice a1 n1 c1, .slice a2 n2 c2] 30)))
  have HW9 := Lib.hid (below_step HW8.out (below_alloc w6 (.cells #[.slice a1 n1 c1, .slice a2 n2 c2] 30)))
  clear HX8 HW8
  generalize w6.alloc (.cells #[.slice a1 n1 c1, .slice a2 n2 c2] 30) = w7 at *
  refine (parish_any _).mono ?_
  rintro _ w8 ⟨⟨wa, wc, ra, rc⟩, rfl, hm, hb⟩
  have HX10 := Lib.hid (HX9.out.below hb)
  have HW10 := Lib.hid (below_step HW9.out hb)
  have HM10 := Lib.hid hm
  clear HX9 HW9 hm hb
  simp only
  go_wp2_with fail
  refine (aw_fewest wa ra wc rc _ HM10.out).mono ?_
  rintro _ w9 ⟨rfl, hb⟩
  have HX11 := Lib.hid (HX10.out.below hb)
  have HW11 := Lib.hid (below_step HW10.out hb)
  clear HX10 HW10 HM10 hb
  go_wp2_with fail
  refine (parish_any _).mono ?_
  rintro _ w10 ⟨⟨wa, wc, ra, rc⟩, rfl, hm, hb⟩
  have HX12 := Lib.hid (HX11.out.below hb)
  have HW12 := Lib.hid (below_step HW11.out hb)
  have HM12 := Lib.hid hm
  clear HX11 HW11 hm hb
  simp only
  go_wp2_with fail
  refine (aw_least wa ra wc rc _ HM12.out).mono ?_
  rintro _ w11 ⟨rfl, hb⟩
  have HX13 := Lib.hid (HX12.out.below hb)
  have HW13 := Lib.hid (below_step HW12.out hb)
  clear HX12 HW12 HM12 hb
  go_wp2_with fail
  have HE := Lib.hid (fun W => eql_same 13 18 W)
  have HAX : Hid (BF w2 w11.drew [(w2.heap.size, #[.int .i64 13, .int .i64 18], 100)]) := HX13.out.below (Below.refl _ _).drew
  have HWX : Hid (Below w.heap.size w w11.drew) := HW13.out.drew
  clear HX13 HW13
  obtain ⟨RB, hRB⟩ : ∃ RB, w2.heap.size = RB := ⟨_, rfl⟩
  rw [hRB] at HAX ⊢
  clear hRB
  refine wp_region_Z (S := fun X => X.cell? ⟨RB, 0, none⟩ = some (.int .i64 13) ∧ X.cell? ⟨RB, 1, none⟩ = some (.int .i64 18)) (by kernel_rfl) (⟨HAX.out.cell (.head _) 0, HAX.out.cell (.head _) 1⟩) (fun hS => ?_)
  generalize w11.drew = X at *
  refine tk [0, 1, 2, 3] ?_
  repeat (refine tkZ (oi := ⟨_, _, _, _, _, _⟩) (v := ?_) rfl (by kernel_rfl) (by rfl) (fun _ _ _ h => h) hS ?_ ?_; rotate_left; (· rintro W' ⟨z0, z1⟩; go_simp; try with_reducible rfl); try simp only [Act.put, putA, putZ, putS])
  refine tk0 ?_
  refine wpAnyZ_next (rs := [4]) (by kernel_rfl) (by simp) ?_
  refine NextZ.cons (o := ⟨some 39, _, _, _, _, _⟩) rfl (fun K hK => ?_) NextZ.nil
  go_simp
  refine (between_any _ _ _).mono ?_
  rintro _ X0 ⟨rfl, hb0⟩
  (try go_wp2_with fail)
  have HA0 := Lib.hid (HAX.out.below hb0)
  have HW0 := Lib.hid (below_step HWX.out hb0)
  refine hK.out _ _ (⟨HA0.out.cell (.head _) 0, HA0.out.cell (.head _) 1⟩) (fun hS => ?_)
  clear hK K
  try simp only [Act.put, putA, putZ, putS]
  clear hb0
  refine tk [5, 6, 7, 8, 9, 10, 11, 12, 13, 14, 15, 16, 17, 18, 19, 20, 21, 22, 23, 24, 25, 26, 27, 28, 29, 30, 31] ?_
  repeat (refine tkZ (oi := ⟨_, _, _, _, _, _⟩) (v := ?_) rfl (by kernel_rfl) (by rfl) (fun _ _ _ h => h) hS ?_ ?_; rotate_left; (· rintro W' ⟨z0, z1⟩; go_simp; try with_reducible rfl); try simp only [Act.put, putA, putZ, putS])
  refine tk0 ?_
  refine wpAnyZ_done (by kernel_rfl) ?_ _
  go_wp2
  go_ret
  exact ⟨rfl, HW0.out⟩
end Go.Proofs.Ytpnkgjkoophckaa
