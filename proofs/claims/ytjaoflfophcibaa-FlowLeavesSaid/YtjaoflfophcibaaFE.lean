/- CheckTable. -/
import Derived.Test.YtjaoflfophcibaaPA
namespace Go.Proofs.Ytjaoflfophcibaa
open Go.RowKit Go.Shelf

theorem fault_eq (t : Tb) : t.fault = if 4 < t.nc ∨ 4 < t.ng then 3 else if (decide (2 ≤ t.ng) && allB (rowB t.ng t.rl t.ct) t.nc && decide ((t.nb : Int) = t.nc - 1) && decide (t.nr = t.ng + 1) && decide (t.nn = t.ng) && allB (fun j => isCountR (t.b j)) t.nb && allB (fun j => isRateR (t.r j)) t.nr && allB (fun j => isNetR (t.n j)) t.nn) = true then 0 else 1 := rfl
set_option maxRecDepth 100000 in
set_option maxHeartbeats 4000000 in
theorem check_any (v : Value) (t : Tb) (w : World) (h : TbAt w v t) (hs : t.small) :
    Calls Try.prog 47 #[v] w fun e w' => e = .returned (.int .i64 t.fault) ∧ Below w.heap.size w w' := by
  have HG := Lib.hid (fun W hW => groups_any v t W (h.below hW) hs)
  have hg := hs.ng
  obtain ⟨hs1, hs2, hs3, hs4, hs5⟩ := id hs
  have HFA := Lib.hid (fault_eq t)
  obtain ⟨ca, cc, ba, bc, ra, rc, na, nc, hv, h1, h2, h3, h4⟩ := id h
  have HR := Lib.hid (fun W hW => all_rows t.nc (.slice ca t.nc cc) v t t.rl t.ct W (h.below hW) hs hs2 hs1 (h1.below hW))
  have HC := Lib.hid (fun W hW => all_isCount t.nb (.slice ba t.nb bc) t.b W hs3 (h2.below hW))
  have HT := Lib.hid (fun W hW => all_isRate t.nr (.slice ra t.nr rc) t.r W hs4 (h3.below hW))
  have HN := Lib.hid (fun W hW => all_isNet t.nn (.slice na t.nn nc) t.n W hs5 (h4.below hW))
  clear h h1 h2 h3 h4 hs hs2
  subst hv
  generalize allB (rowB t.ng t.rl t.ct) t.nc = r1 at *
  generalize allB (fun j => isCountR (t.b j)) t.nb = r2 at *
  generalize allB (fun j => isRateR (t.r j)) t.nr = r3 at *
  generalize allB (fun j => isNetR (t.n j)) t.nn = r4 at *
  generalize t.fault = ft at *
  generalize t.ng = ng at *
  generalize t.nc = c at *
  generalize t.nb = b at *
  generalize t.nr = r at *
  generalize t.nn = n at *
  have HB0 : Hid (Below w.heap.size w (w.alloc (.cells #[.slice ca c cc, .slice ba b bc, .slice ra r rc, .slice na n nc] 36))) := below_alloc _ _
  have HK0 : Hid ((w.alloc (.cells #[.slice ca c cc, .slice ba b bc, .slice ra r rc, .slice na n nc] 36)).heap[w.heap.size]? = some (.cells #[.slice ca c cc, .slice ba b bc, .slice ra r rc, .slice na n nc] 36 (0, 0))) := heap_alloc_new _ _
  have HX0 : Hid (Below (w.alloc (.cells #[.slice ca c cc, .slice ba b bc, .slice ra r rc, .slice na n nc] 36)).heap.size (w.alloc (.cells #[.slice ca c cc, .slice ba b bc, .slice ra r rc, .slice na n nc] 36)) (w.alloc (.cells #[.slice ca c cc, .slice ba b bc, .slice ra r rc, .slice na n nc] 36))) := Below.refl _ _
  have HCE : Hid (∀ X : World, Below (w.alloc (.cells #[.slice ca c cc, .slice ba b bc, .slice ra r rc, .slice na n nc] 36)).heap.size (w.alloc (.cells #[.slice ca c cc, .slice ba b bc, .slice ra r rc, .slice na n nc] 36)) X → X.cell? ⟨w.heap.size, 0, none⟩ = some (.slice ca c cc) ∧ X.cell? ⟨w.heap.size, 1, none⟩ = some (.slice ba b bc) ∧ X.cell? ⟨w.heap.size, 2, none⟩ = some (.slice ra r rc) ∧ X.cell? ⟨w.heap.size, 3, none⟩ = some (.slice na n nc)) := fun X hX => cells4 ((hX.block _ (by simp)).trans HK0.out)
  by_cases k1 : 4 < c
  · go_enter Try.func47, Try.ntmps47
    go_wp2_with (first | (go_at_call 57; refine (HG.out _ HB0.out).mono ?_; rintro _ x1 ⟨rfl, hb⟩; have HB1 := Lib.hid (below_step HB0.out hb); have HX1 := Lib.hid (below_step HX0.out hb); obtain ⟨d0, d1, d2, d3⟩ := HCE.out _ HX1.out; clear hb))
    go_ret
    exact ⟨ret_int (by rw [HFA.out]; rw [if_pos (.inl k1)]), HB1.out⟩
  by_cases k2 : 4 < ng
  · go_enter Try.func47, Try.ntmps47
    go_wp2_with (first | (go_at_call 57; refine (HG.out _ HB0.out).mono ?_; rintro _ x1 ⟨rfl, hb⟩; have HB1 := Lib.hid (below_step HB0.out hb); have HX1 := Lib.hid (below_step HX0.out hb); obtain ⟨d0, d1, d2, d3⟩ := HCE.out _ HX1.out; clear hb))
    go_ret
    exact ⟨ret_int (by rw [HFA.out]; rw [if_pos (.inr k2)]), HB1.out⟩
  by_cases k3 : ng < 2
  · go_enter Try.func47, Try.ntmps47
    go_wp2_with (first | (go_at_call 57; refine (HG.out _ HB0.out).mono ?_; rintro _ x1 ⟨rfl, hb⟩; have HB1 := Lib.hid (below_step HB0.out hb); have HX1 := Lib.hid (below_step HX0.out hb); obtain ⟨d0, d1, d2, d3⟩ := HCE.out _ HX1.out; clear hb))
    go_ret
    exact ⟨ret_int (by rw [HFA.out]; rw [if_neg (by omega), if_neg (by simp only [Bool.and_eq_true, decide_eq_true_eq]; omega)]), HB1.out⟩
  cases r1
  · go_enter Try.func47, Try.ntmps47
    go_wp2_with (first | (go_at_call 57; refine (HG.out _ HB0.out).mono ?_; rintro _ x1 ⟨rfl, hb⟩; have HB1 := Lib.hid (below_step HB0.out hb); have HX1 := Lib.hid (below_step HX0.out hb); obtain ⟨d0, d1, d2, d3⟩ := HCE.out _ HX1.out; clear hb) | (go_at_call 81; refine (HR.out _ HB1.out).mono ?_; rintro _ x2 ⟨rfl, hb⟩; have HB2 := Lib.hid (below_step HB1.out hb); have HX2 := Lib.hid (below_step HX1.out hb); obtain ⟨d0, d1, d2, d3⟩ := HCE.out _ HX2.out; clear hb))
    go_ret
    exact ⟨ret_int (by rw [HFA.out]; rw [if_neg (by omega), if_neg (by simp)]), HB2.out⟩
  by_cases k5 : ¬ (b : Int) = c - 1
  · go_enter Try.func47, Try.ntmps47
    go_wp2_with (first | (go_at_call 57; refine (HG.out _ HB0.out).mono ?_; rintro _ x1 ⟨rfl, hb⟩; have HB1 := Lib.hid (below_step HB0.out hb); have HX1 := Lib.hid (below_step HX0.out hb); obtain ⟨d0, d1, d2, d3⟩ := HCE.out _ HX1.out; clear hb) | (go_at_call 81; refine (HR.out _ HB1.out).mono ?_; rintro _ x2 ⟨rfl, hb⟩; have HB2 := Lib.hid (below_step HB1.out hb); have HX2 := Lib.hid (below_step HX1.out hb); obtain ⟨d0, d1, d2, d3⟩ := HCE.out _ HX2.out; clear hb))
    go_ret
    exact ⟨ret_int (by rw [HFA.out]; rw [if_neg (by omega), if_neg (by simp only [Bool.and_eq_true, decide_eq_true_eq]; omega)]), HB2.out⟩
  by_cases k6 : ¬ r = ng + 1
  · go_enter Try.func47, Try.ntmps47
    go_wp2_with (first | (go_at_call 57; refine (HG.out _ HB0.out).mono ?_; rintro _ x1 ⟨rfl, hb⟩; have HB1 := Lib.hid (below_step HB0.out hb); have HX1 := Lib.hid (below_step HX0.out hb); obtain ⟨d0, d1, d2, d3⟩ := HCE.out _ HX1.out; clear hb) | (go_at_call 81; refine (HR.out _ HB1.out).mono ?_; rintro _ x2 ⟨rfl, hb⟩; have HB2 := Lib.hid (below_step HB1.out hb); have HX2 := Lib.hid (below_step HX1.out hb); obtain ⟨d0, d1, d2, d3⟩ := HCE.out _ HX2.out; clear hb))
    go_ret
    exact ⟨ret_int (by rw [HFA.out]; rw [if_neg (by omega), if_neg (by simp only [Bool.and_eq_true, decide_eq_true_eq]; omega)]), HB2.out⟩
  by_cases k7 : ¬ n = ng
  · go_enter Try.func47, Try.ntmps47
    go_wp2_with (first | (go_at_call 57; refine (HG.out _ HB0.out).mono ?_; rintro _ x1 ⟨rfl, hb⟩; have HB1 := Lib.hid (below_step HB0.out hb); have HX1 := Lib.hid (below_step HX0.out hb); obtain ⟨d0, d1, d2, d3⟩ := HCE.out _ HX1.out; clear hb) | (go_at_call 81; refine (HR.out _ HB1.out).mono ?_; rintro _ x2 ⟨rfl, hb⟩; have HB2 := Lib.hid (below_step HB1.out hb); have HX2 := Lib.hid (below_step HX1.out hb); obtain ⟨d0, d1, d2, d3⟩ := HCE.out _ HX2.out; clear hb))
    go_ret
    exact ⟨ret_int (by rw [HFA.out]; rw [if_neg (by omega), if_neg (by simp only [Bool.and_eq_true, decide_eq_true_eq]; omega)]), HB2.out⟩
  cases r2
  · go_enter Try.func47, Try.ntmps47
    go_wp2_with (first | (go_at_call 57; refine (HG.out _ HB0.out).mono ?_; rintro _ x1 ⟨rfl, hb⟩; have HB1 := Lib.hid (below_step HB0.out hb); have HX1 := Lib.hid (below_step HX0.out hb); obtain ⟨d0, d1, d2, d3⟩ := HCE.out _ HX1.out; clear hb) | (go_at_call 81; refine (HR.out _ HB1.out).mono ?_; rintro _ x2 ⟨rfl, hb⟩; have HB2 := Lib.hid (below_step HB1.out hb); have HX2 := Lib.hid (below_step HX1.out hb); obtain ⟨d0, d1, d2, d3⟩ := HCE.out _ HX2.out; clear hb) | (go_at_call 82; refine (HC.out _ HB2.out).mono ?_; rintro _ x3 ⟨rfl, hb⟩; have HB3 := Lib.hid (below_step HB2.out hb); have HX3 := Lib.hid (below_step HX2.out hb); obtain ⟨d0, d1, d2, d3⟩ := HCE.out _ HX3.out; clear hb))
    go_ret
    exact ⟨ret_int (by rw [HFA.out]; rw [if_neg (by omega), if_neg (by simp)]), HB3.out⟩
  cases r3
  · go_enter Try.func47, Try.ntmps47
    go_wp2_with (first | (go_at_call 57; refine (HG.out _ HB0.out).mono ?_; rintro _ x1 ⟨rfl, hb⟩; have HB1 := Lib.hid (below_step HB0.out hb); have HX1 := Lib.hid (below_step HX0.out hb); obtain ⟨d0, d1, d2, d3⟩ := HCE.out _ HX1.out; clear hb) | (go_at_call 81; refine (HR.out _ HB1.out).mono ?_; rintro _ x2 ⟨rfl, hb⟩; have HB2 := Lib.hid (below_step HB1.out hb); have HX2 := Lib.hid (below_step HX1.out hb); obtain ⟨d0, d1, d2, d3⟩ := HCE.out _ HX2.out; clear hb) | (go_at_call 82; refine (HC.out _ HB2.out).mono ?_; rintro _ x3 ⟨rfl, hb⟩; have HB3 := Lib.hid (below_step HB2.out hb); have HX3 := Lib.hid (below_step HX2.out hb); obtain ⟨d0, d1, d2, d3⟩ := HCE.out _ HX3.out; clear hb) | (go_at_call 82; refine (HT.out _ HB3.out).mono ?_; rintro _ x4 ⟨rfl, hb⟩; have HB4 := Lib.hid (below_step HB3.out hb); have HX4 := Lib.hid (below_step HX3.out hb); obtain ⟨d0, d1, d2, d3⟩ := HCE.out _ HX4.out; clear hb))
    go_ret
    exact ⟨ret_int (by rw [HFA.out]; rw [if_neg (by omega), if_neg (by simp)]), HB4.out⟩
  cases r4
  · go_enter Try.func47, Try.ntmps47
    go_wp2_with (first | (go_at_call 57; refine (HG.out _ HB0.out).mono ?_; rintro _ x1 ⟨rfl, hb⟩; have HB1 := Lib.hid (below_step HB0.out hb); have HX1 := Lib.hid (below_step HX0.out hb); obtain ⟨d0, d1, d2, d3⟩ := HCE.out _ HX1.out; clear hb) | (go_at_call 81; refine (HR.out _ HB1.out).mono ?_; rintro _ x2 ⟨rfl, hb⟩; have HB2 := Lib.hid (below_step HB1.out hb); have HX2 := Lib.hid (below_step HX1.out hb); obtain ⟨d0, d1, d2, d3⟩ := HCE.out _ HX2.out; clear hb) | (go_at_call 82; refine (HC.out _ HB2.out).mono ?_; rintro _ x3 ⟨rfl, hb⟩; have HB3 := Lib.hid (below_step HB2.out hb); have HX3 := Lib.hid (below_step HX2.out hb); obtain ⟨d0, d1, d2, d3⟩ := HCE.out _ HX3.out; clear hb) | (go_at_call 82; refine (HT.out _ HB3.out).mono ?_; rintro _ x4 ⟨rfl, hb⟩; have HB4 := Lib.hid (below_step HB3.out hb); have HX4 := Lib.hid (below_step HX3.out hb); obtain ⟨d0, d1, d2, d3⟩ := HCE.out _ HX4.out; clear hb) | (go_at_call 82; refine (HN.out _ HB4.out).mono ?_; rintro _ x5 ⟨rfl, hb⟩; have HB5 := Lib.hid (below_step HB4.out hb); have HX5 := Lib.hid (below_step HX4.out hb); obtain ⟨d0, d1, d2, d3⟩ := HCE.out _ HX5.out; clear hb))
    go_ret
    exact ⟨ret_int (by rw [HFA.out]; rw [if_neg (by omega), if_neg (by simp)]), HB5.out⟩
  go_enter Try.func47, Try.ntmps47
  go_wp2_with (first | (go_at_call 57; refine (HG.out _ HB0.out).mono ?_; rintro _ x1 ⟨rfl, hb⟩; have HB1 := Lib.hid (below_step HB0.out hb); have HX1 := Lib.hid (below_step HX0.out hb); obtain ⟨d0, d1, d2, d3⟩ := HCE.out _ HX1.out; clear hb) | (go_at_call 81; refine (HR.out _ HB1.out).mono ?_; rintro _ x2 ⟨rfl, hb⟩; have HB2 := Lib.hid (below_step HB1.out hb); have HX2 := Lib.hid (below_step HX1.out hb); obtain ⟨d0, d1, d2, d3⟩ := HCE.out _ HX2.out; clear hb) | (go_at_call 82; refine (HC.out _ HB2.out).mono ?_; rintro _ x3 ⟨rfl, hb⟩; have HB3 := Lib.hid (below_step HB2.out hb); have HX3 := Lib.hid (below_step HX2.out hb); obtain ⟨d0, d1, d2, d3⟩ := HCE.out _ HX3.out; clear hb) | (go_at_call 82; refine (HT.out _ HB3.out).mono ?_; rintro _ x4 ⟨rfl, hb⟩; have HB4 := Lib.hid (below_step HB3.out hb); have HX4 := Lib.hid (below_step HX3.out hb); obtain ⟨d0, d1, d2, d3⟩ := HCE.out _ HX4.out; clear hb) | (go_at_call 82; refine (HN.out _ HB4.out).mono ?_; rintro _ x5 ⟨rfl, hb⟩; have HB5 := Lib.hid (below_step HB4.out hb); have HX5 := Lib.hid (below_step HX4.out hb); obtain ⟨d0, d1, d2, d3⟩ := HCE.out _ HX5.out; clear hb))
  go_ret
  exact ⟨ret_int (by rw [HFA.out]; rw [if_neg (by omega), if_pos (by simp; omega)]), HB5.out⟩
end Go.Proofs.Ytjaoflfophcibaa
