/- after: one step. Printed by gen_fw.py. -/
import Derived.Test.YtjaoflfophcibaaPD
import Derived.Laws.StructEq
import Derived.ChangeKeysEq
import Derived.Deep.LoopGhost
import Derived.Deep.CutBlock
namespace Go.Proofs.Ytjaoflfophcibaa
open Go.RowKit Go.Shelf

theorem AF.made3 {w : World} {B bm n0 : Nat} {x : WV} {t : Tb} {out : Nat → Nat → Bool} (h0 : St w B bm n0 x t out) (c1 c2 c3 : Array Value) (t1 t2 t3 : TypeId) :
    AF w (((w.alloc (.cells c1 t1)).alloc (.cells c2 t2)).alloc (.cells c3 t3)) B bm n0 x t out [(w.heap.size, c1, t1), (w.heap.size + 1, c2, t2), (w.heap.size + 2, c3, t3)] := by
  obtain ⟨hz, hb, k0, k1, k2⟩ := alloc3 w (.cells c1 t1) (.cells c2 t2) (.cells c3 t3)
  refine ⟨h0.below hb, Fr.below hb _, fun b cs T hm => ?_⟩
  simp only [List.mem_cons, Prod.mk.injEq, List.not_mem_nil, or_false] at hm
  rcases hm with ⟨rfl, rfl, rfl⟩ | ⟨rfl, rfl, rfl⟩ | ⟨rfl, rfl, rfl⟩
  · exact ⟨Nat.le_refl _, k0⟩
  · exact ⟨by omega, k1⟩
  · exact ⟨by omega, k2⟩
theorem fields_cell : (Try.prog.fieldsOf 39).toList.map (fun f => (f.name ≠ "_" : Bool)) = [true, true] ∧ (Try.prog.fieldsOf 39).toList.map (·.type) = [3, 3] ∧ (Try.prog.fieldsOf 39).toList.map (·.offset) = [0, 1] :=
  ⟨by kernel_rfl, by kernel_rfl, by kernel_rfl⟩
theorem eq_cell (a b c d : Int) (W : World) : (Op.equalIn 10000 39 (.agg #[.int .i64 a, .int .i64 b]) (.agg #[.int .i64 c, .int .i64 d])).run Try.prog W = .ok (a == c && b == d) W := by
  have hu : Try.prog.underlying 39 = some (.struct (Try.prog.fieldsOf 39)) := by kernel_rfl
  have hp : Try.prog.stoodInHeld 39 = false := by kernel_rfl
  have hk : Try.prog.plainKey 3 = true := by kernel_rfl
  obtain ⟨h1, h2, h3⟩ := fields_cell
  rw [run_equalIn_struct W 9999 39 _ _ hu hp]
  generalize (Try.prog.fieldsOf 39).toList = fs at *
  obtain ⟨f0, f1, rfl⟩ : ∃ f0 f1, fs = [f0, f1] := by
    have hl := congrArg List.length h2
    rw [List.length_map] at hl
    exact ⟨fs[0]'(by simp [hl]), fs[1]'(by simp [hl]), List.ext_getElem (by simpa using hl) (fun i hi _ => by
      have : i = 0 ∨ i = 1 := by simp at hl; omega
      rcases this with rfl | rfl <;> rfl)⟩
  simp only [List.map_cons, List.map_nil, List.cons.injEq, and_true, decide_eq_true_eq] at h1 h2 h3
  obtain ⟨n0, n1⟩ := h1
  obtain ⟨t0, t1⟩ := h2
  obtain ⟨o0, o1⟩ := h3
  have p0 := run_part_plain (w := W) hk (xs := #[.int .i64 a, .int .i64 b]) (off := 0) (v := .int .i64 a) rfl
  have p1 := run_part_plain (w := W) hk (xs := #[.int .i64 a, .int .i64 b]) (off := 1) (v := .int .i64 b) rfl
  have p2 := run_part_plain (w := W) hk (xs := #[.int .i64 c, .int .i64 d]) (off := 0) (v := .int .i64 c) rfl
  have p3 := run_part_plain (w := W) hk (xs := #[.int .i64 c, .int .i64 d]) (off := 1) (v := .int .i64 d) rfl
  have q0 := run_equalIn_int W 9998 3 .i64 .i64 a c Try.underlying3
  have q1 := run_equalIn_int W 9998 3 .i64 .i64 b d Try.underlying3
  simp only [Op.eqFields, n0, n1, t0, t1, o0, o1, ne_eq, not_false_eq_true, if_true, Sem.run_bind, Result.andThen_ok, p0, p2, q0]
  cases h0 : (a == c)
  · rfl
  · simp only [Bool.not_true, Bool.false_eq_true, if_false, Sem.run_bind, Result.andThen_ok, p1, p3, q1]
    cases h1 : (b == d) <;> rfl
theorem eql_cell (a b c d : Int) (W : World) : (binOp .eql 39 (.agg #[.int .i64 a, .int .i64 b]) (.agg #[.int .i64 c, .int .i64 d])).run Try.prog W = .ok (.bool (a == c && b == d)) W := by
  rw [run_eql_struct, eq_cell]; rfl
theorem neq_cell (a b c d : Int) (W : World) : (binOp .neq 39 (.agg #[.int .i64 a, .int .i64 b]) (.agg #[.int .i64 c, .int .i64 d])).run Try.prog W = .ok (.bool (!(a == c && b == d))) W := by
  rw [run_neq_struct, eq_cell]; rfl
attribute [local go_sem ↓] Go.wp_at_zero Go.wp_at_succ
set_option maxRecDepth 100000 in
set_option maxHeartbeats 4000000 in
theorem after_step {t : Tb} (hG : Gd t) (B bm n M : Nat) (x : WV) (out : Nat → Nat → Bool) (c c1 g nx : Nat) (s0 s1 u0 u1 a0 a1 : Int) (h10 : c1 = c + 1) (hc : c1 < t.nc) (hg : g < t.ng) (hnx : nx = t.nx g) (hs : 0 ≤ s0 ∧ s0 ≤ s1 ∧ s1 ≤ 1048576)
    (hne : ∀ q, q < t.ng → emptyR (t.up out c q) = false) (hu : t.up out c1 nx = (u0, u1)) (ha : 0 ≤ a0 ∧ a0 ≤ 1048577 ∧ -1 ≤ a1 ∧ a1 ≤ 1048576) (hn : n + 85 + M + 170 ≤ 90000)
    (hrec : ∀ W, St W B bm (n + 85) x t out → Calls Try.prog 60 #[.pointer (some ⟨B, 0, none⟩), .agg #[.int .i64 c1, .int .i64 nx], .agg #[.int .i64 u0, .int .i64 u1]] W (GivesR W B bm (n + 85 + M) x t out (a0, a1))) (w : World) (hst : St w B bm n x t out) :
    Calls Try.prog 60 #[.pointer (some ⟨B, 0, none⟩), .agg #[.int .i64 c, .int .i64 g], .agg #[.int .i64 s0, .int .i64 s1]] w (GivesR w B bm (n + 85 + M + 170) x t out (trimR (t.r (g + 1)) (subR t g nx (t.up out c) (minusR (a0, a1) (t.n nx)) (srcG t nx).length) (s0, s1))) := by
  have hB : B < w.heap.size := (Array.getElem?_eq_some_iff.1 hst.wb).1
  have hbm : bm < w.heap.size := hst.cm.lt
  have HSW := Lib.hid hst
  have HG := Lib.hid hG
  have hng2 := hG.ng2; have hng4 := hG.ng4; have hnc4 := hG.nc4
  obtain ⟨hs0, hs01, hs1⟩ := hs
  obtain ⟨ha0, ha01, ha10, ha11⟩ := ha
  have hnxl : nx < t.ng := by rw [hnx]; unfold Tb.nx Tb.last; omega
  have hse : emptyR (s0, s1) = false := by simp [emptyR]; omega
  have hmin : min ((g : Int) + 1) ((t.ng : Int) - 1) = (nx : Int) := by rw [hnx]; unfold Tb.nx Tb.last; omega
  have HUP : Hid (∀ W, St W B bm n x t out → Calls Try.prog 61 #[.pointer (some ⟨B, 0, none⟩), .agg #[.int .i64 c1, .int .i64 nx]] W (GivesR W B bm (n + 85) x t out (u0, u1))) := fun W hW => by
    have := up_all hG B bm x out c1 hc nx hnxl n (by omega) W hW
    rw [hu] at this; exact this
  have HREC := Lib.hid hrec
  have HCB : Hid (∀ (X : World) (m : Nat), St X B bm m x t out → X.cell? ⟨B, 0, none⟩ = some (.slice x.ca t.nc x.cc)) := fun X m h => h.wb.cells.1
  -- net
  obtain ⟨nb, no, ena, hnbl, -, -⟩ := hst.wl.2.2.2.at (k := nx) (by have := hG.nn; omega)
  obtain ⟨na, hna⟩ : ∃ v, v = (t.n nx).1 := ⟨_, rfl⟩
  obtain ⟨nz, hnz⟩ : ∃ v, v = (t.n nx).2 := ⟨_, rfl⟩
  have HNZ : Hid (t.n nx = (na, nz)) := by unfold Hid; rw [hna, hnz]
  obtain ⟨hna0, hna1, hnz0, hnz1⟩ : -50 ≤ na ∧ na ≤ 50 ∧ -50 ≤ nz ∧ nz ≤ 50 := by have := inside_bd (hG.n nx (by have := hG.nn; omega)); omega
  have HCN : Hid (∀ (X : World) (m : Nat), St X B bm m x t out → X.cell? ⟨B, 3, none⟩ = some (.slice (some ⟨nb, no, none⟩) t.nn x.nc) ∧ X.cell? ⟨nb, no + nx * 2, none⟩ = some (.int .i64 na) ∧ X.cell? ⟨nb, no + nx * 2 + 1, none⟩ = some (.int .i64 nz)) := fun X m h => by
    obtain ⟨_, _, _, k3, _⟩ := h.wb.cells
    obtain ⟨nb', no', e3, _, k5, k6⟩ := h.wl.2.2.2.at (k := nx) (by have := hG.nn; omega)
    rw [ena] at e3
    cases e3
    rw [hna, hnz]
    unfold WV.nv at k3
    rw [ena] at k3
    exact ⟨k3, k5, k6⟩
  -- the rate
  obtain ⟨rb, ro, era, hrbl, -, -⟩ := hst.wl.2.2.1.at (k := g + 1) (by have := hG.nr; omega)
  obtain ⟨ra, hra⟩ : ∃ v, v = (t.r (g + 1)).1 := ⟨_, rfl⟩
  obtain ⟨rz, hrz⟩ : ∃ v, v = (t.r (g + 1)).2 := ⟨_, rfl⟩
  have HRR : Hid (t.r (g + 1) = (ra, rz)) := by unfold Hid; rw [hra, hrz]
  obtain ⟨hra0, hra1, hrz0, hrz1⟩ : 0 ≤ ra ∧ ra ≤ 1000 ∧ 0 ≤ rz ∧ rz ≤ 1000 := by have := inside_bd (hG.r (g + 1) (by have := hG.nr; omega)); omega
  have HCR : Hid (∀ (X : World) (m : Nat), St X B bm m x t out → X.cell? ⟨B, 2, none⟩ = some (.slice (some ⟨rb, ro, none⟩) t.nr x.rc) ∧ X.cell? ⟨rb, ro + (g + 1) * 2, none⟩ = some (.int .i64 ra) ∧ X.cell? ⟨rb, ro + (g + 1) * 2 + 1, none⟩ = some (.int .i64 rz)) := fun X m h => by
    obtain ⟨_, _, k3, _, _⟩ := h.wb.cells
    obtain ⟨rb', ro', e3, _, k5, k6⟩ := h.wl.2.2.1.at (k := g + 1) (by have := hG.nr; omega)
    rw [era] at e3
    cases e3
    rw [hra, hrz]
    unfold WV.rv at k3
    rw [era] at k3
    exact ⟨k3, k5, k6⟩
  have hgr : (g : Int) + 1 < (t.nr : Int) := by have := hG.nr; omega
  have hgr0 : (0 : Int) ≤ (g : Int) + 1 := by omega
  have hgtn : ((g : Int) + 1).toNat = g + 1 := by omega
  have HMI : Hid (∃ p0 p1, Hid (minusR (a0, a1) (t.n nx) = (p0, p1) ∧ p0 = a0 - nz ∧ p1 = a1 - na)) := ⟨_, _, by rw [HNZ.out]; rfl, rfl, rfl⟩
  have hnxn : nx < t.nn := by have := hG.nn; omega
  have wc1 : IntKind.i64.wrap ((c : Int) + 1) = (c1 : Int) := by rw [IntWalk.i64_in _ (by omega)]; omega
  have wg1 : IntKind.i64.wrap ((g : Int) + 1) = (g : Int) + 1 := IntWalk.i64_in _ (by omega)
  have wnc : IntKind.i64.wrap ((t.nc : Int) - 1) = (t.nc : Int) - 1 := IntWalk.i64_in _ (by omega)
  have hcl : ((c : Int) == (t.nc : Int) - 1) = false := by simp; omega
  have hcc : c < c1 := by omega
  have hcc2 : c1 ≤ c + 1 := by omega
  have HAM := Lib.hid (AF.made3 hst #[.int .i64 c, .int .i64 g] #[.int .i64 s0, .int .i64 s1] #[.int .i64 0, .int .i64 0] 39 29 29)
  have HNX := Lib.hid hnx; have HNE := Lib.hid hne
  -- the sources
  obtain ⟨l, hl⟩ : ∃ l, l = srcL t c1 nx := ⟨_, rfl⟩
  have HLN := Lib.hid (src_len h10 hl)
  have hl2 : l.length ≤ 2 := by rw [HLN.out]; exact srcG_le t nx
  have HAT : Hid (∀ k (hk : k < l.length), ∃ (q : Nat) (hq : k < (srcG t nx).length), (srcG t nx)[k] = q ∧ l[k] = ((c : Int), (q : Int))) := fun k hk => src_at h10 hl hk
  have HSO : Hid (∀ X m, St X B bm m x t out → Calls Try.prog 95 #[.pointer (some ⟨B, 0, none⟩), .agg #[.int .i64 c1, .int .i64 nx]] X fun e w' => ∃ v, e = .returned v ∧ w'.ownsRow 0 39 2 v l.length (flat l) ∧ Below X.heap.size X w') := fun X m h => by rw [hl]; exact sources_any B bm x t out c1 nx X h.wb h.wl hG.small (by omega) (by omega) (by omega)
  have HBD : Hid (∀ k, k ≤ l.length → -2000000 - 2000000 * k ≤ (subR t g nx (t.up out c) (minusR (a0, a1) (t.n nx)) k).1 ∧ (subR t g nx (t.up out c) (minusR (a0, a1) (t.n nx)) k).1 ≤ 2000000 + 2000000 * k ∧ -2000000 - 2000000 * k ≤ (subR t g nx (t.up out c) (minusR (a0, a1) (t.n nx)) k).2 ∧ (subR t g nx (t.up out c) (minusR (a0, a1) (t.n nx)) k).2 ≤ 2000000 + 2000000 * k) := fun k hk => sub_bd hG hnxl hne (by rw [HNZ.out]; unfold minusR; simp only; omega) k (by rw [← HLN.out]; exact hk)
  have HN4 : Hid (n + 85 + M + 170 ≤ 90000) := hn
  clear hl hst hrec hu hG hna hnz ena hra hrz era h10 hnx hne hn
  unfold GivesR at HUP HREC ⊢
  simp only at HUP HREC ⊢
  go_enter Try.func60, Try.ntmps60
  go_upto_region 1 with fail
  rw [show w.heap.size + 1 + 1 = w.heap.size + 2 from rfl]
  generalize ((w.alloc (.cells #[.int .i64 c, .int .i64 g] 39)).alloc (.cells #[.int .i64 s0, .int .i64 s1] 29)).alloc (.cells #[.int .i64 0, .int .i64 0] 29) = W0 at *
  have HAX : Hid (AF w W0.drew B bm (n) x t out [(w.heap.size, #[.int .i64 c, .int .i64 g], 39), (w.heap.size + 1, #[.int .i64 s0, .int .i64 s1], 29), (w.heap.size + 2, #[.int .i64 0, .int .i64 0], 29)]) := HAM.out.below hbm ((Below.refl _ _).drew)
  refine wp_region_held_drew (S := fun X => X.cell? ⟨w.heap.size, 0, none⟩ = some (.int .i64 c) ∧ X.cell? ⟨w.heap.size, 1, none⟩ = some (.int .i64 g) ∧ X.cell? ⟨w.heap.size + 1, 0, none⟩ = some (.int .i64 s0) ∧ X.cell? ⟨w.heap.size + 1, 1, none⟩ = some (.int .i64 s1) ∧ X.cell? ⟨B, 0, none⟩ = some (.slice x.ca t.nc x.cc)) (by kernel_rfl) (⟨HAX.out.cell (.head _) 0, HAX.out.cell (.head _) 1, HAX.out.cell (.tail _ (.head _)) 0, HAX.out.cell (.tail _ (.head _)) 1, HCB.out _ _ HAX.out.st⟩) (fun hS => ?_)
  generalize W0.drew = X at *
  refine tk [0, 1, 2, 3, 4, 5, 6, 7, 8] ?_
  repeat (refine tkH (oi := ⟨_, _, _, _, _, _⟩) (v := ?_) rfl (by kernel_rfl) (by rfl) (fun _ _ _ h => h) hS ?_ ?_; rotate_left; (· rintro W' ⟨z0, z1, z2, z3, z4⟩; go_simp; try with_reducible rfl); try simp only [Act.put, putA, putZ, putS])
  refine tk0 ?_
  refine tH 9 (oi := ⟨_, _, _, _, _, _⟩) (v := .bool false) rfl (by kernel_rfl) (by rfl) (fun _ _ _ h => h) hS ?_ ?_
  · rintro W' ⟨z0, z1, z2, z3, z4⟩; go_simp
  try simp only [Act.put, putA, putZ, putS]
  refine tk [10, 11] ?_
  repeat (refine tkH (oi := ⟨_, _, _, _, _, _⟩) (v := ?_) rfl (by kernel_rfl) (by rfl) (fun _ _ _ h => h) hS ?_ ?_; rotate_left; (· rintro W' ⟨z0, z1, z2, z3, z4⟩; go_simp; try with_reducible rfl); try simp only [Act.put, putA, putZ, putS])
  refine tk0 ?_
  refine wpAnyH_ready (rs := [12]) (by kernel_rfl) (by simp) ?_
  refine AllReadyH.cons (o := ⟨some 24, _, _, _, _, _⟩) rfl (fun K hK => ?_) AllReadyH.nil
  go_simp
  refine (empty_any s0 s1 X).mono ?_
  rw [hse]; rintro _ X0 ⟨rfl, hb0⟩
  (try go_wp2_with fail)
  have HA0 := Lib.hid (HAX.out.below hbm hb0)
  refine hK.out _ _ (⟨HA0.out.cell (.head _) 0, HA0.out.cell (.head _) 1, HA0.out.cell (.tail _ (.head _)) 0, HA0.out.cell (.tail _ (.head _)) 1, HCB.out _ _ HA0.out.st⟩) (fun hS => ?_)
  clear hK K
  try simp only [Act.put, putA, putZ, putS]
  clear hb0
  refine tH 13 (oi := ⟨_, _, _, _, _, _⟩) (v := ?_) rfl (by kernel_rfl) (by rfl) (fun _ _ _ h => h) hS ?_ ?_
  rotate_left
  · rintro W' ⟨z0, z1, z2, z3, z4⟩; go_simp; try with_reducible rfl
  try simp only [Act.put, putA, putZ, putS]
  refine wpAnyH_done (by kernel_rfl) ?_ _
  have HA1 := Lib.hid HA0.out
  clear hse HAX HAM hcl
  go_upto_region 3 with fail
  go_cut [7] (fun s7 wx => ∃ BN : Nat, s7 = .pointer (some ⟨BN, 0, none⟩) ∧ AF w wx B bm n x t out [(w.heap.size, #[.int .i64 c, .int .i64 g], 39), (w.heap.size + 1, #[.int .i64 s0, .int .i64 s1], 29), (w.heap.size + 2, #[.int .i64 0, .int .i64 0], 29), (BN, #[.int .i64 c1, .int .i64 nx], 39)] ∧ w.heap.size + 3 ≤ BN)
  case first =>
    have HAX : Hid (AF w X0.drew B bm n x t out [(w.heap.size, #[.int .i64 c, .int .i64 g], 39), (w.heap.size + 1, #[.int .i64 s0, .int .i64 s1], 29), (w.heap.size + 2, #[.int .i64 0, .int .i64 0], 29)]) := HA1.out.below hbm ((Below.refl _ _).drew)
    refine wp_region_held_drew (S := fun X => X.cell? ⟨w.heap.size, 0, none⟩ = some (.int .i64 c) ∧ X.cell? ⟨w.heap.size, 1, none⟩ = some (.int .i64 g)) (by kernel_rfl) (⟨HAX.out.cell (.head _) 0, HAX.out.cell (.head _) 1⟩) (fun hS => ?_)
    generalize X0.drew = X at *
    refine tk [0, 1] ?_
    repeat (refine tkH (oi := ⟨_, _, _, _, _, _⟩) (v := ?_) rfl (by kernel_rfl) (by rfl) (fun _ _ _ h => h) hS ?_ ?_; rotate_left; (· rintro W' ⟨z0, z1⟩; go_simp; try with_reducible rfl); try simp only [Act.put, putA, putZ, putS])
    refine tk0 ?_
    refine tH 2 (oi := ⟨_, _, _, _, _, _⟩) (v := .int .i64 c1) rfl (by kernel_rfl) (by rfl) (fun _ _ _ h => h) hS ?_ ?_
    · rintro W' ⟨z0, z1⟩; go_simp
    try simp only [Act.put, putA, putZ, putS]
    refine tk [3, 4] ?_
    repeat (refine tkH (oi := ⟨_, _, _, _, _, _⟩) (v := ?_) rfl (by kernel_rfl) (by rfl) (fun _ _ _ h => h) hS ?_ ?_; rotate_left; (· rintro W' ⟨z0, z1⟩; go_simp; try with_reducible rfl); try simp only [Act.put, putA, putZ, putS])
    refine tk0 ?_
    refine tH 5 (oi := ⟨_, _, _, _, _, _⟩) (v := .int .i64 ((g : Int) + 1)) rfl (by kernel_rfl) (by rfl) (fun _ _ _ h => h) hS ?_ ?_
    · rintro W' ⟨z0, z1⟩; go_simp
    try simp only [Act.put, putA, putZ, putS]
    refine tH 6 (oi := ⟨_, _, _, _, _, _⟩) (v := ?_) rfl (by kernel_rfl) (by rfl) (fun _ _ _ h => h) hS ?_ ?_
    rotate_left
    · rintro W' ⟨z0, z1⟩; go_simp; try with_reducible rfl
    try simp only [Act.put, putA, putZ, putS]
    refine wpAnyH_ready (rs := [7, 11]) (by kernel_rfl) (by simp) ?_
    refine AllReadyH.cons (o := ⟨some 34, _, _, _, _, _⟩) rfl (fun K hK => ?_) ?_
    ·
      go_simp
      refine (last_any B bm x t out X HAX.out.st.wb HAX.out.st.wl HG.out.small).mono ?_
      rintro _ X0 ⟨rfl, hb0⟩
      (try go_wp2_with fail)
      have HA0 := Lib.hid (HAX.out.below hbm hb0)
      refine hK.out _ _ (⟨HA0.out.cell (.head _) 0, HA0.out.cell (.head _) 1⟩) (fun hS => ?_)
      clear hK K
      try simp only [Act.put, putA, putZ, putS]
      clear hb0
      refine wpAnyH_ready (rs := [8, 11]) (by kernel_rfl) (by simp) ?_
      refine AllReadyH.cons (o := ⟨some 35, _, _, _, _, _⟩) rfl (fun K hK => ?_) ?_
      ·
        go_simp
        have HA1 := Lib.hid (HA0.out.alloc hbm #[.int .i64 ((g : Int) + 1), .int .i64 ((t.ng : Int) - 1)] 3)
        have hn1K := (HA0.out.lt (.head _)).2
        have hn1S := (HA0.out.lt (.tail _ (.head _))).2
        have hn1O := (HA0.out.lt (.tail _ (.tail _ (.head _)))).2
        have hn1_ := HA0.out.fr.size
        refine hK.out _ _ (⟨HA1.out.cell (.tail _ (.head _)) 0, HA1.out.cell (.tail _ (.head _)) 1⟩) (fun hS => ?_)
        clear hK K
        try simp only [Act.put, putA, putZ, putS]
        generalize X0.heap.size = J1 at *
        generalize (X0.alloc (.cells #[.int .i64 ((g : Int) + 1), .int .i64 ((t.ng : Int) - 1)] 3)) = X1 at *
        refine wpAnyH_ready (rs := [9, 11]) (by kernel_rfl) (by simp) ?_
        refine AllReadyH.cons (o := ⟨some 36, _, _, _, _, _⟩) rfl (fun K hK => ?_) ?_
        ·
          go_simp
          refine (smallest_any J1 ((g : Int) + 1) ((t.ng : Int) - 1) X1 (HA1.out.cell (.head _) 0) (HA1.out.cell (.head _) 1)).mono ?_
          rw [hmin]; rintro _ X2 ⟨rfl, rfl⟩
          (try go_wp2_with fail)
          refine hK.out _ _ (⟨HA1.out.cell (.tail _ (.head _)) 0, HA1.out.cell (.tail _ (.head _)) 1⟩) (fun hS => ?_)
          clear hK K
          try simp only [Act.put, putA, putZ, putS]
          refine tH 10 (oi := ⟨_, _, _, _, _, _⟩) (v := ?_) rfl (by kernel_rfl) (by rfl) (fun _ _ _ h => h) hS ?_ ?_
          rotate_left
          · rintro W' ⟨z0, z1⟩; go_simp; try with_reducible rfl
          try simp only [Act.put, putA, putZ, putS]
          refine wpAnyH_ready (rs := [11]) (by kernel_rfl) (by simp) ?_
          refine AllReadyH.cons (o := ⟨some 7, _, _, _, _, _⟩) rfl (fun K hK => ?_) AllReadyH.nil
          go_simp
          have HA3 := Lib.hid (HA1.out.alloc hbm #[.int .i64 0, .int .i64 0] 39)
          have hn3J := (HA1.out.lt (.head _)).2
          have hn3K := (HA1.out.lt (.tail _ (.head _))).2
          have hn3S := (HA1.out.lt (.tail _ (.tail _ (.head _)))).2
          have hn3O := (HA1.out.lt (.tail _ (.tail _ (.tail _ (.head _))))).2
          have hn3_ := HA1.out.fr.size
          refine hK.out _ _ (⟨HA3.out.cell (.tail _ (.tail _ (.head _))) 0, HA3.out.cell (.tail _ (.tail _ (.head _))) 1⟩) (fun hS => ?_)
          clear hK K
          try simp only [Act.put, putA, putZ, putS]
          generalize X1.heap.size = N3 at *
          generalize (X1.alloc (.cells #[.int .i64 0, .int .i64 0] 39)) = X3 at *
          refine wpAnyH_ready (rs := [12]) (by kernel_rfl) (by simp) ?_
          refine AllReadyH.cons (o := ⟨none, _, _, _, _, _⟩) rfl (fun K hK => ?_) AllReadyH.nil
          have e0 := HA3.out.cell (.head _) 0
          have e1 := HA3.out.cell (.head _) 1
          have f0 := HA3.out.thaw (.head _) 0
          have f1 := HA3.out.thaw (.head _) 1
          have HA4 := Lib.hid (AF.set2 HSW.out HA3.out (.head _) (.int .i64 c1) (.int .i64 nx) (L' := [(J1, #[.int .i64 ((g : Int) + 1), .int .i64 ((t.ng : Int) - 1)], 3), (w.heap.size, #[.int .i64 c, .int .i64 g], 39), (w.heap.size + 1, #[.int .i64 s0, .int .i64 s1], 29), (w.heap.size + 2, #[.int .i64 0, .int .i64 0], 29)]) (List.forall_mem_cons.2 ⟨⟨show J1 ≠ N3 by omega, (.tail _ (.head _))⟩, List.forall_mem_cons.2 ⟨⟨show w.heap.size ≠ N3 by omega, (.tail _ (.tail _ (.head _)))⟩, List.forall_mem_cons.2 ⟨⟨show w.heap.size + 1 ≠ N3 by omega, (.tail _ (.tail _ (.tail _ (.head _))))⟩, List.forall_mem_cons.2 ⟨⟨show w.heap.size + 2 ≠ N3 by omega, (.tail _ (.tail _ (.tail _ (.tail _ (.head _)))))⟩, List.forall_mem_nil _⟩⟩⟩⟩))
          go_simp
          refine hK.out _ _ (⟨HA4.out.cell (.tail _ (.tail _ (.head _))) 0, HA4.out.cell (.tail _ (.tail _ (.head _))) 1⟩) (fun hS => ?_)
          clear hK K
          (try simp only [Act.put])
          clear e0 e1 f0 f1
          refine wpAnyH_done (by kernel_rfl) ?_ _
          go_wp2_with fail
          go_meet
          exact ⟨N3, rfl, HA4.out.sub (List.forall_mem_cons.2 ⟨(.tail _ (.tail _ (.head _))), List.forall_mem_cons.2 ⟨(.tail _ (.tail _ (.tail _ (.head _)))), List.forall_mem_cons.2 ⟨(.tail _ (.tail _ (.tail _ (.tail _ (.head _))))), List.forall_mem_cons.2 ⟨(.head _), List.forall_mem_nil _⟩⟩⟩⟩), by omega⟩
        refine AllReadyH.cons (o := ⟨some 7, _, _, _, _, _⟩) rfl (fun K hK => ?_) AllReadyH.nil
        go_simp
        have HA5 := Lib.hid (HA1.out.alloc hbm #[.int .i64 0, .int .i64 0] 39)
        have hn5J := (HA1.out.lt (.head _)).2
        have hn5K := (HA1.out.lt (.tail _ (.head _))).2
        have hn5S := (HA1.out.lt (.tail _ (.tail _ (.head _)))).2
        have hn5O := (HA1.out.lt (.tail _ (.tail _ (.tail _ (.head _))))).2
        have hn5_ := HA1.out.fr.size
        refine hK.out _ _ (⟨HA5.out.cell (.tail _ (.tail _ (.head _))) 0, HA5.out.cell (.tail _ (.tail _ (.head _))) 1⟩) (fun hS => ?_)
        clear hK K
        try simp only [Act.put, putA, putZ, putS]
        generalize X1.heap.size = N5 at *
        generalize (X1.alloc (.cells #[.int .i64 0, .int .i64 0] 39)) = X5 at *
        refine wpAnyH_ready (rs := [9]) (by kernel_rfl) (by simp) ?_
        refine AllReadyH.cons (o := ⟨some 36, _, _, _, _, _⟩) rfl (fun K hK => ?_) AllReadyH.nil
        go_simp
        refine (smallest_any J1 ((g : Int) + 1) ((t.ng : Int) - 1) X5 (HA5.out.cell (.tail _ (.head _)) 0) (HA5.out.cell (.tail _ (.head _)) 1)).mono ?_
        rw [hmin]; rintro _ X6 ⟨rfl, rfl⟩
        (try go_wp2_with fail)
        refine hK.out _ _ (⟨HA5.out.cell (.tail _ (.tail _ (.head _))) 0, HA5.out.cell (.tail _ (.tail _ (.head _))) 1⟩) (fun hS => ?_)
        clear hK K
        try simp only [Act.put, putA, putZ, putS]
        refine tH 10 (oi := ⟨_, _, _, _, _, _⟩) (v := ?_) rfl (by kernel_rfl) (by rfl) (fun _ _ _ h => h) hS ?_ ?_
        rotate_left
        · rintro W' ⟨z0, z1⟩; go_simp; try with_reducible rfl
        try simp only [Act.put, putA, putZ, putS]
        refine wpAnyH_ready (rs := [12]) (by kernel_rfl) (by simp) ?_
        refine AllReadyH.cons (o := ⟨none, _, _, _, _, _⟩) rfl (fun K hK => ?_) AllReadyH.nil
        have e0 := HA5.out.cell (.head _) 0
        have e1 := HA5.out.cell (.head _) 1
        have f0 := HA5.out.thaw (.head _) 0
        have f1 := HA5.out.thaw (.head _) 1
        have HA7 := Lib.hid (AF.set2 HSW.out HA5.out (.head _) (.int .i64 c1) (.int .i64 nx) (L' := [(J1, #[.int .i64 ((g : Int) + 1), .int .i64 ((t.ng : Int) - 1)], 3), (w.heap.size, #[.int .i64 c, .int .i64 g], 39), (w.heap.size + 1, #[.int .i64 s0, .int .i64 s1], 29), (w.heap.size + 2, #[.int .i64 0, .int .i64 0], 29)]) (List.forall_mem_cons.2 ⟨⟨show J1 ≠ N5 by omega, (.tail _ (.head _))⟩, List.forall_mem_cons.2 ⟨⟨show w.heap.size ≠ N5 by omega, (.tail _ (.tail _ (.head _)))⟩, List.forall_mem_cons.2 ⟨⟨show w.heap.size + 1 ≠ N5 by omega, (.tail _ (.tail _ (.tail _ (.head _))))⟩, List.forall_mem_cons.2 ⟨⟨show w.heap.size + 2 ≠ N5 by omega, (.tail _ (.tail _ (.tail _ (.tail _ (.head _)))))⟩, List.forall_mem_nil _⟩⟩⟩⟩))
        go_simp
        refine hK.out _ _ (⟨HA7.out.cell (.tail _ (.tail _ (.head _))) 0, HA7.out.cell (.tail _ (.tail _ (.head _))) 1⟩) (fun hS => ?_)
        clear hK K
        (try simp only [Act.put])
        clear e0 e1 f0 f1
        refine wpAnyH_done (by kernel_rfl) ?_ _
        go_wp2_with fail
        go_meet
        exact ⟨N5, rfl, HA7.out.sub (List.forall_mem_cons.2 ⟨(.tail _ (.tail _ (.head _))), List.forall_mem_cons.2 ⟨(.tail _ (.tail _ (.tail _ (.head _)))), List.forall_mem_cons.2 ⟨(.tail _ (.tail _ (.tail _ (.tail _ (.head _))))), List.forall_mem_cons.2 ⟨(.head _), List.forall_mem_nil _⟩⟩⟩⟩), by omega⟩
      refine AllReadyH.cons (o := ⟨some 7, _, _, _, _, _⟩) rfl (fun K hK => ?_) AllReadyH.nil
      go_simp
      have HA8 := Lib.hid (HA0.out.alloc hbm #[.int .i64 0, .int .i64 0] 39)
      have hn8K := (HA0.out.lt (.head _)).2
      have hn8S := (HA0.out.lt (.tail _ (.head _))).2
      have hn8O := (HA0.out.lt (.tail _ (.tail _ (.head _)))).2
      have hn8_ := HA0.out.fr.size
      refine hK.out _ _ (⟨HA8.out.cell (.tail _ (.head _)) 0, HA8.out.cell (.tail _ (.head _)) 1⟩) (fun hS => ?_)
      clear hK K
      try simp only [Act.put, putA, putZ, putS]
      generalize X0.heap.size = N8 at *
      generalize (X0.alloc (.cells #[.int .i64 0, .int .i64 0] 39)) = X8 at *
      refine wpAnyH_ready (rs := [8]) (by kernel_rfl) (by simp) ?_
      refine AllReadyH.cons (o := ⟨some 35, _, _, _, _, _⟩) rfl (fun K hK => ?_) AllReadyH.nil
      go_simp
      have HA9 := Lib.hid (HA8.out.alloc hbm #[.int .i64 ((g : Int) + 1), .int .i64 ((t.ng : Int) - 1)] 3)
      have hn9N := (HA8.out.lt (.head _)).2
      have hn9K := (HA8.out.lt (.tail _ (.head _))).2
      have hn9S := (HA8.out.lt (.tail _ (.tail _ (.head _)))).2
      have hn9O := (HA8.out.lt (.tail _ (.tail _ (.tail _ (.head _))))).2
      have hn9_ := HA8.out.fr.size
      refine hK.out _ _ (⟨HA9.out.cell (.tail _ (.tail _ (.head _))) 0, HA9.out.cell (.tail _ (.tail _ (.head _))) 1⟩) (fun hS => ?_)
      clear hK K
      try simp only [Act.put, putA, putZ, putS]
      generalize X8.heap.size = J9 at *
      generalize (X8.alloc (.cells #[.int .i64 ((g : Int) + 1), .int .i64 ((t.ng : Int) - 1)] 3)) = X9 at *
      refine wpAnyH_ready (rs := [9]) (by kernel_rfl) (by simp) ?_
      refine AllReadyH.cons (o := ⟨some 36, _, _, _, _, _⟩) rfl (fun K hK => ?_) AllReadyH.nil
      go_simp
      refine (smallest_any J9 ((g : Int) + 1) ((t.ng : Int) - 1) X9 (HA9.out.cell (.head _) 0) (HA9.out.cell (.head _) 1)).mono ?_
      rw [hmin]; rintro _ X10 ⟨rfl, rfl⟩
      (try go_wp2_with fail)
      refine hK.out _ _ (⟨HA9.out.cell (.tail _ (.tail _ (.head _))) 0, HA9.out.cell (.tail _ (.tail _ (.head _))) 1⟩) (fun hS => ?_)
      clear hK K
      try simp only [Act.put, putA, putZ, putS]
      refine tH 10 (oi := ⟨_, _, _, _, _, _⟩) (v := ?_) rfl (by kernel_rfl) (by rfl) (fun _ _ _ h => h) hS ?_ ?_
      rotate_left
      · rintro W' ⟨z0, z1⟩; go_simp; try with_reducible rfl
      try simp only [Act.put, putA, putZ, putS]
      refine wpAnyH_ready (rs := [12]) (by kernel_rfl) (by simp) ?_
      refine AllReadyH.cons (o := ⟨none, _, _, _, _, _⟩) rfl (fun K hK => ?_) AllReadyH.nil
      have e0 := HA9.out.cell (.tail _ (.head _)) 0
      have e1 := HA9.out.cell (.tail _ (.head _)) 1
      have f0 := HA9.out.thaw (.tail _ (.head _)) 0
      have f1 := HA9.out.thaw (.tail _ (.head _)) 1
      have HA11 := Lib.hid (AF.set2 HSW.out HA9.out (.tail _ (.head _)) (.int .i64 c1) (.int .i64 nx) (L' := [(J9, #[.int .i64 ((g : Int) + 1), .int .i64 ((t.ng : Int) - 1)], 3), (w.heap.size, #[.int .i64 c, .int .i64 g], 39), (w.heap.size + 1, #[.int .i64 s0, .int .i64 s1], 29), (w.heap.size + 2, #[.int .i64 0, .int .i64 0], 29)]) (List.forall_mem_cons.2 ⟨⟨show J9 ≠ N8 by omega, (.head _)⟩, List.forall_mem_cons.2 ⟨⟨show w.heap.size ≠ N8 by omega, (.tail _ (.tail _ (.head _)))⟩, List.forall_mem_cons.2 ⟨⟨show w.heap.size + 1 ≠ N8 by omega, (.tail _ (.tail _ (.tail _ (.head _))))⟩, List.forall_mem_cons.2 ⟨⟨show w.heap.size + 2 ≠ N8 by omega, (.tail _ (.tail _ (.tail _ (.tail _ (.head _)))))⟩, List.forall_mem_nil _⟩⟩⟩⟩))
      go_simp
      refine hK.out _ _ (⟨HA11.out.cell (.tail _ (.tail _ (.head _))) 0, HA11.out.cell (.tail _ (.tail _ (.head _))) 1⟩) (fun hS => ?_)
      clear hK K
      (try simp only [Act.put])
      clear e0 e1 f0 f1
      refine wpAnyH_done (by kernel_rfl) ?_ _
      go_wp2_with fail
      go_meet
      exact ⟨N8, rfl, HA11.out.sub (List.forall_mem_cons.2 ⟨(.tail _ (.tail _ (.head _))), List.forall_mem_cons.2 ⟨(.tail _ (.tail _ (.tail _ (.head _)))), List.forall_mem_cons.2 ⟨(.tail _ (.tail _ (.tail _ (.tail _ (.head _))))), List.forall_mem_cons.2 ⟨(.head _), List.forall_mem_nil _⟩⟩⟩⟩), by omega⟩
    refine AllReadyH.cons (o := ⟨some 7, _, _, _, _, _⟩) rfl (fun K hK => ?_) AllReadyH.nil
    go_simp
    have HA12 := Lib.hid (HAX.out.alloc hbm #[.int .i64 0, .int .i64 0] 39)
    have hn12K := (HAX.out.lt (.head _)).2
    have hn12S := (HAX.out.lt (.tail _ (.head _))).2
    have hn12O := (HAX.out.lt (.tail _ (.tail _ (.head _)))).2
    have hn12_ := HAX.out.fr.size
    refine hK.out _ _ (⟨HA12.out.cell (.tail _ (.head _)) 0, HA12.out.cell (.tail _ (.head _)) 1⟩) (fun hS => ?_)
    clear hK K
    try simp only [Act.put, putA, putZ, putS]
    generalize X.heap.size = N12 at *
    generalize (X.alloc (.cells #[.int .i64 0, .int .i64 0] 39)) = X12 at *
    refine wpAnyH_ready (rs := [7]) (by kernel_rfl) (by simp) ?_
    refine AllReadyH.cons (o := ⟨some 34, _, _, _, _, _⟩) rfl (fun K hK => ?_) AllReadyH.nil
    go_simp
    refine (last_any B bm x t out X12 HA12.out.st.wb HA12.out.st.wl HG.out.small).mono ?_
    rintro _ X13 ⟨rfl, hb13⟩
    (try go_wp2_with fail)
    have HA13 := Lib.hid (HA12.out.below hbm hb13)
    refine hK.out _ _ (⟨HA13.out.cell (.tail _ (.head _)) 0, HA13.out.cell (.tail _ (.head _)) 1⟩) (fun hS => ?_)
    clear hK K
    try simp only [Act.put, putA, putZ, putS]
    clear hb13
    refine wpAnyH_ready (rs := [8]) (by kernel_rfl) (by simp) ?_
    refine AllReadyH.cons (o := ⟨some 35, _, _, _, _, _⟩) rfl (fun K hK => ?_) AllReadyH.nil
    go_simp
    have HA14 := Lib.hid (HA13.out.alloc hbm #[.int .i64 ((g : Int) + 1), .int .i64 ((t.ng : Int) - 1)] 3)
    have hn14N := (HA13.out.lt (.head _)).2
    have hn14K := (HA13.out.lt (.tail _ (.head _))).2
    have hn14S := (HA13.out.lt (.tail _ (.tail _ (.head _)))).2
    have hn14O := (HA13.out.lt (.tail _ (.tail _ (.tail _ (.head _))))).2
    have hn14_ := HA13.out.fr.size
    refine hK.out _ _ (⟨HA14.out.cell (.tail _ (.tail _ (.head _))) 0, HA14.out.cell (.tail _ (.tail _ (.head _))) 1⟩) (fun hS => ?_)
    clear hK K
    try simp only [Act.put, putA, putZ, putS]
    generalize X13.heap.size = J14 at *
    generalize (X13.alloc (.cells #[.int .i64 ((g : Int) + 1), .int .i64 ((t.ng : Int) - 1)] 3)) = X14 at *
    refine wpAnyH_ready (rs := [9]) (by kernel_rfl) (by simp) ?_
    refine AllReadyH.cons (o := ⟨some 36, _, _, _, _, _⟩) rfl (fun K hK => ?_) AllReadyH.nil
    go_simp
    refine (smallest_any J14 ((g : Int) + 1) ((t.ng : Int) - 1) X14 (HA14.out.cell (.head _) 0) (HA14.out.cell (.head _) 1)).mono ?_
    rw [hmin]; rintro _ X15 ⟨rfl, rfl⟩
    (try go_wp2_with fail)
    refine hK.out _ _ (⟨HA14.out.cell (.tail _ (.tail _ (.head _))) 0, HA14.out.cell (.tail _ (.tail _ (.head _))) 1⟩) (fun hS => ?_)
    clear hK K
    try simp only [Act.put, putA, putZ, putS]
    refine tH 10 (oi := ⟨_, _, _, _, _, _⟩) (v := ?_) rfl (by kernel_rfl) (by rfl) (fun _ _ _ h => h) hS ?_ ?_
    rotate_left
    · rintro W' ⟨z0, z1⟩; go_simp; try with_reducible rfl
    try simp only [Act.put, putA, putZ, putS]
    refine wpAnyH_ready (rs := [12]) (by kernel_rfl) (by simp) ?_
    refine AllReadyH.cons (o := ⟨none, _, _, _, _, _⟩) rfl (fun K hK => ?_) AllReadyH.nil
    have e0 := HA14.out.cell (.tail _ (.head _)) 0
    have e1 := HA14.out.cell (.tail _ (.head _)) 1
    have f0 := HA14.out.thaw (.tail _ (.head _)) 0
    have f1 := HA14.out.thaw (.tail _ (.head _)) 1
    have HA16 := Lib.hid (AF.set2 HSW.out HA14.out (.tail _ (.head _)) (.int .i64 c1) (.int .i64 nx) (L' := [(J14, #[.int .i64 ((g : Int) + 1), .int .i64 ((t.ng : Int) - 1)], 3), (w.heap.size, #[.int .i64 c, .int .i64 g], 39), (w.heap.size + 1, #[.int .i64 s0, .int .i64 s1], 29), (w.heap.size + 2, #[.int .i64 0, .int .i64 0], 29)]) (List.forall_mem_cons.2 ⟨⟨show J14 ≠ N12 by omega, (.head _)⟩, List.forall_mem_cons.2 ⟨⟨show w.heap.size ≠ N12 by omega, (.tail _ (.tail _ (.head _)))⟩, List.forall_mem_cons.2 ⟨⟨show w.heap.size + 1 ≠ N12 by omega, (.tail _ (.tail _ (.tail _ (.head _))))⟩, List.forall_mem_cons.2 ⟨⟨show w.heap.size + 2 ≠ N12 by omega, (.tail _ (.tail _ (.tail _ (.tail _ (.head _)))))⟩, List.forall_mem_nil _⟩⟩⟩⟩))
    go_simp
    refine hK.out _ _ (⟨HA16.out.cell (.tail _ (.tail _ (.head _))) 0, HA16.out.cell (.tail _ (.tail _ (.head _))) 1⟩) (fun hS => ?_)
    clear hK K
    (try simp only [Act.put])
    clear e0 e1 f0 f1
    refine wpAnyH_done (by kernel_rfl) ?_ _
    go_wp2_with fail
    go_meet
    exact ⟨N12, rfl, HA16.out.sub (List.forall_mem_cons.2 ⟨(.tail _ (.tail _ (.head _))), List.forall_mem_cons.2 ⟨(.tail _ (.tail _ (.tail _ (.head _)))), List.forall_mem_cons.2 ⟨(.tail _ (.tail _ (.tail _ (.tail _ (.head _))))), List.forall_mem_cons.2 ⟨(.head _), List.forall_mem_nil _⟩⟩⟩⟩), by omega⟩
  case rest =>
    obtain ⟨BN, rfl, haf, hBN⟩ := hcut
    have HA3 := Lib.hid haf
    clear haf HA1 wc1 hmin wnc
    go_upto_region 4 with fail
    go_cut [8] (fun s8 wx => ∃ GN : Nat, s8 = .pointer (some ⟨GN, 0, none⟩) ∧ AF w wx B bm (n + 85 + M) x t out [(w.heap.size, #[.int .i64 c, .int .i64 g], 39), (w.heap.size + 1, #[.int .i64 s0, .int .i64 s1], 29), (w.heap.size + 2, #[.int .i64 0, .int .i64 0], 29), (BN, #[.int .i64 c1, .int .i64 nx], 39), (GN, #[.int .i64 (a0 - nz), .int .i64 (a1 - na)], 29)] ∧ BN < GN)
    case first =>
      have HAX : Hid (AF w wc.drew B bm n x t out [(w.heap.size, #[.int .i64 c, .int .i64 g], 39), (w.heap.size + 1, #[.int .i64 s0, .int .i64 s1], 29), (w.heap.size + 2, #[.int .i64 0, .int .i64 0], 29), (BN, #[.int .i64 c1, .int .i64 nx], 39)]) := HA3.out.below hbm ((Below.refl _ _).drew)
      refine wp_region_held_drew (S := fun X => X.cell? ⟨BN, 0, none⟩ = some (.int .i64 c1) ∧ X.cell? ⟨BN, 1, none⟩ = some (.int .i64 nx) ∧ X.cell? ⟨B, 3, none⟩ = some (.slice (some ⟨nb, no, none⟩) t.nn x.nc) ∧ X.cell? ⟨nb, no + nx * 2, none⟩ = some (.int .i64 na) ∧ X.cell? ⟨nb, no + nx * 2 + 1, none⟩ = some (.int .i64 nz)) (by kernel_rfl) (⟨HAX.out.cell (.tail _ (.tail _ (.tail _ (.head _)))) 0, HAX.out.cell (.tail _ (.tail _ (.tail _ (.head _)))) 1, HCN.out _ _ HAX.out.st⟩) (fun hS => ?_)
      clear HA3
      generalize wc.drew = X at *
      refine tk [0, 1, 2, 3, 6, 7, 8, 9, 10, 11, 12] ?_
      repeat (refine tkH (oi := ⟨_, _, _, _, _, _⟩) (v := ?_) rfl (by kernel_rfl) (by rfl) (fun _ _ _ h => h) hS ?_ ?_; rotate_left; (· rintro W' ⟨z0, z1, z2, z3, z4⟩; go_simp; try with_reducible rfl); try simp only [Act.put, putA, putZ, putS])
      refine tk0 ?_
      refine tH 13 (oi := ⟨_, _, _, _, _, _⟩) (v := .pointer (some ⟨nb, no + nx * 2, none⟩)) rfl (by kernel_rfl) (by rfl) (fun _ _ _ h => h) hS ?_ ?_
      · rintro W' ⟨z0, z1, z2, z3, z4⟩; go_simp
      try simp only [Act.put, putA, putZ, putS]
      refine tH 14 (oi := ⟨_, _, _, _, _, _⟩) (v := ?_) rfl (by kernel_rfl) (by rfl) (fun _ _ _ h => h) hS ?_ ?_
      rotate_left
      · rintro W' ⟨z0, z1, z2, z3, z4⟩; go_simp; try with_reducible rfl
      try simp only [Act.put, putA, putZ, putS]
      refine wpAnyH_ready (rs := [4, 16]) (by kernel_rfl) (by simp) ?_
      refine AllReadyH.cons (o := ⟨some 42, _, _, _, _, _⟩) rfl (fun K hK => ?_) ?_
      ·
        go_simp
        refine (HUP.out X HAX.out.st).mono ?_
        rintro _ X0 ⟨rfl, hs0, hf0⟩
        (try go_wp2_with fail)
        have HA0 := Lib.hid (HAX.out.go hbm hf0 hs0)
        refine hK.out _ _ (⟨HA0.out.cell (.tail _ (.tail _ (.tail _ (.head _)))) 0, HA0.out.cell (.tail _ (.tail _ (.tail _ (.head _)))) 1, HCN.out _ _ HA0.out.st⟩) (fun hS => ?_)
        clear hK K
        try simp only [Act.put, putA, putZ, putS]
        clear hf0 hs0
        refine wpAnyH_ready (rs := [5, 16]) (by kernel_rfl) (by simp) ?_
        refine AllReadyH.cons (o := ⟨some 43, _, _, _, _, _⟩) rfl (fun K hK => ?_) ?_
        ·
          go_simp
          refine (HREC.out X0 HA0.out.st).mono ?_
          rintro _ X1 ⟨rfl, hs1, hf1⟩
          (try go_wp2_with fail)
          have HA1 := Lib.hid (HA0.out.go hbm hf1 hs1)
          refine hK.out _ _ (⟨HA1.out.cell (.tail _ (.tail _ (.tail _ (.head _)))) 0, HA1.out.cell (.tail _ (.tail _ (.tail _ (.head _)))) 1, HCN.out _ _ HA1.out.st⟩) (fun hS => ?_)
          clear hK K
          try simp only [Act.put, putA, putZ, putS]
          clear hf1 hs1
          refine wpAnyH_ready (rs := [15, 16]) (by kernel_rfl) (by simp) ?_
          refine AllReadyH.cons (o := ⟨some 53, _, _, _, _, _⟩) rfl (fun K hK => ?_) ?_
          ·
            go_simp
            refine (minus_any a0 a1 na nz X1 (by omega) (by omega) (by omega) (by omega)).mono ?_
            rintro _ X2 ⟨rfl, hb2⟩
            (try go_wp2_with fail)
            have HA2 := Lib.hid (HA1.out.below hbm hb2)
            refine hK.out _ _ (⟨HA2.out.cell (.tail _ (.tail _ (.tail _ (.head _)))) 0, HA2.out.cell (.tail _ (.tail _ (.tail _ (.head _)))) 1, HCN.out _ _ HA2.out.st⟩) (fun hS => ?_)
            clear hK K
            try simp only [Act.put, putA, putZ, putS]
            clear hb2
            refine wpAnyH_ready (rs := [16]) (by kernel_rfl) (by simp) ?_
            refine AllReadyH.cons (o := ⟨some 8, _, _, _, _, _⟩) rfl (fun K hK => ?_) AllReadyH.nil
            go_simp
            have HA3 := Lib.hid (HA2.out.alloc hbm #[.int .i64 0, .int .i64 0] 29)
            have hn3K := (HA2.out.lt (.head _)).2
            have hn3S := (HA2.out.lt (.tail _ (.head _))).2
            have hn3O := (HA2.out.lt (.tail _ (.tail _ (.head _)))).2
            have hn3N := (HA2.out.lt (.tail _ (.tail _ (.tail _ (.head _))))).2
            have hn3_ := HA2.out.fr.size
            refine hK.out _ _ (⟨HA3.out.cell (.tail _ (.tail _ (.tail _ (.tail _ (.head _))))) 0, HA3.out.cell (.tail _ (.tail _ (.tail _ (.tail _ (.head _))))) 1, HCN.out _ _ HA3.out.st⟩) (fun hS => ?_)
            clear hK K
            try simp only [Act.put, putA, putZ, putS]
            generalize X2.heap.size = G3 at *
            generalize (X2.alloc (.cells #[.int .i64 0, .int .i64 0] 29)) = X3 at *
            refine wpAnyH_ready (rs := [17]) (by kernel_rfl) (by simp) ?_
            refine AllReadyH.cons (o := ⟨none, _, _, _, _, _⟩) rfl (fun K hK => ?_) AllReadyH.nil
            have e0 := HA3.out.cell (.head _) 0
            have e1 := HA3.out.cell (.head _) 1
            have f0 := HA3.out.thaw (.head _) 0
            have f1 := HA3.out.thaw (.head _) 1
            have HA4 := Lib.hid (AF.set2 HSW.out HA3.out (.head _) (.int .i64 (a0 - nz)) (.int .i64 (a1 - na)) (L' := [(w.heap.size, #[.int .i64 c, .int .i64 g], 39), (w.heap.size + 1, #[.int .i64 s0, .int .i64 s1], 29), (w.heap.size + 2, #[.int .i64 0, .int .i64 0], 29), (BN, #[.int .i64 c1, .int .i64 nx], 39)]) (List.forall_mem_cons.2 ⟨⟨show w.heap.size ≠ G3 by omega, (.tail _ (.head _))⟩, List.forall_mem_cons.2 ⟨⟨show w.heap.size + 1 ≠ G3 by omega, (.tail _ (.tail _ (.head _)))⟩, List.forall_mem_cons.2 ⟨⟨show w.heap.size + 2 ≠ G3 by omega, (.tail _ (.tail _ (.tail _ (.head _))))⟩, List.forall_mem_cons.2 ⟨⟨show BN ≠ G3 by omega, (.tail _ (.tail _ (.tail _ (.tail _ (.head _)))))⟩, List.forall_mem_nil _⟩⟩⟩⟩))
            go_simp
            refine hK.out _ _ (⟨HA4.out.cell (.tail _ (.tail _ (.tail _ (.tail _ (.head _))))) 0, HA4.out.cell (.tail _ (.tail _ (.tail _ (.tail _ (.head _))))) 1, HCN.out _ _ HA4.out.st⟩) (fun hS => ?_)
            clear hK K
            (try simp only [Act.put])
            clear e0 e1 f0 f1
            refine wpAnyH_done (by kernel_rfl) ?_ _
            go_wp2_with fail
            go_meet
            exact ⟨G3, rfl, HA4.out.sub (List.forall_mem_cons.2 ⟨(.tail _ (.head _)), List.forall_mem_cons.2 ⟨(.tail _ (.tail _ (.head _))), List.forall_mem_cons.2 ⟨(.tail _ (.tail _ (.tail _ (.head _)))), List.forall_mem_cons.2 ⟨(.tail _ (.tail _ (.tail _ (.tail _ (.head _))))), List.forall_mem_cons.2 ⟨(.head _), List.forall_mem_nil _⟩⟩⟩⟩⟩), by omega⟩
          refine AllReadyH.cons (o := ⟨some 8, _, _, _, _, _⟩) rfl (fun K hK => ?_) AllReadyH.nil
          go_simp
          have HA5 := Lib.hid (HA1.out.alloc hbm #[.int .i64 0, .int .i64 0] 29)
          have hn5K := (HA1.out.lt (.head _)).2
          have hn5S := (HA1.out.lt (.tail _ (.head _))).2
          have hn5O := (HA1.out.lt (.tail _ (.tail _ (.head _)))).2
          have hn5N := (HA1.out.lt (.tail _ (.tail _ (.tail _ (.head _))))).2
          have hn5_ := HA1.out.fr.size
          refine hK.out _ _ (⟨HA5.out.cell (.tail _ (.tail _ (.tail _ (.tail _ (.head _))))) 0, HA5.out.cell (.tail _ (.tail _ (.tail _ (.tail _ (.head _))))) 1, HCN.out _ _ HA5.out.st⟩) (fun hS => ?_)
          clear hK K
          try simp only [Act.put, putA, putZ, putS]
          generalize X1.heap.size = G5 at *
          generalize (X1.alloc (.cells #[.int .i64 0, .int .i64 0] 29)) = X5 at *
          refine wpAnyH_ready (rs := [15]) (by kernel_rfl) (by simp) ?_
          refine AllReadyH.cons (o := ⟨some 53, _, _, _, _, _⟩) rfl (fun K hK => ?_) AllReadyH.nil
          go_simp
          refine (minus_any a0 a1 na nz X5 (by omega) (by omega) (by omega) (by omega)).mono ?_
          rintro _ X6 ⟨rfl, hb6⟩
          (try go_wp2_with fail)
          have HA6 := Lib.hid (HA5.out.below hbm hb6)
          refine hK.out _ _ (⟨HA6.out.cell (.tail _ (.tail _ (.tail _ (.tail _ (.head _))))) 0, HA6.out.cell (.tail _ (.tail _ (.tail _ (.tail _ (.head _))))) 1, HCN.out _ _ HA6.out.st⟩) (fun hS => ?_)
          clear hK K
          try simp only [Act.put, putA, putZ, putS]
          clear hb6
          refine wpAnyH_ready (rs := [17]) (by kernel_rfl) (by simp) ?_
          refine AllReadyH.cons (o := ⟨none, _, _, _, _, _⟩) rfl (fun K hK => ?_) AllReadyH.nil
          have e0 := HA6.out.cell (.head _) 0
          have e1 := HA6.out.cell (.head _) 1
          have f0 := HA6.out.thaw (.head _) 0
          have f1 := HA6.out.thaw (.head _) 1
          have HA7 := Lib.hid (AF.set2 HSW.out HA6.out (.head _) (.int .i64 (a0 - nz)) (.int .i64 (a1 - na)) (L' := [(w.heap.size, #[.int .i64 c, .int .i64 g], 39), (w.heap.size + 1, #[.int .i64 s0, .int .i64 s1], 29), (w.heap.size + 2, #[.int .i64 0, .int .i64 0], 29), (BN, #[.int .i64 c1, .int .i64 nx], 39)]) (List.forall_mem_cons.2 ⟨⟨show w.heap.size ≠ G5 by omega, (.tail _ (.head _))⟩, List.forall_mem_cons.2 ⟨⟨show w.heap.size + 1 ≠ G5 by omega, (.tail _ (.tail _ (.head _)))⟩, List.forall_mem_cons.2 ⟨⟨show w.heap.size + 2 ≠ G5 by omega, (.tail _ (.tail _ (.tail _ (.head _))))⟩, List.forall_mem_cons.2 ⟨⟨show BN ≠ G5 by omega, (.tail _ (.tail _ (.tail _ (.tail _ (.head _)))))⟩, List.forall_mem_nil _⟩⟩⟩⟩))
          go_simp
          refine hK.out _ _ (⟨HA7.out.cell (.tail _ (.tail _ (.tail _ (.tail _ (.head _))))) 0, HA7.out.cell (.tail _ (.tail _ (.tail _ (.tail _ (.head _))))) 1, HCN.out _ _ HA7.out.st⟩) (fun hS => ?_)
          clear hK K
          (try simp only [Act.put])
          clear e0 e1 f0 f1
          refine wpAnyH_done (by kernel_rfl) ?_ _
          go_wp2_with fail
          go_meet
          exact ⟨G5, rfl, HA7.out.sub (List.forall_mem_cons.2 ⟨(.tail _ (.head _)), List.forall_mem_cons.2 ⟨(.tail _ (.tail _ (.head _))), List.forall_mem_cons.2 ⟨(.tail _ (.tail _ (.tail _ (.head _)))), List.forall_mem_cons.2 ⟨(.tail _ (.tail _ (.tail _ (.tail _ (.head _))))), List.forall_mem_cons.2 ⟨(.head _), List.forall_mem_nil _⟩⟩⟩⟩⟩), by omega⟩
        refine AllReadyH.cons (o := ⟨some 8, _, _, _, _, _⟩) rfl (fun K hK => ?_) AllReadyH.nil
        go_simp
        have HA8 := Lib.hid (HA0.out.alloc hbm #[.int .i64 0, .int .i64 0] 29)
        have hn8K := (HA0.out.lt (.head _)).2
        have hn8S := (HA0.out.lt (.tail _ (.head _))).2
        have hn8O := (HA0.out.lt (.tail _ (.tail _ (.head _)))).2
        have hn8N := (HA0.out.lt (.tail _ (.tail _ (.tail _ (.head _))))).2
        have hn8_ := HA0.out.fr.size
        refine hK.out _ _ (⟨HA8.out.cell (.tail _ (.tail _ (.tail _ (.tail _ (.head _))))) 0, HA8.out.cell (.tail _ (.tail _ (.tail _ (.tail _ (.head _))))) 1, HCN.out _ _ HA8.out.st⟩) (fun hS => ?_)
        clear hK K
        try simp only [Act.put, putA, putZ, putS]
        generalize X0.heap.size = G8 at *
        generalize (X0.alloc (.cells #[.int .i64 0, .int .i64 0] 29)) = X8 at *
        refine wpAnyH_ready (rs := [5]) (by kernel_rfl) (by simp) ?_
        refine AllReadyH.cons (o := ⟨some 43, _, _, _, _, _⟩) rfl (fun K hK => ?_) AllReadyH.nil
        go_simp
        refine (HREC.out X8 HA8.out.st).mono ?_
        rintro _ X9 ⟨rfl, hs9, hf9⟩
        (try go_wp2_with fail)
        have HA9 := Lib.hid (HA8.out.go hbm hf9 hs9)
        refine hK.out _ _ (⟨HA9.out.cell (.tail _ (.tail _ (.tail _ (.tail _ (.head _))))) 0, HA9.out.cell (.tail _ (.tail _ (.tail _ (.tail _ (.head _))))) 1, HCN.out _ _ HA9.out.st⟩) (fun hS => ?_)
        clear hK K
        try simp only [Act.put, putA, putZ, putS]
        clear hf9 hs9
        refine wpAnyH_ready (rs := [15]) (by kernel_rfl) (by simp) ?_
        refine AllReadyH.cons (o := ⟨some 53, _, _, _, _, _⟩) rfl (fun K hK => ?_) AllReadyH.nil
        go_simp
        refine (minus_any a0 a1 na nz X9 (by omega) (by omega) (by omega) (by omega)).mono ?_
        rintro _ X10 ⟨rfl, hb10⟩
        (try go_wp2_with fail)
        have HA10 := Lib.hid (HA9.out.below hbm hb10)
        refine hK.out _ _ (⟨HA10.out.cell (.tail _ (.tail _ (.tail _ (.tail _ (.head _))))) 0, HA10.out.cell (.tail _ (.tail _ (.tail _ (.tail _ (.head _))))) 1, HCN.out _ _ HA10.out.st⟩) (fun hS => ?_)
        clear hK K
        try simp only [Act.put, putA, putZ, putS]
        clear hb10
        refine wpAnyH_ready (rs := [17]) (by kernel_rfl) (by simp) ?_
        refine AllReadyH.cons (o := ⟨none, _, _, _, _, _⟩) rfl (fun K hK => ?_) AllReadyH.nil
        have e0 := HA10.out.cell (.head _) 0
        have e1 := HA10.out.cell (.head _) 1
        have f0 := HA10.out.thaw (.head _) 0
        have f1 := HA10.out.thaw (.head _) 1
        have HA11 := Lib.hid (AF.set2 HSW.out HA10.out (.head _) (.int .i64 (a0 - nz)) (.int .i64 (a1 - na)) (L' := [(w.heap.size, #[.int .i64 c, .int .i64 g], 39), (w.heap.size + 1, #[.int .i64 s0, .int .i64 s1], 29), (w.heap.size + 2, #[.int .i64 0, .int .i64 0], 29), (BN, #[.int .i64 c1, .int .i64 nx], 39)]) (List.forall_mem_cons.2 ⟨⟨show w.heap.size ≠ G8 by omega, (.tail _ (.head _))⟩, List.forall_mem_cons.2 ⟨⟨show w.heap.size + 1 ≠ G8 by omega, (.tail _ (.tail _ (.head _)))⟩, List.forall_mem_cons.2 ⟨⟨show w.heap.size + 2 ≠ G8 by omega, (.tail _ (.tail _ (.tail _ (.head _))))⟩, List.forall_mem_cons.2 ⟨⟨show BN ≠ G8 by omega, (.tail _ (.tail _ (.tail _ (.tail _ (.head _)))))⟩, List.forall_mem_nil _⟩⟩⟩⟩))
        go_simp
        refine hK.out _ _ (⟨HA11.out.cell (.tail _ (.tail _ (.tail _ (.tail _ (.head _))))) 0, HA11.out.cell (.tail _ (.tail _ (.tail _ (.tail _ (.head _))))) 1, HCN.out _ _ HA11.out.st⟩) (fun hS => ?_)
        clear hK K
        (try simp only [Act.put])
        clear e0 e1 f0 f1
        refine wpAnyH_done (by kernel_rfl) ?_ _
        go_wp2_with fail
        go_meet
        exact ⟨G8, rfl, HA11.out.sub (List.forall_mem_cons.2 ⟨(.tail _ (.head _)), List.forall_mem_cons.2 ⟨(.tail _ (.tail _ (.head _))), List.forall_mem_cons.2 ⟨(.tail _ (.tail _ (.tail _ (.head _)))), List.forall_mem_cons.2 ⟨(.tail _ (.tail _ (.tail _ (.tail _ (.head _))))), List.forall_mem_cons.2 ⟨(.head _), List.forall_mem_nil _⟩⟩⟩⟩⟩), by omega⟩
      refine AllReadyH.cons (o := ⟨some 8, _, _, _, _, _⟩) rfl (fun K hK => ?_) AllReadyH.nil
      go_simp
      have HA12 := Lib.hid (HAX.out.alloc hbm #[.int .i64 0, .int .i64 0] 29)
      have hn12K := (HAX.out.lt (.head _)).2
      have hn12S := (HAX.out.lt (.tail _ (.head _))).2
      have hn12O := (HAX.out.lt (.tail _ (.tail _ (.head _)))).2
      have hn12N := (HAX.out.lt (.tail _ (.tail _ (.tail _ (.head _))))).2
      have hn12_ := HAX.out.fr.size
      refine hK.out _ _ (⟨HA12.out.cell (.tail _ (.tail _ (.tail _ (.tail _ (.head _))))) 0, HA12.out.cell (.tail _ (.tail _ (.tail _ (.tail _ (.head _))))) 1, HCN.out _ _ HA12.out.st⟩) (fun hS => ?_)
      clear hK K
      try simp only [Act.put, putA, putZ, putS]
      generalize X.heap.size = G12 at *
      generalize (X.alloc (.cells #[.int .i64 0, .int .i64 0] 29)) = X12 at *
      refine wpAnyH_ready (rs := [4]) (by kernel_rfl) (by simp) ?_
      refine AllReadyH.cons (o := ⟨some 42, _, _, _, _, _⟩) rfl (fun K hK => ?_) AllReadyH.nil
      go_simp
      refine (HUP.out X12 HA12.out.st).mono ?_
      rintro _ X13 ⟨rfl, hs13, hf13⟩
      (try go_wp2_with fail)
      have HA13 := Lib.hid (HA12.out.go hbm hf13 hs13)
      refine hK.out _ _ (⟨HA13.out.cell (.tail _ (.tail _ (.tail _ (.tail _ (.head _))))) 0, HA13.out.cell (.tail _ (.tail _ (.tail _ (.tail _ (.head _))))) 1, HCN.out _ _ HA13.out.st⟩) (fun hS => ?_)
      clear hK K
      try simp only [Act.put, putA, putZ, putS]
      clear hf13 hs13
      refine wpAnyH_ready (rs := [5]) (by kernel_rfl) (by simp) ?_
      refine AllReadyH.cons (o := ⟨some 43, _, _, _, _, _⟩) rfl (fun K hK => ?_) AllReadyH.nil
      go_simp
      refine (HREC.out X13 HA13.out.st).mono ?_
      rintro _ X14 ⟨rfl, hs14, hf14⟩
      (try go_wp2_with fail)
      have HA14 := Lib.hid (HA13.out.go hbm hf14 hs14)
      refine hK.out _ _ (⟨HA14.out.cell (.tail _ (.tail _ (.tail _ (.tail _ (.head _))))) 0, HA14.out.cell (.tail _ (.tail _ (.tail _ (.tail _ (.head _))))) 1, HCN.out _ _ HA14.out.st⟩) (fun hS => ?_)
      clear hK K
      try simp only [Act.put, putA, putZ, putS]
      clear hf14 hs14
      refine wpAnyH_ready (rs := [15]) (by kernel_rfl) (by simp) ?_
      refine AllReadyH.cons (o := ⟨some 53, _, _, _, _, _⟩) rfl (fun K hK => ?_) AllReadyH.nil
      go_simp
      refine (minus_any a0 a1 na nz X14 (by omega) (by omega) (by omega) (by omega)).mono ?_
      rintro _ X15 ⟨rfl, hb15⟩
      (try go_wp2_with fail)
      have HA15 := Lib.hid (HA14.out.below hbm hb15)
      refine hK.out _ _ (⟨HA15.out.cell (.tail _ (.tail _ (.tail _ (.tail _ (.head _))))) 0, HA15.out.cell (.tail _ (.tail _ (.tail _ (.tail _ (.head _))))) 1, HCN.out _ _ HA15.out.st⟩) (fun hS => ?_)
      clear hK K
      try simp only [Act.put, putA, putZ, putS]
      clear hb15
      refine wpAnyH_ready (rs := [17]) (by kernel_rfl) (by simp) ?_
      refine AllReadyH.cons (o := ⟨none, _, _, _, _, _⟩) rfl (fun K hK => ?_) AllReadyH.nil
      have e0 := HA15.out.cell (.head _) 0
      have e1 := HA15.out.cell (.head _) 1
      have f0 := HA15.out.thaw (.head _) 0
      have f1 := HA15.out.thaw (.head _) 1
      have HA16 := Lib.hid (AF.set2 HSW.out HA15.out (.head _) (.int .i64 (a0 - nz)) (.int .i64 (a1 - na)) (L' := [(w.heap.size, #[.int .i64 c, .int .i64 g], 39), (w.heap.size + 1, #[.int .i64 s0, .int .i64 s1], 29), (w.heap.size + 2, #[.int .i64 0, .int .i64 0], 29), (BN, #[.int .i64 c1, .int .i64 nx], 39)]) (List.forall_mem_cons.2 ⟨⟨show w.heap.size ≠ G12 by omega, (.tail _ (.head _))⟩, List.forall_mem_cons.2 ⟨⟨show w.heap.size + 1 ≠ G12 by omega, (.tail _ (.tail _ (.head _)))⟩, List.forall_mem_cons.2 ⟨⟨show w.heap.size + 2 ≠ G12 by omega, (.tail _ (.tail _ (.tail _ (.head _))))⟩, List.forall_mem_cons.2 ⟨⟨show BN ≠ G12 by omega, (.tail _ (.tail _ (.tail _ (.tail _ (.head _)))))⟩, List.forall_mem_nil _⟩⟩⟩⟩))
      go_simp
      refine hK.out _ _ (⟨HA16.out.cell (.tail _ (.tail _ (.tail _ (.tail _ (.head _))))) 0, HA16.out.cell (.tail _ (.tail _ (.tail _ (.tail _ (.head _))))) 1, HCN.out _ _ HA16.out.st⟩) (fun hS => ?_)
      clear hK K
      (try simp only [Act.put])
      clear e0 e1 f0 f1
      refine wpAnyH_done (by kernel_rfl) ?_ _
      go_wp2_with fail
      go_meet
      exact ⟨G12, rfl, HA16.out.sub (List.forall_mem_cons.2 ⟨(.tail _ (.head _)), List.forall_mem_cons.2 ⟨(.tail _ (.tail _ (.head _))), List.forall_mem_cons.2 ⟨(.tail _ (.tail _ (.tail _ (.head _)))), List.forall_mem_cons.2 ⟨(.tail _ (.tail _ (.tail _ (.tail _ (.head _))))), List.forall_mem_cons.2 ⟨(.head _), List.forall_mem_nil _⟩⟩⟩⟩⟩), by omega⟩
    case rest =>
      rename_i wc0
      obtain ⟨GN, rfl, haf, hGN⟩ := hcut
      have HA4 := Lib.hid haf
      clear haf HA3 HCN
      clear HUP HREC HNZ
      obtain ⟨p0, p1, HP⟩ : ∃ p0 p1, Hid (minusR (a0, a1) (t.n nx) = (p0, p1) ∧ p0 = a0 - nz ∧ p1 = a1 - na) := HMI.out
      obtain ⟨-, h1, h2⟩ := HP.out
      rw [← h1, ← h2] at HA4
      clear h1 h2 ha0 ha01 ha10 ha11 hna0 hna1 hnz0 hnz1 HMI
      have k0 : wc.cell? ⟨BN, 0, none⟩ = some (.int .i64 c1) := HA4.out.cell (.tail _ (.tail _ (.tail _ (.head _)))) 0
      have k1 : wc.cell? ⟨BN, 1, none⟩ = some (.int .i64 nx) := HA4.out.cell (.tail _ (.tail _ (.tail _ (.head _)))) 1
      go_wp2_with (go_at_call 95; refine (HSO.out _ _ HA4.out.st).mono ?_; rintro _ w1 ⟨v, rfl, ho1, hb1⟩; have HO1 := Lib.hid ho1; have HA5 := Lib.hid (HA4.out.below hbm hb1); clear ho1 hb1 k0 k1; obtain ⟨va, vc, rfl⟩ := own_slice' HO1.out)
      clear HSO HA4
      go_loopg [58] l.length (fun f i wr => ∃ (k : Nat) (a b : Int), f + k = l.length ∧ i = .int .i64 k ∧ AF w wr B bm (n + 85 + M + k * 85) x t out [(w.heap.size, #[.int .i64 c, .int .i64 g], 39), (w.heap.size + 1, #[.int .i64 s0, .int .i64 s1], 29), (w.heap.size + 2, #[.int .i64 0, .int .i64 0], 29), (BN, #[.int .i64 c1, .int .i64 nx], 39), (GN, #[.int .i64 a, .int .i64 b], 29)] ∧ subR t g nx (t.up out c) (minusR (a0, a1) (t.n nx)) k = (a, b) ∧ wr.ownsRow 0 39 2 (.slice va l.length vc) l.length (flat l))
      case atStart => exact ⟨0, p0, p1, rfl, rfl, by rw [Nat.zero_mul]; exact HA5.out, by rw [subR_zero]; exact HP.out.1, HO1.out⟩
      case round =>
        clear HA5 HO1 HP
        obtain ⟨k, a, b, hfk, rfl, haf, hac, how⟩ := hrel
        have HAF := Lib.hid haf; have HAC := Lib.hid hac; have HOW := Lib.hid how; have HFK := Lib.hid hfk
        have hkl : k ≤ l.length := by omega
        have hab := HBD.out k hkl
        rw [hac] at hab
        simp only at hab
        obtain ⟨hab0, hab1, hab2, hab3⟩ := hab
        clear haf hac how hfk
        by_cases hlt : k < l.length
        · obtain ⟨q, hqk, hq, hlk⟩ := HAT.out k hlt
          obtain ⟨gb, rfl, hgb, kc0, kc1⟩ := cells_at HOW.out hlt
          rw [hlk] at kc0 kc1
          simp only at kc0 kc1
          have HQ := Lib.hid hq
          have hqn : q < t.ng := by rw [← hq]; exact srcG_lt hnxl hqk
          have HQN := Lib.hid hqn
          clear hq hlk hqn
          have hGE : GN < wr.heap.size := (HAF.out.lt (.tail _ (.tail _ (.tail _ (.tail _ (.head _))))) ).2
          have hBE : w.heap.size + 3 ≤ wr.heap.size := by omega
          have HAE := Lib.hid (HAF.out.alloc hbm #[.int .i64 c, .int .i64 q] 39)
          have HOE : Hid ((wr.alloc (.cells #[.int .i64 c, .int .i64 q] 39)).ownsRow 0 39 2 (.slice (some ⟨gb, 0, none⟩) l.length vc) l.length (flat l)) := HOW.out.alloc _
          have kk0 : (wr.alloc (.cells #[.int .i64 c, .int .i64 q] 39)).cell? ⟨w.heap.size, 0, none⟩ = some (.int .i64 c) := HAE.out.cell (.tail _ (.head _)) 0
          have kk1 : (wr.alloc (.cells #[.int .i64 c, .int .i64 q] 39)).cell? ⟨w.heap.size, 1, none⟩ = some (.int .i64 g) := HAE.out.cell (.tail _ (.head _)) 1
          by_cases hqg : q = g
          · have hneq : ∀ W : World, (binOp .neq 39 (.agg #[.int .i64 c, .int .i64 q]) (.agg #[.int .i64 c, .int .i64 g])).run Try.prog W = .ok (.bool false) W := fun W => by rw [neq_cell]; simp [hqg]
            have HQG := Lib.hid hqg
            clear hqg
            go_wp2_with fail
            go_roundg (gk - 1)
            case measure => have := HFK.out; omega
            case rel => exact ⟨k + 1, a, b, by have := HFK.out; omega, by go_num, (HAE.out.sub (List.forall_mem_cons.2 ⟨(.tail _ (.head _)), List.forall_mem_cons.2 ⟨(.tail _ (.tail _ (.head _))), List.forall_mem_cons.2 ⟨(.tail _ (.tail _ (.tail _ (.head _)))), List.forall_mem_cons.2 ⟨(.tail _ (.tail _ (.tail _ (.tail _ (.head _))))), List.forall_mem_cons.2 ⟨(.tail _ (.tail _ (.tail _ (.tail _ (.tail _ (.head _)))))), List.forall_mem_nil _⟩⟩⟩⟩⟩)).mono (by omega), by rw [subR_succ hqk, HQ.out, if_pos HQG.out]; exact HAC.out, HOE.out⟩
          · have hneq : ∀ W : World, (binOp .neq 39 (.agg #[.int .i64 c, .int .i64 q]) (.agg #[.int .i64 c, .int .i64 g])).run Try.prog W = .ok (.bool true) W := fun W => by rw [neq_cell]; simp; omega
            have HQG := Lib.hid hqg
            clear hqg
            obtain ⟨la, lb, HLV, hla0, hla1, hlb0, hlb1, HSQ⟩ : ∃ la lb, Hid (livingR (t.r (q + 1)) (t.up out c q) = (la, lb)) ∧ -1 ≤ la ∧ la ≤ 1048576 ∧ 0 ≤ lb ∧ lb ≤ 1048576 ∧ Hid (∀ X, St X B bm (n + 85 + M + k * 85) x t out → Calls Try.prog 96 #[.pointer (some ⟨B, 0, none⟩), .agg #[.int .i64 c, .int .i64 q]] X (GivesR X B bm (n + 85 + M + k * 85 + 85) x t out (la, lb))) := by
              have he := HNE.out q HQN.out
              have f2 := full_bd he
              have hq1 := HQN.out
              have hli := living_bd (HG.out.r (q + 1) (by have := HG.out.nr; omega)) f2.1 f2.2
              exact ⟨_, _, rfl, hli.1, hli.2.1, hli.2.2.1, hli.2.2.2, fun X hX => survivors_all HG.out B bm x out c (by omega) q HQN.out he _ (by have := HN4.out; omega) X hX⟩
            unfold GivesR at HSQ
            simp only at HSQ
            go_wp2_with fail
            clear kk0 kk1 kc0 kc1 hneq
            have HAX : Hid (AF w (wr.alloc (.cells #[.int .i64 c, .int .i64 q] 39)).drew B bm (n + 85 + M + k * 85) x t out [(wr.heap.size, #[.int .i64 c, .int .i64 q], 39), (w.heap.size, #[.int .i64 c, .int .i64 g], 39), (w.heap.size + 1, #[.int .i64 s0, .int .i64 s1], 29), (w.heap.size + 2, #[.int .i64 0, .int .i64 0], 29), (BN, #[.int .i64 c1, .int .i64 nx], 39), (GN, #[.int .i64 a, .int .i64 b], 29)]) := HAE.out.below hbm ((Below.refl _ _).drew)
            have HOX : Hid ((wr.alloc (.cells #[.int .i64 c, .int .i64 q] 39)).drew.ownsRow 0 39 2 (.slice (some ⟨gb, 0, none⟩) l.length vc) l.length (flat l)) := HOE.out
            refine wp_region_held_drew (S := fun _ => True) (by kernel_rfl) trivial (fun hS => ?_)
            clear HAE HOE HAF HOW
            generalize (wr.alloc (.cells #[.int .i64 c, .int .i64 q] 39)).drew = X at *
            refine tH 1 (oi := ⟨_, _, _, _, _, _⟩) (v := ?_) rfl (by kernel_rfl) (by rfl) (fun _ _ _ h => h) hS ?_ ?_
            rotate_left
            · intro W' hSw; go_simp; try with_reducible rfl
            try simp only [Act.put, putA, putZ, putS]
            refine wpAnyH_ready (rs := [0, 2]) (by kernel_rfl) (by simp) ?_
            refine AllReadyH.cons (o := ⟨some 65, _, _, _, _, _⟩) rfl (fun K hK => ?_) ?_
            ·
              have r0 := HAX.out.cell (.tail _ (.tail _ (.tail _ (.tail _ (.tail _ (.head _)))))) 0
              have r1 := HAX.out.cell (.tail _ (.tail _ (.tail _ (.tail _ (.tail _ (.head _)))))) 1
              go_simp
              refine hK.out _ _ (trivial) (fun hS => ?_)
              clear hK K
              try simp only [Act.put, putA, putZ, putS]
              clear r0 r1
              refine wpAnyH_ready (rs := [2]) (by kernel_rfl) (by simp) ?_
              refine AllReadyH.cons (o := ⟨some 67, _, _, _, _, _⟩) rfl (fun K hK => ?_) AllReadyH.nil
              have r0 := HAX.out.cell (.head _) 0
              have r1 := HAX.out.cell (.head _) 1
              go_simp
              refine hK.out _ _ (trivial) (fun hS => ?_)
              clear hK K
              try simp only [Act.put, putA, putZ, putS]
              clear r0 r1
              refine wpAnyH_ready (rs := [3]) (by kernel_rfl) (by simp) ?_
              refine AllReadyH.cons (o := ⟨some 68, _, _, _, _, _⟩) rfl (fun K hK => ?_) AllReadyH.nil
              go_simp
              refine (HSQ.out X HAX.out.st).mono ?_
              rintro _ X2 ⟨rfl, hs2, hf2⟩
              (try go_wp2_with fail)
              have HW2_0 : Hid (X2.ownsRow 0 39 2 (.slice (some ⟨gb, 0, none⟩) l.length vc) l.length (flat l)) := own_fr HOX.out (hf2) (fun g' cur _ _ hc e => by subst e; obtain ⟨es, kk, hm⟩ := HAX.out.st.cm.mp; rw [hm] at hc; cases hc)
              have HA2 := Lib.hid (HAX.out.go hbm hf2 hs2)
              refine hK.out _ _ (trivial) (fun hS => ?_)
              clear hK K
              try simp only [Act.put, putA, putZ, putS]
              clear hf2 hs2
              refine wpAnyH_ready (rs := [4]) (by kernel_rfl) (by simp) ?_
              refine AllReadyH.cons (o := ⟨some 69, _, _, _, _, _⟩) rfl (fun K hK => ?_) AllReadyH.nil
              go_simp
              refine (minus_any a b la lb X2 (by omega) (by omega) (by omega) (by omega)).mono ?_
              rintro _ X3 ⟨rfl, hb3⟩
              (try go_wp2_with fail)
              have HW3_0 : Hid (X3.ownsRow 0 39 2 (.slice (some ⟨gb, 0, none⟩) l.length vc) l.length (flat l)) := own_fr HW2_0.out (Fr.below hb3 (fun _ => False)) (fun _ _ _ _ _ h => h)
              have HA3 := Lib.hid (HA2.out.below hbm hb3)
              refine hK.out _ _ (trivial) (fun hS => ?_)
              clear hK K
              try simp only [Act.put, putA, putZ, putS]
              clear hb3
              refine wpAnyH_ready (rs := [5]) (by kernel_rfl) (by simp) ?_
              refine AllReadyH.cons (o := ⟨none, _, _, _, _, _⟩) rfl (fun K hK => ?_) AllReadyH.nil
              have e0 := HA3.out.cell (.tail _ (.tail _ (.tail _ (.tail _ (.tail _ (.head _)))))) 0
              have e1 := HA3.out.cell (.tail _ (.tail _ (.tail _ (.tail _ (.tail _ (.head _)))))) 1
              have f0 := HA3.out.thaw (.tail _ (.tail _ (.tail _ (.tail _ (.tail _ (.head _)))))) 0
              have f1 := HA3.out.thaw (.tail _ (.tail _ (.tail _ (.tail _ (.tail _ (.head _)))))) 1
              have HW4_0 : Hid (((X3.setCell ⟨GN, 0, none⟩ (.int .i64 (a - lb))).setCell ⟨GN, 1, none⟩ (.int .i64 (b - la))).ownsRow 0 39 2 (.slice (some ⟨gb, 0, none⟩) l.length vc) l.length (flat l)) := own_fr HW3_0.out ((Go.Proofs.Ytjaoflfophcibaa.set2 (HA3.out.bk _ _ _ (.tail _ (.tail _ (.tail _ (.tail _ (.tail _ (.head _))))))).2 (.int .i64 (a - lb)) (.int .i64 (b - la))).2) (fun g' cur _ _ hc e => by subst e; rw [(HA3.out.bk _ _ _ (.tail _ (.tail _ (.tail _ (.tail _ (.tail _ (.head _))))))).2] at hc; cases hc)
              have HA4 := Lib.hid (AF.set2 HSW.out HA3.out (.tail _ (.tail _ (.tail _ (.tail _ (.tail _ (.head _)))))) (.int .i64 (a - lb)) (.int .i64 (b - la)) (L' := [(wr.heap.size, #[.int .i64 c, .int .i64 q], 39), (w.heap.size, #[.int .i64 c, .int .i64 g], 39), (w.heap.size + 1, #[.int .i64 s0, .int .i64 s1], 29), (w.heap.size + 2, #[.int .i64 0, .int .i64 0], 29), (BN, #[.int .i64 c1, .int .i64 nx], 39)]) (List.forall_mem_cons.2 ⟨⟨show wr.heap.size ≠ GN by omega, (.head _)⟩, List.forall_mem_cons.2 ⟨⟨show w.heap.size ≠ GN by omega, (.tail _ (.head _))⟩, List.forall_mem_cons.2 ⟨⟨show w.heap.size + 1 ≠ GN by omega, (.tail _ (.tail _ (.head _)))⟩, List.forall_mem_cons.2 ⟨⟨show w.heap.size + 2 ≠ GN by omega, (.tail _ (.tail _ (.tail _ (.head _))))⟩, List.forall_mem_cons.2 ⟨⟨show BN ≠ GN by omega, (.tail _ (.tail _ (.tail _ (.tail _ (.head _)))))⟩, List.forall_mem_nil _⟩⟩⟩⟩⟩))
              go_simp
              refine hK.out _ _ (trivial) (fun hS => ?_)
              clear hK K
              (try simp only [Act.put])
              clear e0 e1 f0 f1
              refine wpAnyH_done (by kernel_rfl) ?_ _
              go_wp2_with fail
              go_roundg (gk - 1)
              case measure => have := HFK.out; omega
              case rel => exact ⟨k + 1, a - lb, b - la, by have := HFK.out; omega, by go_num, (HA4.out.sub (List.forall_mem_cons.2 ⟨(.tail _ (.tail _ (.head _))), List.forall_mem_cons.2 ⟨(.tail _ (.tail _ (.tail _ (.head _)))), List.forall_mem_cons.2 ⟨(.tail _ (.tail _ (.tail _ (.tail _ (.head _))))), List.forall_mem_cons.2 ⟨(.tail _ (.tail _ (.tail _ (.tail _ (.tail _ (.head _)))))), List.forall_mem_cons.2 ⟨(.head _), List.forall_mem_nil _⟩⟩⟩⟩⟩)).mono (by omega), by rw [subR_succ hqk, HQ.out, if_neg HQG.out, HAC.out, HLV.out]; rfl, HW4_0.out⟩
            refine AllReadyH.cons (o := ⟨some 67, _, _, _, _, _⟩) rfl (fun K hK => ?_) AllReadyH.nil
            have r0 := HAX.out.cell (.head _) 0
            have r1 := HAX.out.cell (.head _) 1
            go_simp
            refine hK.out _ _ (trivial) (fun hS => ?_)
            clear hK K
            try simp only [Act.put, putA, putZ, putS]
            clear r0 r1
            refine wpAnyH_ready (rs := [0, 3]) (by kernel_rfl) (by simp) ?_
            refine AllReadyH.cons (o := ⟨some 65, _, _, _, _, _⟩) rfl (fun K hK => ?_) ?_
            ·
              have r0 := HAX.out.cell (.tail _ (.tail _ (.tail _ (.tail _ (.tail _ (.head _)))))) 0
              have r1 := HAX.out.cell (.tail _ (.tail _ (.tail _ (.tail _ (.tail _ (.head _)))))) 1
              go_simp
              refine hK.out _ _ (trivial) (fun hS => ?_)
              clear hK K
              try simp only [Act.put, putA, putZ, putS]
              clear r0 r1
              refine wpAnyH_ready (rs := [3]) (by kernel_rfl) (by simp) ?_
              refine AllReadyH.cons (o := ⟨some 68, _, _, _, _, _⟩) rfl (fun K hK => ?_) AllReadyH.nil
              go_simp
              refine (HSQ.out X HAX.out.st).mono ?_
              rintro _ X7 ⟨rfl, hs7, hf7⟩
              (try go_wp2_with fail)
              have HW7_0 : Hid (X7.ownsRow 0 39 2 (.slice (some ⟨gb, 0, none⟩) l.length vc) l.length (flat l)) := own_fr HOX.out (hf7) (fun g' cur _ _ hc e => by subst e; obtain ⟨es, kk, hm⟩ := HAX.out.st.cm.mp; rw [hm] at hc; cases hc)
              have HA7 := Lib.hid (HAX.out.go hbm hf7 hs7)
              refine hK.out _ _ (trivial) (fun hS => ?_)
              clear hK K
              try simp only [Act.put, putA, putZ, putS]
              clear hf7 hs7
              refine wpAnyH_ready (rs := [4]) (by kernel_rfl) (by simp) ?_
              refine AllReadyH.cons (o := ⟨some 69, _, _, _, _, _⟩) rfl (fun K hK => ?_) AllReadyH.nil
              go_simp
              refine (minus_any a b la lb X7 (by omega) (by omega) (by omega) (by omega)).mono ?_
              rintro _ X8 ⟨rfl, hb8⟩
              (try go_wp2_with fail)
              have HW8_0 : Hid (X8.ownsRow 0 39 2 (.slice (some ⟨gb, 0, none⟩) l.length vc) l.length (flat l)) := own_fr HW7_0.out (Fr.below hb8 (fun _ => False)) (fun _ _ _ _ _ h => h)
              have HA8 := Lib.hid (HA7.out.below hbm hb8)
              refine hK.out _ _ (trivial) (fun hS => ?_)
              clear hK K
              try simp only [Act.put, putA, putZ, putS]
              clear hb8
              refine wpAnyH_ready (rs := [5]) (by kernel_rfl) (by simp) ?_
              refine AllReadyH.cons (o := ⟨none, _, _, _, _, _⟩) rfl (fun K hK => ?_) AllReadyH.nil
              have e0 := HA8.out.cell (.tail _ (.tail _ (.tail _ (.tail _ (.tail _ (.head _)))))) 0
              have e1 := HA8.out.cell (.tail _ (.tail _ (.tail _ (.tail _ (.tail _ (.head _)))))) 1
              have f0 := HA8.out.thaw (.tail _ (.tail _ (.tail _ (.tail _ (.tail _ (.head _)))))) 0
              have f1 := HA8.out.thaw (.tail _ (.tail _ (.tail _ (.tail _ (.tail _ (.head _)))))) 1
              have HW9_0 : Hid (((X8.setCell ⟨GN, 0, none⟩ (.int .i64 (a - lb))).setCell ⟨GN, 1, none⟩ (.int .i64 (b - la))).ownsRow 0 39 2 (.slice (some ⟨gb, 0, none⟩) l.length vc) l.length (flat l)) := own_fr HW8_0.out ((Go.Proofs.Ytjaoflfophcibaa.set2 (HA8.out.bk _ _ _ (.tail _ (.tail _ (.tail _ (.tail _ (.tail _ (.head _))))))).2 (.int .i64 (a - lb)) (.int .i64 (b - la))).2) (fun g' cur _ _ hc e => by subst e; rw [(HA8.out.bk _ _ _ (.tail _ (.tail _ (.tail _ (.tail _ (.tail _ (.head _))))))).2] at hc; cases hc)
              have HA9 := Lib.hid (AF.set2 HSW.out HA8.out (.tail _ (.tail _ (.tail _ (.tail _ (.tail _ (.head _)))))) (.int .i64 (a - lb)) (.int .i64 (b - la)) (L' := [(wr.heap.size, #[.int .i64 c, .int .i64 q], 39), (w.heap.size, #[.int .i64 c, .int .i64 g], 39), (w.heap.size + 1, #[.int .i64 s0, .int .i64 s1], 29), (w.heap.size + 2, #[.int .i64 0, .int .i64 0], 29), (BN, #[.int .i64 c1, .int .i64 nx], 39)]) (List.forall_mem_cons.2 ⟨⟨show wr.heap.size ≠ GN by omega, (.head _)⟩, List.forall_mem_cons.2 ⟨⟨show w.heap.size ≠ GN by omega, (.tail _ (.head _))⟩, List.forall_mem_cons.2 ⟨⟨show w.heap.size + 1 ≠ GN by omega, (.tail _ (.tail _ (.head _)))⟩, List.forall_mem_cons.2 ⟨⟨show w.heap.size + 2 ≠ GN by omega, (.tail _ (.tail _ (.tail _ (.head _))))⟩, List.forall_mem_cons.2 ⟨⟨show BN ≠ GN by omega, (.tail _ (.tail _ (.tail _ (.tail _ (.head _)))))⟩, List.forall_mem_nil _⟩⟩⟩⟩⟩))
              go_simp
              refine hK.out _ _ (trivial) (fun hS => ?_)
              clear hK K
              (try simp only [Act.put])
              clear e0 e1 f0 f1
              refine wpAnyH_done (by kernel_rfl) ?_ _
              go_wp2_with fail
              go_roundg (gk - 1)
              case measure => have := HFK.out; omega
              case rel => exact ⟨k + 1, a - lb, b - la, by have := HFK.out; omega, by go_num, (HA9.out.sub (List.forall_mem_cons.2 ⟨(.tail _ (.tail _ (.head _))), List.forall_mem_cons.2 ⟨(.tail _ (.tail _ (.tail _ (.head _)))), List.forall_mem_cons.2 ⟨(.tail _ (.tail _ (.tail _ (.tail _ (.head _))))), List.forall_mem_cons.2 ⟨(.tail _ (.tail _ (.tail _ (.tail _ (.tail _ (.head _)))))), List.forall_mem_cons.2 ⟨(.head _), List.forall_mem_nil _⟩⟩⟩⟩⟩)).mono (by omega), by rw [subR_succ hqk, HQ.out, if_neg HQG.out, HAC.out, HLV.out]; rfl, HW9_0.out⟩
            refine AllReadyH.cons (o := ⟨some 68, _, _, _, _, _⟩) rfl (fun K hK => ?_) AllReadyH.nil
            go_simp
            refine (HSQ.out X HAX.out.st).mono ?_
            rintro _ X10 ⟨rfl, hs10, hf10⟩
            (try go_wp2_with fail)
            have HW10_0 : Hid (X10.ownsRow 0 39 2 (.slice (some ⟨gb, 0, none⟩) l.length vc) l.length (flat l)) := own_fr HOX.out (hf10) (fun g' cur _ _ hc e => by subst e; obtain ⟨es, kk, hm⟩ := HAX.out.st.cm.mp; rw [hm] at hc; cases hc)
            have HA10 := Lib.hid (HAX.out.go hbm hf10 hs10)
            refine hK.out _ _ (trivial) (fun hS => ?_)
            clear hK K
            try simp only [Act.put, putA, putZ, putS]
            clear hf10 hs10
            refine wpAnyH_ready (rs := [0]) (by kernel_rfl) (by simp) ?_
            refine AllReadyH.cons (o := ⟨some 65, _, _, _, _, _⟩) rfl (fun K hK => ?_) AllReadyH.nil
            have r0 := HA10.out.cell (.tail _ (.tail _ (.tail _ (.tail _ (.tail _ (.head _)))))) 0
            have r1 := HA10.out.cell (.tail _ (.tail _ (.tail _ (.tail _ (.tail _ (.head _)))))) 1
            go_simp
            refine hK.out _ _ (trivial) (fun hS => ?_)
            clear hK K
            try simp only [Act.put, putA, putZ, putS]
            clear r0 r1
            refine wpAnyH_ready (rs := [4]) (by kernel_rfl) (by simp) ?_
            refine AllReadyH.cons (o := ⟨some 69, _, _, _, _, _⟩) rfl (fun K hK => ?_) AllReadyH.nil
            go_simp
            refine (minus_any a b la lb X10 (by omega) (by omega) (by omega) (by omega)).mono ?_
            rintro _ X12 ⟨rfl, hb12⟩
            (try go_wp2_with fail)
            have HW12_0 : Hid (X12.ownsRow 0 39 2 (.slice (some ⟨gb, 0, none⟩) l.length vc) l.length (flat l)) := own_fr HW10_0.out (Fr.below hb12 (fun _ => False)) (fun _ _ _ _ _ h => h)
            have HA12 := Lib.hid (HA10.out.below hbm hb12)
            refine hK.out _ _ (trivial) (fun hS => ?_)
            clear hK K
            try simp only [Act.put, putA, putZ, putS]
            clear hb12
            refine wpAnyH_ready (rs := [5]) (by kernel_rfl) (by simp) ?_
            refine AllReadyH.cons (o := ⟨none, _, _, _, _, _⟩) rfl (fun K hK => ?_) AllReadyH.nil
            have e0 := HA12.out.cell (.tail _ (.tail _ (.tail _ (.tail _ (.tail _ (.head _)))))) 0
            have e1 := HA12.out.cell (.tail _ (.tail _ (.tail _ (.tail _ (.tail _ (.head _)))))) 1
            have f0 := HA12.out.thaw (.tail _ (.tail _ (.tail _ (.tail _ (.tail _ (.head _)))))) 0
            have f1 := HA12.out.thaw (.tail _ (.tail _ (.tail _ (.tail _ (.tail _ (.head _)))))) 1
            have HW13_0 : Hid (((X12.setCell ⟨GN, 0, none⟩ (.int .i64 (a - lb))).setCell ⟨GN, 1, none⟩ (.int .i64 (b - la))).ownsRow 0 39 2 (.slice (some ⟨gb, 0, none⟩) l.length vc) l.length (flat l)) := own_fr HW12_0.out ((Go.Proofs.Ytjaoflfophcibaa.set2 (HA12.out.bk _ _ _ (.tail _ (.tail _ (.tail _ (.tail _ (.tail _ (.head _))))))).2 (.int .i64 (a - lb)) (.int .i64 (b - la))).2) (fun g' cur _ _ hc e => by subst e; rw [(HA12.out.bk _ _ _ (.tail _ (.tail _ (.tail _ (.tail _ (.tail _ (.head _))))))).2] at hc; cases hc)
            have HA13 := Lib.hid (AF.set2 HSW.out HA12.out (.tail _ (.tail _ (.tail _ (.tail _ (.tail _ (.head _)))))) (.int .i64 (a - lb)) (.int .i64 (b - la)) (L' := [(wr.heap.size, #[.int .i64 c, .int .i64 q], 39), (w.heap.size, #[.int .i64 c, .int .i64 g], 39), (w.heap.size + 1, #[.int .i64 s0, .int .i64 s1], 29), (w.heap.size + 2, #[.int .i64 0, .int .i64 0], 29), (BN, #[.int .i64 c1, .int .i64 nx], 39)]) (List.forall_mem_cons.2 ⟨⟨show wr.heap.size ≠ GN by omega, (.head _)⟩, List.forall_mem_cons.2 ⟨⟨show w.heap.size ≠ GN by omega, (.tail _ (.head _))⟩, List.forall_mem_cons.2 ⟨⟨show w.heap.size + 1 ≠ GN by omega, (.tail _ (.tail _ (.head _)))⟩, List.forall_mem_cons.2 ⟨⟨show w.heap.size + 2 ≠ GN by omega, (.tail _ (.tail _ (.tail _ (.head _))))⟩, List.forall_mem_cons.2 ⟨⟨show BN ≠ GN by omega, (.tail _ (.tail _ (.tail _ (.tail _ (.head _)))))⟩, List.forall_mem_nil _⟩⟩⟩⟩⟩))
            go_simp
            refine hK.out _ _ (trivial) (fun hS => ?_)
            clear hK K
            (try simp only [Act.put])
            clear e0 e1 f0 f1
            refine wpAnyH_done (by kernel_rfl) ?_ _
            go_wp2_with fail
            go_roundg (gk - 1)
            case measure => have := HFK.out; omega
            case rel => exact ⟨k + 1, a - lb, b - la, by have := HFK.out; omega, by go_num, (HA13.out.sub (List.forall_mem_cons.2 ⟨(.tail _ (.tail _ (.head _))), List.forall_mem_cons.2 ⟨(.tail _ (.tail _ (.tail _ (.head _)))), List.forall_mem_cons.2 ⟨(.tail _ (.tail _ (.tail _ (.tail _ (.head _))))), List.forall_mem_cons.2 ⟨(.tail _ (.tail _ (.tail _ (.tail _ (.tail _ (.head _)))))), List.forall_mem_cons.2 ⟨(.head _), List.forall_mem_nil _⟩⟩⟩⟩⟩)).mono (by omega), by rw [subR_succ hqk, HQ.out, if_neg HQG.out, HAC.out, HLV.out]; rfl, HW13_0.out⟩
        · obtain rfl : k = l.length := by omega
          have HGF : Hid (subR t g nx (t.up out c) (minusR (a0, a1) (t.n nx)) (srcG t nx).length = (a, b)) := by unfold Hid; rw [← HLN.out]; exact HAC.out
          have HA6 : Hid (AF w wr B bm (n + 85 + M + 170) x t out [(w.heap.size, #[.int .i64 c, .int .i64 g], 39), (w.heap.size + 1, #[.int .i64 s0, .int .i64 s1], 29), (w.heap.size + 2, #[.int .i64 0, .int .i64 0], 29), (BN, #[.int .i64 c1, .int .i64 nx], 39), (GN, #[.int .i64 a, .int .i64 b], 29)]) := HAF.out.mono (by omega)
          clear HAF HAC HOW HFK HBD HAT HNE HLN
          go_upto_region 11 with fail
          have HAX : Hid (AF w wr.drew B bm (n + 85 + M + 170) x t out [(w.heap.size, #[.int .i64 c, .int .i64 g], 39), (w.heap.size + 1, #[.int .i64 s0, .int .i64 s1], 29), (w.heap.size + 2, #[.int .i64 0, .int .i64 0], 29), (BN, #[.int .i64 c1, .int .i64 nx], 39), (GN, #[.int .i64 a, .int .i64 b], 29)]) := HA6.out.below hbm ((Below.refl _ _).drew)
          refine wp_region_held_drew (S := fun X => X.cell? ⟨w.heap.size, 0, none⟩ = some (.int .i64 c) ∧ X.cell? ⟨w.heap.size, 1, none⟩ = some (.int .i64 g) ∧ X.cell? ⟨B, 2, none⟩ = some (.slice (some ⟨rb, ro, none⟩) t.nr x.rc) ∧ X.cell? ⟨rb, ro + (g + 1) * 2, none⟩ = some (.int .i64 ra) ∧ X.cell? ⟨rb, ro + (g + 1) * 2 + 1, none⟩ = some (.int .i64 rz)) (by kernel_rfl) (⟨HAX.out.cell (.head _) 0, HAX.out.cell (.head _) 1, HCR.out _ _ HAX.out.st⟩) (fun hS => ?_)
          clear HA6
          generalize wr.drew = X at *
          refine tk [0, 1, 2, 3, 4, 5, 6] ?_
          repeat (refine tkH (oi := ⟨_, _, _, _, _, _⟩) (v := ?_) rfl (by kernel_rfl) (by rfl) (fun _ _ _ h => h) hS ?_ ?_; rotate_left; (· rintro W' ⟨z0, z1, z2, z3, z4⟩; go_simp; try with_reducible rfl); try simp only [Act.put, putA, putZ, putS])
          refine tk0 ?_
          refine tH 7 (oi := ⟨_, _, _, _, _, _⟩) (v := .int .i64 ((g : Int) + 1)) rfl (by kernel_rfl) (by rfl) (fun _ _ _ h => h) hS ?_ ?_
          · rintro W' ⟨z0, z1, z2, z3, z4⟩; go_simp
          try simp only [Act.put, putA, putZ, putS]
          refine tH 8 (oi := ⟨_, _, _, _, _, _⟩) (v := .pointer (some ⟨rb, ro + (g + 1) * 2, none⟩)) rfl (by kernel_rfl) (by rfl) (fun _ _ _ h => h) hS ?_ ?_
          · rintro W' ⟨z0, z1, z2, z3, z4⟩; go_simp
          try simp only [Act.put, putA, putZ, putS]
          refine tH 9 (oi := ⟨_, _, _, _, _, _⟩) (v := ?_) rfl (by kernel_rfl) (by rfl) (fun _ _ _ h => h) hS ?_ ?_
          rotate_left
          · rintro W' ⟨z0, z1, z2, z3, z4⟩; go_simp; try with_reducible rfl
          try simp only [Act.put, putA, putZ, putS]
          refine wpAnyH_ready (rs := [10]) (by kernel_rfl) (by simp) ?_
          refine AllReadyH.cons (o := ⟨some 11, _, _, _, _, _⟩) rfl (fun K hK => ?_) AllReadyH.nil
          go_simp
          have HA0 := Lib.hid (HAX.out.alloc hbm #[.int .i64 0, .int .i64 0] 29)
          have hn0K := (HAX.out.lt (.head _)).2
          have hn0S := (HAX.out.lt (.tail _ (.head _))).2
          have hn0O := (HAX.out.lt (.tail _ (.tail _ (.head _)))).2
          have hn0N := (HAX.out.lt (.tail _ (.tail _ (.tail _ (.head _))))).2
          have hn0G := (HAX.out.lt (.tail _ (.tail _ (.tail _ (.tail _ (.head _)))))).2
          have hn0_ := HAX.out.fr.size
          refine hK.out _ _ (⟨HA0.out.cell (.tail _ (.head _)) 0, HA0.out.cell (.tail _ (.head _)) 1, HCR.out _ _ HA0.out.st⟩) (fun hS => ?_)
          clear hK K
          try simp only [Act.put, putA, putZ, putS]
          generalize X.heap.size = R0 at *
          generalize (X.alloc (.cells #[.int .i64 0, .int .i64 0] 29)) = X0 at *
          refine wpAnyH_ready (rs := [11]) (by kernel_rfl) (by simp) ?_
          refine AllReadyH.cons (o := ⟨none, _, _, _, _, _⟩) rfl (fun K hK => ?_) AllReadyH.nil
          have e0 := HA0.out.cell (.head _) 0
          have e1 := HA0.out.cell (.head _) 1
          have f0 := HA0.out.thaw (.head _) 0
          have f1 := HA0.out.thaw (.head _) 1
          have HA1 := Lib.hid (AF.set2 HSW.out HA0.out (.head _) (.int .i64 ra) (.int .i64 rz) (L' := [(w.heap.size, #[.int .i64 c, .int .i64 g], 39), (w.heap.size + 1, #[.int .i64 s0, .int .i64 s1], 29), (w.heap.size + 2, #[.int .i64 0, .int .i64 0], 29), (BN, #[.int .i64 c1, .int .i64 nx], 39), (GN, #[.int .i64 a, .int .i64 b], 29)]) (List.forall_mem_cons.2 ⟨⟨show w.heap.size ≠ R0 by omega, (.tail _ (.head _))⟩, List.forall_mem_cons.2 ⟨⟨show w.heap.size + 1 ≠ R0 by omega, (.tail _ (.tail _ (.head _)))⟩, List.forall_mem_cons.2 ⟨⟨show w.heap.size + 2 ≠ R0 by omega, (.tail _ (.tail _ (.tail _ (.head _))))⟩, List.forall_mem_cons.2 ⟨⟨show BN ≠ R0 by omega, (.tail _ (.tail _ (.tail _ (.tail _ (.head _)))))⟩, List.forall_mem_cons.2 ⟨⟨show GN ≠ R0 by omega, (.tail _ (.tail _ (.tail _ (.tail _ (.tail _ (.head _))))))⟩, List.forall_mem_nil _⟩⟩⟩⟩⟩))
          go_simp
          refine hK.out _ _ (⟨HA1.out.cell (.tail _ (.head _)) 0, HA1.out.cell (.tail _ (.head _)) 1, HCR.out _ _ HA1.out.st⟩) (fun hS => ?_)
          clear hK K
          (try simp only [Act.put])
          clear e0 e1 f0 f1
          refine wpAnyH_done (by kernel_rfl) ?_ _
          have HA7 : Hid (AF w ((X0.setCell ⟨R0, 0, none⟩ (.int .i64 ra)).setCell ⟨R0, 1, none⟩ (.int .i64 rz)) B bm (n + 85 + M + 170) x t out [(w.heap.size, #[.int .i64 c, .int .i64 g], 39), (w.heap.size + 1, #[.int .i64 s0, .int .i64 s1], 29), (w.heap.size + 2, #[.int .i64 0, .int .i64 0], 29), (GN, #[.int .i64 a, .int .i64 b], 29), (R0, #[.int .i64 ra, .int .i64 rz], 29)]) := HA1.out.sub (List.forall_mem_cons.2 ⟨(.tail _ (.head _)), List.forall_mem_cons.2 ⟨(.tail _ (.tail _ (.head _))), List.forall_mem_cons.2 ⟨(.tail _ (.tail _ (.tail _ (.head _)))), List.forall_mem_cons.2 ⟨(.tail _ (.tail _ (.tail _ (.tail _ (.tail _ (.head _)))))), List.forall_mem_cons.2 ⟨(.head _), List.forall_mem_nil _⟩⟩⟩⟩⟩)
          have hRN : GN < R0 := by omega
          clear HA1
          generalize R0 = RN at *
          have HTL : Hid (trimLo (ra, rz) (a, b) (s0, s1) = loEnd s1 (loP (ra, rz) (a, b)) (s1 - s0 + 1).toNat s0) := rfl
          obtain ⟨TL, hTL⟩ : ∃ TL, trimLo (ra, rz) (a, b) (s0, s1) = TL := ⟨_, rfl⟩
          have HTD := Lib.hid hTL
          rw [hTL] at HTL
          clear hTL
          go_wp2_with fail
          go_loopg [] (s1 - s0 + 1).toNat (fun f wr => ∃ lo : Int, s0 ≤ lo ∧ lo ≤ s1 + 1 ∧ f = (s1 - lo + 1).toNat ∧ AF w wr B bm (n + 85 + M + 170) x t out [(w.heap.size, #[.int .i64 c, .int .i64 g], 39), (w.heap.size + 1, #[.int .i64 lo, .int .i64 s1], 29), (w.heap.size + 2, #[.int .i64 0, .int .i64 0], 29), (GN, #[.int .i64 a, .int .i64 b], 29), (RN, #[.int .i64 ra, .int .i64 rz], 29)] ∧ TL = loEnd s1 (loP (ra, rz) (a, b)) f lo)
          case atStart => exact ⟨s0, by omega, by omega, rfl, HA7.out.sub (List.forall_mem_cons.2 ⟨(.head _), List.forall_mem_cons.2 ⟨(.tail _ (.head _)), List.forall_mem_cons.2 ⟨(.tail _ (.tail _ (.head _))), List.forall_mem_cons.2 ⟨(.tail _ (.tail _ (.tail _ (.head _)))), List.forall_mem_cons.2 ⟨(.tail _ (.tail _ (.tail _ (.tail _ (.head _))))), List.forall_mem_nil _⟩⟩⟩⟩⟩), HTL.out⟩
          case round =>
            clear HA7 HTL
            obtain ⟨lo, hlo0, hlo1, hgk, haf, hend⟩ := hrel
            have HAF := Lib.hid haf; have HEND := Lib.hid hend; have HGK := Lib.hid hgk
            clear haf hend hgk
            go_upto_region 12 with fail
            go_cut [92] (fun s92 wx => s92 = .bool (decide (lo ≤ s1) && loP (ra, rz) (a, b) lo) ∧ AF w wx B bm (n + 85 + M + 170) x t out [(w.heap.size, #[.int .i64 c, .int .i64 g], 39), (w.heap.size + 1, #[.int .i64 lo, .int .i64 s1], 29), (w.heap.size + 2, #[.int .i64 0, .int .i64 0], 29), (GN, #[.int .i64 a, .int .i64 b], 29), (RN, #[.int .i64 ra, .int .i64 rz], 29)])
            case first =>
              have HAX : Hid (AF w wr.drew B bm (n + 85 + M + 170) x t out [(w.heap.size, #[.int .i64 c, .int .i64 g], 39), (w.heap.size + 1, #[.int .i64 lo, .int .i64 s1], 29), (w.heap.size + 2, #[.int .i64 0, .int .i64 0], 29), (GN, #[.int .i64 a, .int .i64 b], 29), (RN, #[.int .i64 ra, .int .i64 rz], 29)]) := HAF.out.below hbm ((Below.refl _ _).drew)
              refine wp_region_held_drew (S := fun X => X.cell? ⟨w.heap.size + 1, 0, none⟩ = some (.int .i64 lo) ∧ X.cell? ⟨w.heap.size + 1, 1, none⟩ = some (.int .i64 s1) ∧ X.cell? ⟨RN, 0, none⟩ = some (.int .i64 ra) ∧ X.cell? ⟨RN, 1, none⟩ = some (.int .i64 rz) ∧ X.cell? ⟨GN, 0, none⟩ = some (.int .i64 a) ∧ X.cell? ⟨GN, 1, none⟩ = some (.int .i64 b)) (by kernel_rfl) (⟨HAX.out.cell (.tail _ (.head _)) 0, HAX.out.cell (.tail _ (.head _)) 1, HAX.out.cell (.tail _ (.tail _ (.tail _ (.tail _ (.head _))))) 0, HAX.out.cell (.tail _ (.tail _ (.tail _ (.tail _ (.head _))))) 1, HAX.out.cell (.tail _ (.tail _ (.tail _ (.head _)))) 0, HAX.out.cell (.tail _ (.tail _ (.tail _ (.head _)))) 1⟩) (fun hS => ?_)
              clear HAF
              generalize wr.drew = X at *
              by_cases hle : lo ≤ s1
              · have hem : emptyR (lo, s1) = false := by simp [emptyR]; omega
                by_cases hp : mostR (ra, rz) lo < a
                · have HB : Hid ((decide (lo ≤ s1) && loP (ra, rz) (a, b) lo) = true) := by unfold Hid loP; simp [hle, hp]
                  refine tH 0 (oi := ⟨_, _, _, _, _, _⟩) (v := ?_) rfl (by kernel_rfl) (by rfl) (fun _ _ _ h => h) hS ?_ ?_
                  rotate_left
                  · rintro W' ⟨z0, z1, z2, z3, z4, z5⟩; go_simp; try with_reducible rfl
                  try simp only [Act.put, putA, putZ, putS]
                  refine wpAnyH_ready (rs := [1]) (by kernel_rfl) (by simp) ?_
                  refine AllReadyH.cons (o := ⟨some 82, _, _, _, _, _⟩) rfl (fun K hK => ?_) AllReadyH.nil
                  go_simp
                  refine (empty_any lo s1 X).mono ?_
                  rw [hem]; rintro _ X0 ⟨rfl, hb0⟩
                  (try go_wp2_with fail)
                  have HA0 := Lib.hid (HAX.out.below hbm hb0)
                  refine hK.out _ _ (⟨HA0.out.cell (.tail _ (.head _)) 0, HA0.out.cell (.tail _ (.head _)) 1, HA0.out.cell (.tail _ (.tail _ (.tail _ (.tail _ (.head _))))) 0, HA0.out.cell (.tail _ (.tail _ (.tail _ (.tail _ (.head _))))) 1, HA0.out.cell (.tail _ (.tail _ (.tail _ (.head _)))) 0, HA0.out.cell (.tail _ (.tail _ (.tail _ (.head _)))) 1⟩) (fun hS => ?_)
                  clear hK K
                  try simp only [Act.put, putA, putZ, putS]
                  clear hb0
                  refine tk [2, 3, 4, 5, 6, 8, 9] ?_
                  repeat (refine tkH (oi := ⟨_, _, _, _, _, _⟩) (v := ?_) rfl (by kernel_rfl) (by rfl) (fun _ _ _ h => h) hS ?_ ?_; rotate_left; (· rintro W' ⟨z0, z1, z2, z3, z4, z5⟩; go_simp; try with_reducible rfl); try simp only [Act.put, putA, putZ, putS])
                  refine tk0 ?_
                  refine wpAnyH_ready (rs := [7]) (by kernel_rfl) (by simp) ?_
                  refine AllReadyH.cons (o := ⟨some 88, _, _, _, _, _⟩) rfl (fun K hK => ?_) AllReadyH.nil
                  go_simp
                  refine (most_any ra rz lo X0 (by omega) (by omega) (by omega) (by omega) (by omega) (by omega)).mono ?_
                  rintro _ X1 ⟨rfl, hb1⟩
                  (try go_wp2_with fail)
                  have HA1 := Lib.hid (HA0.out.below hbm hb1)
                  refine hK.out _ _ (⟨HA1.out.cell (.tail _ (.head _)) 0, HA1.out.cell (.tail _ (.head _)) 1, HA1.out.cell (.tail _ (.tail _ (.tail _ (.tail _ (.head _))))) 0, HA1.out.cell (.tail _ (.tail _ (.tail _ (.tail _ (.head _))))) 1, HA1.out.cell (.tail _ (.tail _ (.tail _ (.head _)))) 0, HA1.out.cell (.tail _ (.tail _ (.tail _ (.head _)))) 1⟩) (fun hS => ?_)
                  clear hK K
                  try simp only [Act.put, putA, putZ, putS]
                  clear hb1
                  refine tH 10 (oi := ⟨_, _, _, _, _, _⟩) (v := .bool true) rfl (by kernel_rfl) (by rfl) (fun _ _ _ h => h) hS ?_ ?_
                  · rintro W' ⟨z0, z1, z2, z3, z4, z5⟩; go_simp
                  try simp only [Act.put, putA, putZ, putS]
                  refine tH 11 (oi := ⟨_, _, _, _, _, _⟩) (v := ?_) rfl (by kernel_rfl) (by rfl) (fun _ _ _ h => h) hS ?_ ?_
                  rotate_left
                  · rintro W' ⟨z0, z1, z2, z3, z4, z5⟩; go_simp; try with_reducible rfl
                  try simp only [Act.put, putA, putZ, putS]
                  refine wpAnyH_done (by kernel_rfl) ?_ _
                  go_wp2_with fail
                  go_meet
                  exact ⟨by rw [HB.out], HA1.out⟩
                · have HB : Hid ((decide (lo ≤ s1) && loP (ra, rz) (a, b) lo) = false) := by unfold Hid loP; simp only; rw [decide_eq_false hp, Bool.and_false]
                  refine tH 0 (oi := ⟨_, _, _, _, _, _⟩) (v := ?_) rfl (by kernel_rfl) (by rfl) (fun _ _ _ h => h) hS ?_ ?_
                  rotate_left
                  · rintro W' ⟨z0, z1, z2, z3, z4, z5⟩; go_simp; try with_reducible rfl
                  try simp only [Act.put, putA, putZ, putS]
                  refine wpAnyH_ready (rs := [1]) (by kernel_rfl) (by simp) ?_
                  refine AllReadyH.cons (o := ⟨some 82, _, _, _, _, _⟩) rfl (fun K hK => ?_) AllReadyH.nil
                  go_simp
                  refine (empty_any lo s1 X).mono ?_
                  rw [hem]; rintro _ X0 ⟨rfl, hb0⟩
                  (try go_wp2_with fail)
                  have HA0 := Lib.hid (HAX.out.below hbm hb0)
                  refine hK.out _ _ (⟨HA0.out.cell (.tail _ (.head _)) 0, HA0.out.cell (.tail _ (.head _)) 1, HA0.out.cell (.tail _ (.tail _ (.tail _ (.tail _ (.head _))))) 0, HA0.out.cell (.tail _ (.tail _ (.tail _ (.tail _ (.head _))))) 1, HA0.out.cell (.tail _ (.tail _ (.tail _ (.head _)))) 0, HA0.out.cell (.tail _ (.tail _ (.tail _ (.head _)))) 1⟩) (fun hS => ?_)
                  clear hK K
                  try simp only [Act.put, putA, putZ, putS]
                  clear hb0
                  refine tk [2, 3, 4, 5, 6, 8, 9] ?_
                  repeat (refine tkH (oi := ⟨_, _, _, _, _, _⟩) (v := ?_) rfl (by kernel_rfl) (by rfl) (fun _ _ _ h => h) hS ?_ ?_; rotate_left; (· rintro W' ⟨z0, z1, z2, z3, z4, z5⟩; go_simp; try with_reducible rfl); try simp only [Act.put, putA, putZ, putS])
                  refine tk0 ?_
                  refine wpAnyH_ready (rs := [7]) (by kernel_rfl) (by simp) ?_
                  refine AllReadyH.cons (o := ⟨some 88, _, _, _, _, _⟩) rfl (fun K hK => ?_) AllReadyH.nil
                  go_simp
                  refine (most_any ra rz lo X0 (by omega) (by omega) (by omega) (by omega) (by omega) (by omega)).mono ?_
                  rintro _ X1 ⟨rfl, hb1⟩
                  (try go_wp2_with fail)
                  have HA1 := Lib.hid (HA0.out.below hbm hb1)
                  refine hK.out _ _ (⟨HA1.out.cell (.tail _ (.head _)) 0, HA1.out.cell (.tail _ (.head _)) 1, HA1.out.cell (.tail _ (.tail _ (.tail _ (.tail _ (.head _))))) 0, HA1.out.cell (.tail _ (.tail _ (.tail _ (.tail _ (.head _))))) 1, HA1.out.cell (.tail _ (.tail _ (.tail _ (.head _)))) 0, HA1.out.cell (.tail _ (.tail _ (.tail _ (.head _)))) 1⟩) (fun hS => ?_)
                  clear hK K
                  try simp only [Act.put, putA, putZ, putS]
                  clear hb1
                  refine tH 10 (oi := ⟨_, _, _, _, _, _⟩) (v := .bool false) rfl (by kernel_rfl) (by rfl) (fun _ _ _ h => h) hS ?_ ?_
                  · rintro W' ⟨z0, z1, z2, z3, z4, z5⟩; go_simp
                  try simp only [Act.put, putA, putZ, putS]
                  refine tH 11 (oi := ⟨_, _, _, _, _, _⟩) (v := ?_) rfl (by kernel_rfl) (by rfl) (fun _ _ _ h => h) hS ?_ ?_
                  rotate_left
                  · rintro W' ⟨z0, z1, z2, z3, z4, z5⟩; go_simp; try with_reducible rfl
                  try simp only [Act.put, putA, putZ, putS]
                  refine wpAnyH_done (by kernel_rfl) ?_ _
                  go_wp2_with fail
                  go_meet
                  exact ⟨by rw [HB.out], HA1.out⟩
              · have hem : emptyR (lo, s1) = true := by simp [emptyR]; omega
                have HB : Hid ((decide (lo ≤ s1) && loP (ra, rz) (a, b) lo) = false) := by unfold Hid; rw [decide_eq_false hle, Bool.false_and]
                refine tH 0 (oi := ⟨_, _, _, _, _, _⟩) (v := ?_) rfl (by kernel_rfl) (by rfl) (fun _ _ _ h => h) hS ?_ ?_
                rotate_left
                · rintro W' ⟨z0, z1, z2, z3, z4, z5⟩; go_simp; try with_reducible rfl
                try simp only [Act.put, putA, putZ, putS]
                refine wpAnyH_ready (rs := [1]) (by kernel_rfl) (by simp) ?_
                refine AllReadyH.cons (o := ⟨some 82, _, _, _, _, _⟩) rfl (fun K hK => ?_) AllReadyH.nil
                go_simp
                refine (empty_any lo s1 X).mono ?_
                rw [hem]; rintro _ X0 ⟨rfl, hb0⟩
                (try go_wp2_with fail)
                have HA0 := Lib.hid (HAX.out.below hbm hb0)
                refine hK.out _ _ (⟨HA0.out.cell (.tail _ (.head _)) 0, HA0.out.cell (.tail _ (.head _)) 1, HA0.out.cell (.tail _ (.tail _ (.tail _ (.tail _ (.head _))))) 0, HA0.out.cell (.tail _ (.tail _ (.tail _ (.tail _ (.head _))))) 1, HA0.out.cell (.tail _ (.tail _ (.tail _ (.head _)))) 0, HA0.out.cell (.tail _ (.tail _ (.tail _ (.head _)))) 1⟩) (fun hS => ?_)
                clear hK K
                try simp only [Act.put, putA, putZ, putS]
                clear hb0
                refine tk [2, 3] ?_
                repeat (refine tkH (oi := ⟨_, _, _, _, _, _⟩) (v := ?_) rfl (by kernel_rfl) (by rfl) (fun _ _ _ h => h) hS ?_ ?_; rotate_left; (· rintro W' ⟨z0, z1, z2, z3, z4, z5⟩; go_simp; try with_reducible rfl); try simp only [Act.put, putA, putZ, putS])
                refine tk0 ?_
                refine wpAnyH_take (i := 4) (oi := ⟨some 85, _, _, _, _, _⟩) (v := undef) rfl (by kernel_rfl) (by kernel_rfl) (by kernel_rfl) (fun _ _ _ h => h) (Or.inr ⟨by rfl, rfl⟩) hS ?_
                try simp only [Act.put, putA, putZ, putS]
                refine wpAnyH_take (i := 5) (oi := ⟨some 86, _, _, _, _, _⟩) (v := undef) rfl (by kernel_rfl) (by kernel_rfl) (by kernel_rfl) (fun _ _ _ h => h) (Or.inr ⟨by rfl, rfl⟩) hS ?_
                try simp only [Act.put, putA, putZ, putS]
                refine wpAnyH_take (i := 6) (oi := ⟨some 87, _, _, _, _, _⟩) (v := undef) rfl (by kernel_rfl) (by kernel_rfl) (by kernel_rfl) (fun _ _ _ h => h) (Or.inr ⟨by rfl, rfl⟩) hS ?_
                try simp only [Act.put, putA, putZ, putS]
                refine wpAnyH_take (i := 7) (oi := ⟨some 88, _, _, _, _, _⟩) (v := undef) rfl (by kernel_rfl) (by kernel_rfl) (by kernel_rfl) (fun _ _ _ h => h) (Or.inr ⟨by rfl, rfl⟩) hS ?_
                try simp only [Act.put, putA, putZ, putS]
                refine wpAnyH_take (i := 8) (oi := ⟨some 89, _, _, _, _, _⟩) (v := undef) rfl (by kernel_rfl) (by kernel_rfl) (by kernel_rfl) (fun _ _ _ h => h) (Or.inr ⟨by rfl, rfl⟩) hS ?_
                try simp only [Act.put, putA, putZ, putS]
                refine wpAnyH_take (i := 9) (oi := ⟨some 90, _, _, _, _, _⟩) (v := undef) rfl (by kernel_rfl) (by kernel_rfl) (by kernel_rfl) (fun _ _ _ h => h) (Or.inr ⟨by rfl, rfl⟩) hS ?_
                try simp only [Act.put, putA, putZ, putS]
                refine wpAnyH_take (i := 10) (oi := ⟨some 91, _, _, _, _, _⟩) (v := undef) rfl (by kernel_rfl) (by kernel_rfl) (by kernel_rfl) (fun _ _ _ h => h) (Or.inr ⟨by rfl, rfl⟩) hS ?_
                try simp only [Act.put, putA, putZ, putS]
                refine tH 11 (oi := ⟨_, _, _, _, _, _⟩) (v := ?_) rfl (by kernel_rfl) (by rfl) (fun _ _ _ h => h) hS ?_ ?_
                rotate_left
                · rintro W' ⟨z0, z1, z2, z3, z4, z5⟩; go_simp; try with_reducible rfl
                try simp only [Act.put, putA, putZ, putS]
                refine wpAnyH_done (by kernel_rfl) ?_ _
                go_wp2_with fail
                go_meet
                exact ⟨by rw [HB.out], HA0.out⟩
            case rest =>
              obtain ⟨rfl, haf⟩ := hcut
              have HAG := Lib.hid haf
              clear haf HAF
              obtain ⟨bq, HBQ⟩ : ∃ bq, Hid ((decide (lo ≤ s1) && loP (ra, rz) (a, b) lo) = bq) := ⟨_, rfl⟩
              rw [HBQ.out]
              cases bq
              · have HTE : Hid (TL = lo) := by
                  have h1 := HBQ.out
                  simp only [Bool.and_eq_false_iff, decide_eq_false_iff_not] at h1
                  unfold Hid
                  rw [HEND.out]
                  refine loEnd_stop (fun h => ?_) _
                  rcases h1 with h1 | h1
                  · exact h1 h.1
                  · rw [h.2] at h1; cases h1
                clear HBQ HEND HGK
                have HTH : Hid (trimHi (ra, rz) (a, b) (s0, s1) = hiEnd lo (hiP (ra, rz) (a, b)) (s1 - lo + 1).toNat s1) := by unfold Hid trimHi; rw [HTD.out, HTE.out]
                obtain ⟨TH, hTH⟩ : ∃ TH, trimHi (ra, rz) (a, b) (s0, s1) = TH := ⟨_, rfl⟩
                have HTF := Lib.hid hTH
                rw [hTH] at HTH
                clear hTH
                go_wp2_with fail
                go_loopg [] (s1 - lo + 1).toNat (fun f wr => ∃ hi : Int, lo - 1 ≤ hi ∧ hi ≤ s1 ∧ f = (hi - lo + 1).toNat ∧ AF w wr B bm (n + 85 + M + 170) x t out [(w.heap.size, #[.int .i64 c, .int .i64 g], 39), (w.heap.size + 1, #[.int .i64 lo, .int .i64 hi], 29), (w.heap.size + 2, #[.int .i64 0, .int .i64 0], 29), (GN, #[.int .i64 a, .int .i64 b], 29), (RN, #[.int .i64 ra, .int .i64 rz], 29)] ∧ TH = hiEnd lo (hiP (ra, rz) (a, b)) f hi)
                case atStart => exact ⟨s1, by omega, by omega, rfl, HAG.out, HTH.out⟩
                case round =>
                  clear HAG HTH
                  obtain ⟨hi, hhi0, hhi1, hgk, haf, hend⟩ := hrel
                  have HAF := Lib.hid haf; have HEND := Lib.hid hend; have HGK := Lib.hid hgk
                  clear haf hend hgk
                  go_upto_region 14 with fail
                  go_cut [108] (fun s108 wx => s108 = .bool (decide (lo ≤ hi) && hiP (ra, rz) (a, b) hi) ∧ AF w wx B bm (n + 85 + M + 170) x t out [(w.heap.size, #[.int .i64 c, .int .i64 g], 39), (w.heap.size + 1, #[.int .i64 lo, .int .i64 hi], 29), (w.heap.size + 2, #[.int .i64 0, .int .i64 0], 29), (GN, #[.int .i64 a, .int .i64 b], 29), (RN, #[.int .i64 ra, .int .i64 rz], 29)])
                  case first =>
                    have HAX : Hid (AF w wr.drew B bm (n + 85 + M + 170) x t out [(w.heap.size, #[.int .i64 c, .int .i64 g], 39), (w.heap.size + 1, #[.int .i64 lo, .int .i64 hi], 29), (w.heap.size + 2, #[.int .i64 0, .int .i64 0], 29), (GN, #[.int .i64 a, .int .i64 b], 29), (RN, #[.int .i64 ra, .int .i64 rz], 29)]) := HAF.out.below hbm ((Below.refl _ _).drew)
                    refine wp_region_held_drew (S := fun X => X.cell? ⟨w.heap.size + 1, 0, none⟩ = some (.int .i64 lo) ∧ X.cell? ⟨w.heap.size + 1, 1, none⟩ = some (.int .i64 hi) ∧ X.cell? ⟨RN, 0, none⟩ = some (.int .i64 ra) ∧ X.cell? ⟨RN, 1, none⟩ = some (.int .i64 rz) ∧ X.cell? ⟨GN, 0, none⟩ = some (.int .i64 a) ∧ X.cell? ⟨GN, 1, none⟩ = some (.int .i64 b)) (by kernel_rfl) (⟨HAX.out.cell (.tail _ (.head _)) 0, HAX.out.cell (.tail _ (.head _)) 1, HAX.out.cell (.tail _ (.tail _ (.tail _ (.tail _ (.head _))))) 0, HAX.out.cell (.tail _ (.tail _ (.tail _ (.tail _ (.head _))))) 1, HAX.out.cell (.tail _ (.tail _ (.tail _ (.head _)))) 0, HAX.out.cell (.tail _ (.tail _ (.tail _ (.head _)))) 1⟩) (fun hS => ?_)
                    clear HAF
                    generalize wr.drew = X at *
                    by_cases hle : lo ≤ hi
                    · have hem : emptyR (lo, hi) = false := by simp [emptyR]; omega
                      by_cases hp : b < fewestR (ra, rz) hi
                      · have HB : Hid ((decide (lo ≤ hi) && hiP (ra, rz) (a, b) hi) = true) := by unfold Hid hiP; simp [hle, hp]
                        refine tH 0 (oi := ⟨_, _, _, _, _, _⟩) (v := ?_) rfl (by kernel_rfl) (by rfl) (fun _ _ _ h => h) hS ?_ ?_
                        rotate_left
                        · rintro W' ⟨z0, z1, z2, z3, z4, z5⟩; go_simp; try with_reducible rfl
                        try simp only [Act.put, putA, putZ, putS]
                        refine wpAnyH_ready (rs := [1]) (by kernel_rfl) (by simp) ?_
                        refine AllReadyH.cons (o := ⟨some 98, _, _, _, _, _⟩) rfl (fun K hK => ?_) AllReadyH.nil
                        go_simp
                        refine (empty_any lo hi X).mono ?_
                        rw [hem]; rintro _ X0 ⟨rfl, hb0⟩
                        (try go_wp2_with fail)
                        have HA0 := Lib.hid (HAX.out.below hbm hb0)
                        refine hK.out _ _ (⟨HA0.out.cell (.tail _ (.head _)) 0, HA0.out.cell (.tail _ (.head _)) 1, HA0.out.cell (.tail _ (.tail _ (.tail _ (.tail _ (.head _))))) 0, HA0.out.cell (.tail _ (.tail _ (.tail _ (.tail _ (.head _))))) 1, HA0.out.cell (.tail _ (.tail _ (.tail _ (.head _)))) 0, HA0.out.cell (.tail _ (.tail _ (.tail _ (.head _)))) 1⟩) (fun hS => ?_)
                        clear hK K
                        try simp only [Act.put, putA, putZ, putS]
                        clear hb0
                        refine tk [2, 3, 4, 5, 6, 8, 9] ?_
                        repeat (refine tkH (oi := ⟨_, _, _, _, _, _⟩) (v := ?_) rfl (by kernel_rfl) (by rfl) (fun _ _ _ h => h) hS ?_ ?_; rotate_left; (· rintro W' ⟨z0, z1, z2, z3, z4, z5⟩; go_simp; try with_reducible rfl); try simp only [Act.put, putA, putZ, putS])
                        refine tk0 ?_
                        refine wpAnyH_ready (rs := [7]) (by kernel_rfl) (by simp) ?_
                        refine AllReadyH.cons (o := ⟨some 104, _, _, _, _, _⟩) rfl (fun K hK => ?_) AllReadyH.nil
                        go_simp
                        refine (fewest_any ra rz hi X0 (by omega) (by omega) (by omega) (by omega) (by omega) (by omega)).mono ?_
                        rintro _ X1 ⟨rfl, hb1⟩
                        (try go_wp2_with fail)
                        have HA1 := Lib.hid (HA0.out.below hbm hb1)
                        refine hK.out _ _ (⟨HA1.out.cell (.tail _ (.head _)) 0, HA1.out.cell (.tail _ (.head _)) 1, HA1.out.cell (.tail _ (.tail _ (.tail _ (.tail _ (.head _))))) 0, HA1.out.cell (.tail _ (.tail _ (.tail _ (.tail _ (.head _))))) 1, HA1.out.cell (.tail _ (.tail _ (.tail _ (.head _)))) 0, HA1.out.cell (.tail _ (.tail _ (.tail _ (.head _)))) 1⟩) (fun hS => ?_)
                        clear hK K
                        try simp only [Act.put, putA, putZ, putS]
                        clear hb1
                        refine tH 10 (oi := ⟨_, _, _, _, _, _⟩) (v := .bool true) rfl (by kernel_rfl) (by rfl) (fun _ _ _ h => h) hS ?_ ?_
                        · rintro W' ⟨z0, z1, z2, z3, z4, z5⟩; go_simp
                        try simp only [Act.put, putA, putZ, putS]
                        refine tH 11 (oi := ⟨_, _, _, _, _, _⟩) (v := ?_) rfl (by kernel_rfl) (by rfl) (fun _ _ _ h => h) hS ?_ ?_
                        rotate_left
                        · rintro W' ⟨z0, z1, z2, z3, z4, z5⟩; go_simp; try with_reducible rfl
                        try simp only [Act.put, putA, putZ, putS]
                        refine wpAnyH_done (by kernel_rfl) ?_ _
                        go_wp2_with fail
                        go_meet
                        exact ⟨by rw [HB.out], HA1.out⟩
                      · have HB : Hid ((decide (lo ≤ hi) && hiP (ra, rz) (a, b) hi) = false) := by unfold Hid hiP; simp only [gt_iff_lt]; rw [decide_eq_false hp, Bool.and_false]
                        refine tH 0 (oi := ⟨_, _, _, _, _, _⟩) (v := ?_) rfl (by kernel_rfl) (by rfl) (fun _ _ _ h => h) hS ?_ ?_
                        rotate_left
                        · rintro W' ⟨z0, z1, z2, z3, z4, z5⟩; go_simp; try with_reducible rfl
                        try simp only [Act.put, putA, putZ, putS]
                        refine wpAnyH_ready (rs := [1]) (by kernel_rfl) (by simp) ?_
                        refine AllReadyH.cons (o := ⟨some 98, _, _, _, _, _⟩) rfl (fun K hK => ?_) AllReadyH.nil
                        go_simp
                        refine (empty_any lo hi X).mono ?_
                        rw [hem]; rintro _ X0 ⟨rfl, hb0⟩
                        (try go_wp2_with fail)
                        have HA0 := Lib.hid (HAX.out.below hbm hb0)
                        refine hK.out _ _ (⟨HA0.out.cell (.tail _ (.head _)) 0, HA0.out.cell (.tail _ (.head _)) 1, HA0.out.cell (.tail _ (.tail _ (.tail _ (.tail _ (.head _))))) 0, HA0.out.cell (.tail _ (.tail _ (.tail _ (.tail _ (.head _))))) 1, HA0.out.cell (.tail _ (.tail _ (.tail _ (.head _)))) 0, HA0.out.cell (.tail _ (.tail _ (.tail _ (.head _)))) 1⟩) (fun hS => ?_)
                        clear hK K
                        try simp only [Act.put, putA, putZ, putS]
                        clear hb0
                        refine tk [2, 3, 4, 5, 6, 8, 9] ?_
                        repeat (refine tkH (oi := ⟨_, _, _, _, _, _⟩) (v := ?_) rfl (by kernel_rfl) (by rfl) (fun _ _ _ h => h) hS ?_ ?_; rotate_left; (· rintro W' ⟨z0, z1, z2, z3, z4, z5⟩; go_simp; try with_reducible rfl); try simp only [Act.put, putA, putZ, putS])
                        refine tk0 ?_
                        refine wpAnyH_ready (rs := [7]) (by kernel_rfl) (by simp) ?_
                        refine AllReadyH.cons (o := ⟨some 104, _, _, _, _, _⟩) rfl (fun K hK => ?_) AllReadyH.nil
                        go_simp
                        refine (fewest_any ra rz hi X0 (by omega) (by omega) (by omega) (by omega) (by omega) (by omega)).mono ?_
                        rintro _ X1 ⟨rfl, hb1⟩
                        (try go_wp2_with fail)
                        have HA1 := Lib.hid (HA0.out.below hbm hb1)
                        refine hK.out _ _ (⟨HA1.out.cell (.tail _ (.head _)) 0, HA1.out.cell (.tail _ (.head _)) 1, HA1.out.cell (.tail _ (.tail _ (.tail _ (.tail _ (.head _))))) 0, HA1.out.cell (.tail _ (.tail _ (.tail _ (.tail _ (.head _))))) 1, HA1.out.cell (.tail _ (.tail _ (.tail _ (.head _)))) 0, HA1.out.cell (.tail _ (.tail _ (.tail _ (.head _)))) 1⟩) (fun hS => ?_)
                        clear hK K
                        try simp only [Act.put, putA, putZ, putS]
                        clear hb1
                        refine tH 10 (oi := ⟨_, _, _, _, _, _⟩) (v := .bool false) rfl (by kernel_rfl) (by rfl) (fun _ _ _ h => h) hS ?_ ?_
                        · rintro W' ⟨z0, z1, z2, z3, z4, z5⟩; go_simp
                        try simp only [Act.put, putA, putZ, putS]
                        refine tH 11 (oi := ⟨_, _, _, _, _, _⟩) (v := ?_) rfl (by kernel_rfl) (by rfl) (fun _ _ _ h => h) hS ?_ ?_
                        rotate_left
                        · rintro W' ⟨z0, z1, z2, z3, z4, z5⟩; go_simp; try with_reducible rfl
                        try simp only [Act.put, putA, putZ, putS]
                        refine wpAnyH_done (by kernel_rfl) ?_ _
                        go_wp2_with fail
                        go_meet
                        exact ⟨by rw [HB.out], HA1.out⟩
                    · have hem : emptyR (lo, hi) = true := by simp [emptyR]; omega
                      have HB : Hid ((decide (lo ≤ hi) && hiP (ra, rz) (a, b) hi) = false) := by unfold Hid; rw [decide_eq_false hle, Bool.false_and]
                      refine tH 0 (oi := ⟨_, _, _, _, _, _⟩) (v := ?_) rfl (by kernel_rfl) (by rfl) (fun _ _ _ h => h) hS ?_ ?_
                      rotate_left
                      · rintro W' ⟨z0, z1, z2, z3, z4, z5⟩; go_simp; try with_reducible rfl
                      try simp only [Act.put, putA, putZ, putS]
                      refine wpAnyH_ready (rs := [1]) (by kernel_rfl) (by simp) ?_
                      refine AllReadyH.cons (o := ⟨some 98, _, _, _, _, _⟩) rfl (fun K hK => ?_) AllReadyH.nil
                      go_simp
                      refine (empty_any lo hi X).mono ?_
                      rw [hem]; rintro _ X0 ⟨rfl, hb0⟩
                      (try go_wp2_with fail)
                      have HA0 := Lib.hid (HAX.out.below hbm hb0)
                      refine hK.out _ _ (⟨HA0.out.cell (.tail _ (.head _)) 0, HA0.out.cell (.tail _ (.head _)) 1, HA0.out.cell (.tail _ (.tail _ (.tail _ (.tail _ (.head _))))) 0, HA0.out.cell (.tail _ (.tail _ (.tail _ (.tail _ (.head _))))) 1, HA0.out.cell (.tail _ (.tail _ (.tail _ (.head _)))) 0, HA0.out.cell (.tail _ (.tail _ (.tail _ (.head _)))) 1⟩) (fun hS => ?_)
                      clear hK K
                      try simp only [Act.put, putA, putZ, putS]
                      clear hb0
                      refine tk [2, 3] ?_
                      repeat (refine tkH (oi := ⟨_, _, _, _, _, _⟩) (v := ?_) rfl (by kernel_rfl) (by rfl) (fun _ _ _ h => h) hS ?_ ?_; rotate_left; (· rintro W' ⟨z0, z1, z2, z3, z4, z5⟩; go_simp; try with_reducible rfl); try simp only [Act.put, putA, putZ, putS])
                      refine tk0 ?_
                      refine wpAnyH_take (i := 4) (oi := ⟨some 101, _, _, _, _, _⟩) (v := undef) rfl (by kernel_rfl) (by kernel_rfl) (by kernel_rfl) (fun _ _ _ h => h) (Or.inr ⟨by rfl, rfl⟩) hS ?_
                      try simp only [Act.put, putA, putZ, putS]
                      refine wpAnyH_take (i := 5) (oi := ⟨some 102, _, _, _, _, _⟩) (v := undef) rfl (by kernel_rfl) (by kernel_rfl) (by kernel_rfl) (fun _ _ _ h => h) (Or.inr ⟨by rfl, rfl⟩) hS ?_
                      try simp only [Act.put, putA, putZ, putS]
                      refine wpAnyH_take (i := 6) (oi := ⟨some 103, _, _, _, _, _⟩) (v := undef) rfl (by kernel_rfl) (by kernel_rfl) (by kernel_rfl) (fun _ _ _ h => h) (Or.inr ⟨by rfl, rfl⟩) hS ?_
                      try simp only [Act.put, putA, putZ, putS]
                      refine wpAnyH_take (i := 7) (oi := ⟨some 104, _, _, _, _, _⟩) (v := undef) rfl (by kernel_rfl) (by kernel_rfl) (by kernel_rfl) (fun _ _ _ h => h) (Or.inr ⟨by rfl, rfl⟩) hS ?_
                      try simp only [Act.put, putA, putZ, putS]
                      refine wpAnyH_take (i := 8) (oi := ⟨some 105, _, _, _, _, _⟩) (v := undef) rfl (by kernel_rfl) (by kernel_rfl) (by kernel_rfl) (fun _ _ _ h => h) (Or.inr ⟨by rfl, rfl⟩) hS ?_
                      try simp only [Act.put, putA, putZ, putS]
                      refine wpAnyH_take (i := 9) (oi := ⟨some 106, _, _, _, _, _⟩) (v := undef) rfl (by kernel_rfl) (by kernel_rfl) (by kernel_rfl) (fun _ _ _ h => h) (Or.inr ⟨by rfl, rfl⟩) hS ?_
                      try simp only [Act.put, putA, putZ, putS]
                      refine wpAnyH_take (i := 10) (oi := ⟨some 107, _, _, _, _, _⟩) (v := undef) rfl (by kernel_rfl) (by kernel_rfl) (by kernel_rfl) (fun _ _ _ h => h) (Or.inr ⟨by rfl, rfl⟩) hS ?_
                      try simp only [Act.put, putA, putZ, putS]
                      refine tH 11 (oi := ⟨_, _, _, _, _, _⟩) (v := ?_) rfl (by kernel_rfl) (by rfl) (fun _ _ _ h => h) hS ?_ ?_
                      rotate_left
                      · rintro W' ⟨z0, z1, z2, z3, z4, z5⟩; go_simp; try with_reducible rfl
                      try simp only [Act.put, putA, putZ, putS]
                      refine wpAnyH_done (by kernel_rfl) ?_ _
                      go_wp2_with fail
                      go_meet
                      exact ⟨by rw [HB.out], HA0.out⟩
                  case rest =>
                    obtain ⟨rfl, haf⟩ := hcut
                    have HAG := Lib.hid haf
                    clear haf HAF
                    obtain ⟨bq, HBQ⟩ : ∃ bq, Hid ((decide (lo ≤ hi) && hiP (ra, rz) (a, b) hi) = bq) := ⟨_, rfl⟩
                    rw [HBQ.out]
                    cases bq
                    · have HTG : Hid (TH = hi) := by
                        have h1 := HBQ.out
                        simp only [Bool.and_eq_false_iff, decide_eq_false_iff_not] at h1
                        unfold Hid
                        rw [HEND.out]
                        refine hiEnd_stop (fun h => ?_) _
                        rcases h1 with h1 | h1
                        · exact h1 h.1
                        · rw [h.2] at h1; cases h1
                      clear HBQ HEND HGK
                      have b0 := HAG.out.cell (.tail _ (.head _)) 0
                      have b1 := HAG.out.cell (.tail _ (.head _)) 1
                      have e0 := HAG.out.cell (.tail _ (.tail _ (.head _))) 0
                      have e1 := HAG.out.cell (.tail _ (.tail _ (.head _))) 1
                      have f0 := HAG.out.thaw (.tail _ (.tail _ (.head _))) 0
                      have f1 := HAG.out.thaw (.tail _ (.tail _ (.head _))) 1
                      have HA9 := Lib.hid (AF.set2 HSW.out HAG.out (.tail _ (.tail _ (.head _))) (.int .i64 lo) (.int .i64 hi) (L' := []) (List.forall_mem_nil _))
                      clear HAG
                      go_wp2_with fail
                      have c0' := HA9.out.cell (.head _) 0
                      have c1' := HA9.out.cell (.head _) 1
                      refine bodyPost_ret (v := .agg #[.int .i64 lo, .int .i64 hi]) (by simp [results, Try.results60, go_sem, c0', c1']) rfl ⟨?_, HA9.out.st, HA9.out.fr⟩
                      rw [HRR.out, HGF.out]; unfold trimR; rw [HTD.out, HTE.out, HTF.out, HTG.out]
                    · have HBL : lo ≤ hi ∧ Hid (hiP (ra, rz) (a, b) hi = true) := by
                        have h1 := HBQ.out
                        simp only [Bool.and_eq_true, decide_eq_true_eq] at h1
                        exact h1
                      obtain ⟨hle, HBP⟩ := HBL
                      have b0 := HAG.out.cell (.tail _ (.head _)) 0
                      have b1 := HAG.out.cell (.tail _ (.head _)) 1
                      have f1 := HAG.out.thaw (.tail _ (.head _)) 1
                      have HA9 := Lib.hid (AF.set1 (i := 1) (cs' := #[.int .i64 lo, .int .i64 (hi - 1)]) HSW.out HAG.out (.tail _ (.head _)) (.int .i64 (hi - 1)) (by simp) rfl (L' := [(w.heap.size, #[.int .i64 c, .int .i64 g], 39), (w.heap.size + 2, #[.int .i64 0, .int .i64 0], 29), (GN, #[.int .i64 a, .int .i64 b], 29), (RN, #[.int .i64 ra, .int .i64 rz], 29)]) (List.forall_mem_cons.2 ⟨⟨show w.heap.size ≠ w.heap.size + 1 by omega, (.head _)⟩, List.forall_mem_cons.2 ⟨⟨show w.heap.size + 2 ≠ w.heap.size + 1 by omega, (.tail _ (.tail _ (.head _)))⟩, List.forall_mem_cons.2 ⟨⟨show GN ≠ w.heap.size + 1 by omega, (.tail _ (.tail _ (.tail _ (.head _))))⟩, List.forall_mem_cons.2 ⟨⟨show RN ≠ w.heap.size + 1 by omega, (.tail _ (.tail _ (.tail _ (.tail _ (.head _)))))⟩, List.forall_mem_nil _⟩⟩⟩⟩))
                      clear HAG
                      go_wp2_with fail
                      go_roundg (hi - 1 - lo + 1).toNat
                      case measure => have := HGK.out; omega
                      case rel => exact ⟨hi - 1, by omega, by omega, rfl, HA9.out.sub (List.forall_mem_cons.2 ⟨(.tail _ (.head _)), List.forall_mem_cons.2 ⟨(.head _), List.forall_mem_cons.2 ⟨(.tail _ (.tail _ (.head _))), List.forall_mem_cons.2 ⟨(.tail _ (.tail _ (.tail _ (.head _)))), List.forall_mem_cons.2 ⟨(.tail _ (.tail _ (.tail _ (.tail _ (.head _))))), List.forall_mem_nil _⟩⟩⟩⟩⟩), by rw [HEND.out, HGK.out]; exact hiEnd_step hle HBP.out⟩
              · have HBL : lo ≤ s1 ∧ Hid (loP (ra, rz) (a, b) lo = true) := by
                  have h1 := HBQ.out
                  simp only [Bool.and_eq_true, decide_eq_true_eq] at h1
                  exact h1
                obtain ⟨hle, HBP⟩ := HBL
                have b0 := HAG.out.cell (.tail _ (.head _)) 0
                have f0 := HAG.out.thaw (.tail _ (.head _)) 0
                have HA9 := Lib.hid (AF.set1 (i := 0) (cs' := #[.int .i64 (lo + 1), .int .i64 s1]) HSW.out HAG.out (.tail _ (.head _)) (.int .i64 (lo + 1)) (by simp) rfl (L' := [(w.heap.size, #[.int .i64 c, .int .i64 g], 39), (w.heap.size + 2, #[.int .i64 0, .int .i64 0], 29), (GN, #[.int .i64 a, .int .i64 b], 29), (RN, #[.int .i64 ra, .int .i64 rz], 29)]) (List.forall_mem_cons.2 ⟨⟨show w.heap.size ≠ w.heap.size + 1 by omega, (.head _)⟩, List.forall_mem_cons.2 ⟨⟨show w.heap.size + 2 ≠ w.heap.size + 1 by omega, (.tail _ (.tail _ (.head _)))⟩, List.forall_mem_cons.2 ⟨⟨show GN ≠ w.heap.size + 1 by omega, (.tail _ (.tail _ (.tail _ (.head _))))⟩, List.forall_mem_cons.2 ⟨⟨show RN ≠ w.heap.size + 1 by omega, (.tail _ (.tail _ (.tail _ (.tail _ (.head _)))))⟩, List.forall_mem_nil _⟩⟩⟩⟩))
                clear HAG
                go_wp2_with fail
                go_roundg (s1 - (lo + 1) + 1).toNat
                case measure => have := HGK.out; omega
                case rel => exact ⟨lo + 1, by omega, by omega, rfl, HA9.out.sub (List.forall_mem_cons.2 ⟨(.tail _ (.head _)), List.forall_mem_cons.2 ⟨(.head _), List.forall_mem_cons.2 ⟨(.tail _ (.tail _ (.head _))), List.forall_mem_cons.2 ⟨(.tail _ (.tail _ (.tail _ (.head _)))), List.forall_mem_cons.2 ⟨(.tail _ (.tail _ (.tail _ (.tail _ (.head _))))), List.forall_mem_nil _⟩⟩⟩⟩⟩), by rw [HEND.out, HGK.out]; exact loEnd_step hle HBP.out⟩

end Go.Proofs.Ytjaoflfophcibaa
