/- On: the walk of its loop. -/
import Derived.Test.YtagfcfojfjkmbaaC4
namespace Go.Proofs.Ytagfcfojfjkmbaa
open Go.RowKit Go.Shelf

attribute [local go_sem] Oper.semAt_some
attribute [local go_sem ↓] Go.wp_at_zero Go.wp_at_succ

set_option maxRecDepth 100000 in
set_option maxHeartbeats 4000000 in
theorem on_good (v : Value) (p : Pers) (day : Int) (r : Int × Int) (l : RL) (w : World) (h : PersAt w v p) (hn : p.nr ≤ 100000) (hc : p.nc ≤ 100000) (hf : p.fault = 0) (hd : inB day (-50000) 50000 = true) (hb : p.born = r :: l) (hr : ¬ day < r.1) :
    Calls Try.prog 26 #[v, .int .i64 day] w (GivesE w w.heap.size (onL day (yearsL p.born)) 0) := by
  obtain ⟨rv, cv, rfl⟩ := h.agg
  have HP := Lib.hid h; clear h
  have hq : (p.fault != 0) = false := by simp [hf]
  have hlen := born_length p
  have HB0 := Lib.hid hb
  have hll : l.length ≤ 1000 := by rw [hb] at hlen; simp at hlen; omega
  have hnz : (((l.length : Int) + 1) == 0) = false := by simp; omega
  have hday : -50000 ≤ day ∧ day ≤ 50000 := by simpa [inB] using hd
  obtain ⟨hd1, hd2⟩ := hday
  clear hb hf hlen
  refine callsIn_wide.1 (callsIn_of_wp_marks (n := 0) Try.func26 rfl trivial ?_ rfl)
  simp only [Try.ntmps26, List.size_toArray, List.length_cons, List.length_nil, Nat.reduceAdd, Nat.reduceSub, Array.replicate_succ, Array.replicate_zero, List.push_toArray, List.append_toArray, List.nil_append, List.cons_append]
  refine wpIn_wide.2 ?_
  go_wp2_with (first | (go_at_call 65; refine (births_any _ p _ (HP.out.below ((below_alloc _ _).trans ((below_alloc _ _).mono (by simp)))) hn hc).mono ?_; rintro e w1 ⟨v1, rfl, hr1, hb1⟩; have hs1 := hb1.size; have hbx : w1.heap[w.heap.size + 1]? = some (.cells #[.int .i64 day] 3 (0, 0)) := (hb1.block _ (by simp)).trans (by have := heap_alloc_new (w.alloc (.cells #[.int .i64 p.lo, .int .i64 p.hi, rv, cv] 45)) (.cells #[.int .i64 day] 3); rw [World.size_alloc] at this; exact this); have hbc : w1.cell? ⟨w.heap.size + 1, 0, none⟩ = some (.int .i64 day) := cell_of_row _ _ 0 _ _ _ hbx; have HBX := Lib.hid hbx; have HRS := Lib.hid hr1; rw [HB0.out] at hr1; obtain ⟨b1, o1, k1, rfl, hk1, hbb, x1, x2, _⟩ := hr1.rg.cons; have HB1 := Lib.hid hb1; simp only [World.size_alloc] at hs1; clear hr1 hb1 hbx) | (go_at_call 66; refine (isDay_any _ _).mono ?_; rintro e w' ⟨rfl, rfl⟩))
  refine wp_calm ?_
  go_quiet (fail)
  go_wp2_with (go_at_call 67; refine (backward_any _ _ _ _).mono ?_; rintro e w2 ⟨rfl, rfl⟩)
  -- LOOP
  have hWa : Below w1.heap.size w1 ((w1.drewN nq).alloc (.cells #[.slice none 0 0] 38)) := (below_drewS _ _ nq).trans (below_alloc (w1.drewN nq) _)
  have hWas : ((w1.drewN nq).alloc (.cells #[.slice none 0 0] 38)).heap.size = w1.heap.size + 1 := World.size_alloc _ _
  have hWan : ((w1.drewN nq).alloc (.cells #[.slice none 0 0] 38)).heap[w1.heap.size]? = some (.cells #[.slice none 0 0] 38 (0, 0)) := heap_alloc_new (w1.drewN nq) _
  generalize (w1.drewN nq).alloc (.cells #[.slice none 0 0] 38) = Wa at *
  have hback := back_of_rs2 (Bl := w1.heap.size) (RS.bel HRS.out hWa) (by omega) (ownB_of hWan) (fun g hg => by cases hg; show b1 ≠ w1.heap.size; omega) (fun r hr => by have := born_in p r hr; omega)
  have hWbs := World.size_alloc Wa (.cells #[.slice (some ⟨b1, o1, none⟩) (l.length + 1) k1] 38)
  have hWbb := below_alloc Wa (.cells #[.slice (some ⟨b1, o1, none⟩) (l.length + 1) k1] 38)
  generalize Wa.alloc (.cells #[.slice (some ⟨b1, o1, none⟩) (l.length + 1) k1] 38) = Wb at *
  have hWbn : Wb.heap[w1.heap.size]? = some (.cells #[.slice none 0 0] 38 (0, 0)) := (hWbb.block _ (by omega)).trans hWan
  have hWbd : Wb.heap[w.heap.size + 1]? = some (.cells #[.int .i64 day] 3 (0, 0)) := (hWbb.block _ (by omega)).trans ((hWa.block _ (by omega)).trans HBX.out)
  have hBW : Below w.heap.size w Wb := (((below_alloc w _).trans ((below_alloc _ _).mono (by simp))).trans (HB1.out.mono (by simp; omega))).trans ((hWa.mono (by omega)).trans (hWbb.mono (by omega)))
  rw [hWas] at hback
  have hbl := born_length p
  refine wpIn_wide.1 (wide_range (n := 0) (gf := 92) (lb := #[.pointer (some ⟨w1.heap.size + 1, 0, none⟩)]) rfl (enters_of Try.func92 (by kernel_rfl) rfl)
    (backward_all w1.heap.size (w1.heap.size + 1) _ _ (by omega) _ (by omega) hback) (fun _ => rfl) Kp.trans (Kp.b (by omega))
    (fun (pre : List (Nat × BR)) (W : World) => OI w1.heap.size Wb (onL day (snds pre)) W) (fun s X Y row hs hg hr => OI.own _ _ _ X Y row hs hg hr) ⟨_, hWbn, World.ownsRow_nil _ _ _ _, Fr.refl _ _⟩
    (fun (pre : List (Nat × BR)) (x : Nat × BR) (a' : Act) (W' : World) => OI w1.heap.size Wb (onL day (snds pre)) W' ∧ ∃ Bx, W'.heap[Bx]? = some (.cells #[.int .i64 x.2.1.1, .int .i64 x.2.1.2] 41 (0, 0)) ∧ ownB W' w1.heap.size ≠ some Bx ∧ a' = { tmps := #[.agg #[.int .i64 p.lo, .int .i64 p.hi, rv, cv], .int .i64 day, .pointer (some ⟨w.heap.size, 0, none⟩), .pointer (some ⟨w.heap.size + 1, 0, none⟩), .slice none 0 0, .int .i64 0, .slice (some ⟨b1, o1, none⟩) (l.length + 1) k1, .int .i64 p.fault, .pointer (some ⟨w1.heap.size, 0, none⟩), undef, .pointer (some ⟨Bx, 0, none⟩), .tuple #[.slice (some ⟨b1, o1, none⟩) (l.length + 1) k1, .int .i64 p.fault], .agg #[.int .i64 p.lo, .int .i64 p.hi, rv, cv], .tuple #[.slice (some ⟨b1, o1, none⟩) (l.length + 1) k1, .int .i64 p.fault], .slice (some ⟨b1, o1, none⟩) (l.length + 1) k1, .int .i64 p.fault, .bool false, .int .i64 p.fault, .bool false, undef, .bool false, .int .i64 day, .bool true, .bool false, .bool false, .slice (some ⟨b1, o1, none⟩) (l.length + 1) k1, .int .i64 ((l.length : Int) + 1), .bool false, .bool (decide (day < r.1)), .slice (some ⟨b1, o1, none⟩) (l.length + 1) k1, .pointer (some ⟨b1, o1, none⟩), .pointer (some ⟨b1, o1, none⟩), .int .i64 r.1, .int .i64 day, .bool (decide (day < r.1)), .slice (some ⟨b1, o1, none⟩) (l.length + 1) k1, .func (.func 92) #[] #[.pointer (some ⟨w1.heap.size + 1, 0, none⟩)], .int .i64 (x.1 : Int), .agg #[.int .i64 x.2.1.1, .int .i64 x.2.1.2], undef, undef, undef, undef, undef, undef, undef, undef, undef, undef, undef, undef, undef, undef, undef, undef, undef, undef, undef, undef], defers := [] })
    ?hA ?assign ?body ?done)
  case hA =>
    rintro pre x a' s X Y row ⟨hs, Bx, hbx, hne, rfl⟩ hg hr
    have hno : ∀ (q : Nat) (c : Array Value) (t : TypeId) (fr : Nat × Nat), X.heap[q]? = some (Obj.cells c t fr) → Y.heap[q]? = some (Obj.cells c t fr) := fun q c t fr hq => by
      rw [hg.block _ (Array.getElem?_eq_some_iff.1 hq).1 (fun e => by obtain ⟨_, o, ho, hc⟩ := hr _ e.symm; rw [hq] at ho; cases ho; cases hc)]
      exact hq
    refine ⟨OI.own _ _ _ X Y row hs hg hr, Bx, hno _ _ _ _ hbx, ?_, rfl⟩
    obtain ⟨lv, h1, _⟩ := hs
    rw [ownB_of (hno _ _ _ _ h1), ← ownB_of h1]; exact hne
  case assign =>
    rintro l1 pre x W1 hy hlen
    have HY := Lib.hid hy
    have hW1 : w1.heap.size < W1.heap.size := by obtain ⟨_, h, _⟩ := hy; exact (Array.getElem?_eq_some_iff.1 h).1
    have hown : ownB (W1.alloc (.cells #[.int .i64 x.2.1.1, .int .i64 x.2.1.2] 41)) w1.heap.size ≠ some W1.heap.size := by
      obtain ⟨lv, h1, h2, _⟩ := hy
      rw [ownB_same ((below_alloc W1 _).block _ hW1), ownB_of h1]
      intro e; have := (h2.own _ e).2; omega
    have HOW := Lib.hid hown
    clear hy hown
    simp only [encB]
    gi_wp2
    exact ⟨Kp.alloc hW1 _, KeepsOthers.alloc _ _, OwnFrom.alloc (OI.own _ _) _ HY.out, W1.heap.size, heap_alloc_new _ _, HOW.out, rfl⟩
  case body =>
    rintro l1 pre x a' W1 hl ⟨rr, hrr⟩ ⟨⟨lv, y1, y2, y3⟩, Bx, hbx, hne, rfl⟩ hlen
    rw [ownB_of y1] at hne
    obtain ⟨la, lc, hlv⟩ := y2.slice
    generalize hln : (onL day (snds pre)).length = nl at hlv
    subst hlv
    have x0 : W1.cell? ⟨Bx, 0, none⟩ = some (.int .i64 x.2.1.1) := cell_of_row _ _ 0 _ _ _ hbx
    have x1' : W1.cell? ⟨Bx, 1, none⟩ = some (.int .i64 x.2.1.2) := cell_of_row _ _ 1 _ _ _ hbx
    have z0 : W1.cell? ⟨w1.heap.size, 0, none⟩ = some (.slice la nl lc) := cell_of_row _ _ 0 _ _ _ y1
    have z1 : W1.cell? ⟨w.heap.size + 1, 0, none⟩ = some (.int .i64 day) := cell_of_row _ _ 0 _ _ _ ((y3.block _ (by omega) (by omega)).trans hWbd)
    have hW1 := (Array.getElem?_eq_some_iff.1 y1).1
    have hBxs := (Array.getElem?_eq_some_iff.1 hbx).1
    have hWs := y3.size
    obtain ⟨hx1, hx2, hx3, hx4⟩ := x.2.2
    have hfold := onL_facts day hd1 hd2 (snds pre).length (snds pre) rfl
    have hplen : (snds pre).length ≤ 1000 := by rw [snds_length]; omega
    by_cases hle : x.2.1.1 ≤ day
    · have hsn : onL day (snds (pre ++ [x])) = ext (onL day (snds pre)) ((day - mn x.2.1.2 day) / 365) ((day - x.2.1.1) / 365) := by rw [snds_snoc, onL_snoc, onF, if_pos hle]
      have HX := Lib.hid (fun (X : World) (hX : Below W1.heap.size W1 X) lo hi => extended_grow Wb.heap.size (.slice la nl lc) (onL day (snds pre)) lo hi X (RS.bel y2 hX) (by omega) (Nat.le_trans hWs hX.size) (fun r hr => by have := hfold.2 r hr; omega))
      have HST := Lib.hid (fun (X W2 : World) (v' : Value) (hX : Below W1.heap.size W1 X) (g1 : RS W2 Wb.heap.size v' (ext (onL day (snds pre)) ((day - mn x.2.1.2 day) / 365) ((day - x.2.1.1) / 365))) g2 g3 => OI.step (by omega) y1 y2 y3 hX g1 g2 g3)
      have HOB : Hid (∀ q, (Value.slice la nl lc).ownBlock = some q → Wb.heap.size ≤ q) := fun q hq => (y2.own q hq).1
      have HNE := Lib.hid hne
      have HSN := Lib.hid hsn
      have HY1 := Lib.hid y1
      have HBX2 := Lib.hid hbx
      clear hsn y1 y2 y3 hfold hbx hne hln
      generalize hxl : x.2.1.1 = xl at *
      generalize hxh : x.2.1.2 = xh at *
      clear hxl hxh
      have mb : -1000000 ≤ mn xh day ∧ mn xh day ≤ day := by unfold mn; omega
      obtain ⟨mb1, mb2⟩ := mb
      gi_wp2_with fail
      refine region_wide (fun W' => W'.cell? ⟨w.heap.size + 1, 0, none⟩ = some (.int .i64 day) ∧ W'.cell? ⟨Bx, 0, none⟩ = some (.int .i64 xl) ∧ W'.cell? ⟨Bx, 1, none⟩ = some (.int .i64 xh)) (by kernel_rfl) (no_defer (by kernel_rfl)) ⟨z1, x0, x1'⟩ (fun hS => ?_)
      refine wpAnyH_take (i := 1) (oi := ⟨some 44, .load 3 (.tmp 3), _, _, _, _⟩) (v := .int .i64 day) rfl (by kernel_rfl) (by kernel_rfl) (by kernel_rfl) (fun _ _ _ h => h) (Or.inl ⟨by rfl, ?_⟩) hS ?_
      · intro W' hSw; (try dsimp only at hSw); obtain ⟨s0, s1, s2⟩ := hSw; go_simp
      simp only [Act.put, List.setIfInBounds_toArray, List.set_cons_zero, List.set_cons_succ]
      refine wpAnyH_take (i := 2) (oi := ⟨some 45, .fieldAddr 41 (.tmp 10) 1, _, _, _, _⟩) (v := .pointer (some ⟨Bx, 1, none⟩)) rfl (by kernel_rfl) (by kernel_rfl) (by kernel_rfl) (fun _ _ _ h => h) (Or.inl ⟨by rfl, ?_⟩) hS ?_
      · intro W' hSw; (try dsimp only at hSw); obtain ⟨s0, s1, s2⟩ := hSw; go_simp
      simp only [Act.put, List.setIfInBounds_toArray, List.set_cons_zero, List.set_cons_succ]
      refine wpAnyH_take (i := 3) (oi := ⟨some 46, .load 3 (.tmp 45), _, _, _, _⟩) (v := .int .i64 xh) rfl (by kernel_rfl) (by kernel_rfl) (by kernel_rfl) (fun _ _ _ h => h) (Or.inl ⟨by rfl, ?_⟩) hS ?_
      · intro W' hSw; (try dsimp only at hSw); obtain ⟨s0, s1, s2⟩ := hSw; go_simp
      simp only [Act.put, List.setIfInBounds_toArray, List.set_cons_zero, List.set_cons_succ]
      refine wpAnyH_take (i := 4) (oi := ⟨some 47, .load 3 (.tmp 3), _, _, _, _⟩) (v := .int .i64 day) rfl (by kernel_rfl) (by kernel_rfl) (by kernel_rfl) (fun _ _ _ h => h) (Or.inl ⟨by rfl, ?_⟩) hS ?_
      · intro W' hSw; (try dsimp only at hSw); obtain ⟨s0, s1, s2⟩ := hSw; go_simp
      simp only [Act.put, List.setIfInBounds_toArray, List.set_cons_zero, List.set_cons_succ]
      refine wpAnyH_take (i := 9) (oi := ⟨some 52, .load 3 (.tmp 3), _, _, _, _⟩) (v := .int .i64 day) rfl (by kernel_rfl) (by kernel_rfl) (by kernel_rfl) (fun _ _ _ h => h) (Or.inl ⟨by rfl, ?_⟩) hS ?_
      · intro W' hSw; (try dsimp only at hSw); obtain ⟨s0, s1, s2⟩ := hSw; go_simp
      simp only [Act.put, List.setIfInBounds_toArray, List.set_cons_zero, List.set_cons_succ]
      refine wpAnyH_take (i := 10) (oi := ⟨some 53, .fieldAddr 41 (.tmp 10) 0, _, _, _, _⟩) (v := .pointer (some ⟨Bx, 0, none⟩)) rfl (by kernel_rfl) (by kernel_rfl) (by kernel_rfl) (fun _ _ _ h => h) (Or.inl ⟨by rfl, ?_⟩) hS ?_
      · intro W' hSw; (try dsimp only at hSw); obtain ⟨s0, s1, s2⟩ := hSw; go_simp
      simp only [Act.put, List.setIfInBounds_toArray, List.set_cons_zero, List.set_cons_succ]
      refine wpAnyH_take (i := 11) (oi := ⟨some 54, .load 3 (.tmp 53), _, _, _, _⟩) (v := .int .i64 xl) rfl (by kernel_rfl) (by kernel_rfl) (by kernel_rfl) (fun _ _ _ h => h) (Or.inl ⟨by rfl, ?_⟩) hS ?_
      · intro W' hSw; (try dsimp only at hSw); obtain ⟨s0, s1, s2⟩ := hSw; go_simp
      simp only [Act.put, List.setIfInBounds_toArray, List.set_cons_zero, List.set_cons_succ]
      have e1 : IntKind.i64.wrap (day - xl) = day - xl := IntWalk.i64_in _ (by omega)
      have e2 : (day - xl).tdiv 365 = (day - xl) / 365 := Int.tdiv_eq_ediv_of_nonneg (by omega)
      have e3 : IntKind.i64.wrap ((day - xl) / 365) = (day - xl) / 365 := IntWalk.i64_in _ (by omega)
      have e4 : IntKind.i64.wrap (day - mn xh day) = day - mn xh day := IntWalk.i64_in _ (by omega)
      have e5 : (day - mn xh day).tdiv 365 = (day - mn xh day) / 365 := Int.tdiv_eq_ediv_of_nonneg (by omega)
      have e6 : IntKind.i64.wrap ((day - mn xh day) / 365) = (day - mn xh day) / 365 := IntWalk.i64_in _ (by omega)
      refine wpAnyH_take (i := 12) (oi := ⟨some 55, .binOp .sub 3 (.tmp 52) (.tmp 54) 3, _, _, _, _⟩) (v := .int .i64 (day - xl)) rfl (by kernel_rfl) (by kernel_rfl) (by kernel_rfl) (fun _ _ _ h => h) (Or.inl ⟨by rfl, ?_⟩) hS ?_
      · intro W' hSw; (try dsimp only at hSw); obtain ⟨s0, s1, s2⟩ := hSw; go_simp
      simp only [Act.put, List.setIfInBounds_toArray, List.set_cons_zero, List.set_cons_succ]
      refine wpAnyH_take (i := 13) (oi := ⟨some 56, .binOp .quo 3 (.tmp 55) (.const (.int .i64 365)) 3, _, _, _, _⟩) (v := .int .i64 ((day - xl) / 365)) rfl (by kernel_rfl) (by kernel_rfl) (by kernel_rfl) (fun _ _ _ h => h) (Or.inl ⟨by rfl, ?_⟩) hS ?_
      · intro W' hSw; (try dsimp only at hSw); obtain ⟨s0, s1, s2⟩ := hSw; go_simp
      simp only [Act.put, List.setIfInBounds_toArray, List.set_cons_zero, List.set_cons_succ]
      have HSB : Hid (∀ X : World, Below W1.heap.size W1 X → X.cell? ⟨w.heap.size + 1, 0, none⟩ = some (.int .i64 day) ∧ X.cell? ⟨Bx, 0, none⟩ = some (.int .i64 xl) ∧ X.cell? ⟨Bx, 1, none⟩ = some (.int .i64 xh)) := fun X hX => ⟨(hX.cell (p := ⟨w.heap.size + 1, _, none⟩) (by show w.heap.size + 1 < _; omega)).trans z1, (hX.cell (p := ⟨Bx, _, none⟩) hBxs).trans x0, (hX.cell (p := ⟨Bx, _, none⟩) hBxs).trans x1'⟩
      have HNW : Hid (∀ X : World, (X = (W1.alloc (.cells #[.int .i64 xh, .int .i64 day] 3)).drew ∨ X = W1.drew.alloc (.cells #[.int .i64 xh, .int .i64 day] 3)) → X.heap[W1.heap.size]? = some (.cells #[.int .i64 xh, .int .i64 day] 3 (0, 0))) := fun X hX => by rcases hX with rfl | rfl <;> exact heap_alloc_new W1 _
      have HSG : Hid (∀ X W2 : World, Below W1.heap.size W1 X → X.grownBy W2 (Value.slice la nl lc).ownBlock → W2.heap[w1.heap.size]? = some (.cells #[.slice la nl lc] 38 (0, 0)) ∧ W2.cell? ⟨w1.heap.size, 0, none⟩ = some (.slice la nl lc) ∧ W2.frozen? ⟨w1.heap.size, 0, none⟩ = false ∧ (W2.cell? ⟨w.heap.size + 1, 0, none⟩ = some (.int .i64 day) ∧ W2.cell? ⟨Bx, 0, none⟩ = some (.int .i64 xl) ∧ W2.cell? ⟨Bx, 1, none⟩ = some (.int .i64 xh)) ∧ ∀ u, ((W2.setCell ⟨w1.heap.size, 0, none⟩ u).cell? ⟨w.heap.size + 1, 0, none⟩ = some (.int .i64 day) ∧ (W2.setCell ⟨w1.heap.size, 0, none⟩ u).cell? ⟨Bx, 0, none⟩ = some (.int .i64 xl) ∧ (W2.setCell ⟨w1.heap.size, 0, none⟩ u).cell? ⟨Bx, 1, none⟩ = some (.int .i64 xh))) := fun X W2 hX hg => by
        have hb := grown_block hg hX hW1 (fun q e => by have := HOB.out q e; omega) HY1.out
        have hbX := grown_block hg hX hBxs (fun q e e2 => HNE.out (by rw [e, e2])) HBX2.out
        have hXc := hX.size
        have c1 : W2.cell? ⟨w.heap.size + 1, 0, none⟩ = some (.int .i64 day) := by
          rw [hg.cell_far ⟨w.heap.size + 1, 0, none⟩ (by show w.heap.size + 1 < _; omega) (fun e => by have := HOB.out (w.heap.size + 1) e.symm; omega), hX.cell (p := ⟨w.heap.size + 1, 0, none⟩) (by show w.heap.size + 1 < _; omega)]; exact z1
        have hne2 : Bx ≠ w1.heap.size := fun e => by rw [e] at hbX; rw [hb] at hbX; cases hbX
        refine ⟨hb, cell_of_row _ _ 0 _ _ _ hb, frozen_of_row _ _ 0 _ _ hb, ⟨c1, cell_of_row _ _ 0 _ _ _ hbX, cell_of_row _ _ 1 _ _ _ hbX⟩, fun u => ⟨?_, ?_, ?_⟩⟩
        · rw [World.cell?_setCell_far _ _ _ _ (by show w1.heap.size ≠ w.heap.size + 1; omega)]; exact c1
        · rw [World.cell?_setCell_far _ _ _ _ (by show w1.heap.size ≠ Bx; omega)]; exact cell_of_row _ _ 0 _ _ _ hbX
        · rw [World.cell?_setCell_far _ _ _ _ (by show w1.heap.size ≠ Bx; omega)]; exact cell_of_row _ _ 1 _ _ _ hbX
      refine wpAnyH_ready (rs := [0, 5]) (by kernel_rfl) (by simp) ?_
      refine AllReadyH.cons (o := ⟨some 43, .load 38 (.tmp 8), _, _, _, _⟩) rfl (fun K hK => ?_) ?_
      ·
        go_simp
        refine hK.out _ _ ?_ (fun hS => ?_)
        · exact HSB.out _ (by first | exact (Below.refl _ _).drew | exact (below_alloc _ _).drew | exact ((Below.refl _ _).drew).alloc (by simp) _)
        clear hK K
        try simp only [Act.put, List.setIfInBounds_toArray, List.set_cons_zero, List.set_cons_succ]
        refine wpAnyH_ready (rs := [5]) (by kernel_rfl) (by simp) ?_
        refine AllReadyH.cons (o := ⟨some 48, .buildSlice 22 2 #[(0, .tmp 46), (1, .tmp 47)], _, _, _, _⟩) rfl (fun K hK => ?_) ?_
        ·
          go_simp
          refine hK.out _ _ ?_ (fun hS => ?_)
          · exact HSB.out _ (by first | exact (Below.refl _ _).drew | exact (below_alloc _ _).drew | exact ((Below.refl _ _).drew).alloc (by simp) _)
          clear hK K
          try simp only [Act.put, List.setIfInBounds_toArray, List.set_cons_zero, List.set_cons_succ]
          refine wpAnyH_ready (rs := [6]) (by kernel_rfl) (by simp) ?_
          refine AllReadyH.cons (o := ⟨some 49, .call ⟨.value (.func 69), #[.tmp 48], #[22]⟩, _, _, _, _⟩) rfl (fun K hK => ?_) ?_
          ·
            go_simp
            refine (smallest_mn _ xh day _ ?_ ?_).mono ?_
            · exact cell_of_row _ _ 0 _ _ _ (HNW.out _ (by first | exact .inl rfl | exact .inr rfl))
            · exact cell_of_row _ _ 1 _ _ _ (HNW.out _ (by first | exact .inl rfl | exact .inr rfl))
            rintro e w' ⟨rfl, rfl⟩
            (try go_wp2_with fail)
            refine hK.out _ _ ?_ (fun hS => ?_)
            · exact HSB.out _ (by first | exact (Below.refl _ _).drew | exact (below_alloc _ _).drew | exact ((Below.refl _ _).drew).alloc (by simp) _)
            clear hK K
            try simp only [Act.put, List.setIfInBounds_toArray, List.set_cons_zero, List.set_cons_succ]
            refine wpAnyH_take (i := 7) (oi := ⟨some 50, .binOp .sub 3 (.tmp 44) (.tmp 49) 3, _, _, _, _⟩) (v := .int .i64 (day - mn xh day)) rfl (by kernel_rfl) (by kernel_rfl) (by kernel_rfl) (fun _ _ _ h => h) (Or.inl ⟨by rfl, ?_⟩) hS ?_
            · intro W' hSw; (try dsimp only at hSw); obtain ⟨s0, s1, s2⟩ := hSw; go_simp
            simp only [Act.put, List.setIfInBounds_toArray, List.set_cons_zero, List.set_cons_succ]
            refine wpAnyH_take (i := 8) (oi := ⟨some 51, .binOp .quo 3 (.tmp 50) (.const (.int .i64 365)) 3, _, _, _, _⟩) (v := .int .i64 ((day - mn xh day) / 365)) rfl (by kernel_rfl) (by kernel_rfl) (by kernel_rfl) (fun _ _ _ h => h) (Or.inl ⟨by rfl, ?_⟩) hS ?_
            · intro W' hSw; (try dsimp only at hSw); obtain ⟨s0, s1, s2⟩ := hSw; go_simp
            simp only [Act.put, List.setIfInBounds_toArray, List.set_cons_zero, List.set_cons_succ]
            refine wpAnyH_ready (rs := [14]) (by kernel_rfl) (by simp) ?_
            refine AllReadyH.cons (o := ⟨some 57, .call ⟨.value (.func 68), #[.tmp 43, .tmp 51, .tmp 56], #[38, 3, 3]⟩, _, _, _, _⟩) rfl (fun K hK => ?_) ?_
            ·
              go_simp
              refine (HX.out _ (by first | exact (Below.refl _ _).drew | exact (below_alloc _ _).drew | exact ((Below.refl _ _).drew).alloc (by simp) _) _ _).mono ?_
              rintro e W2 ⟨v', rfl, g1, g2, g3⟩
              have HG := Lib.hid (HST.out _ W2 v' (by first | exact (Below.refl _ _).drew | exact (below_alloc _ _).drew | exact ((Below.refl _ _).drew).alloc (by simp) _) g1 g2 g3)
              have hSG := HSG.out _ W2 (by first | exact (Below.refl _ _).drew | exact (below_alloc _ _).drew | exact ((Below.refl _ _).drew).alloc (by simp) _) g2
              obtain ⟨hblk, hc2, hf2, hSG2, hSG3⟩ := hSG
              obtain ⟨la', lc', rfl⟩ := g1.slice
              clear g1 g2 g3
              (try go_wp2_with fail)
              refine hK.out _ _ ?_ (fun hS => ?_)
              · exact hSG2
              clear hK K
              try simp only [Act.put, List.setIfInBounds_toArray, List.set_cons_zero, List.set_cons_succ]
              refine wpAnyH_ready (rs := [15]) (by kernel_rfl) (by simp) ?_
              refine AllReadyH.cons (o := ⟨none, .store 38 (.tmp 8) (.tmp 57), _, _, _, _⟩) rfl (fun K hK => ?_) ?_
              ·
                go_simp
                refine hK.out _ _ ?_ (fun hS => ?_)
                · exact hSG3 _
                clear hK K
                try simp only [Act.put, List.setIfInBounds_toArray, List.set_cons_zero, List.set_cons_succ]
                refine wpAnyH_done (by kernel_rfl) ?_ _
                (try gi_wp2)
                rw [HSN.out]
                exact HG.out
              exact AllReadyH.nil
            exact AllReadyH.nil
          exact AllReadyH.nil
        exact AllReadyH.nil
      refine AllReadyH.cons (o := ⟨some 48, .buildSlice 22 2 #[(0, .tmp 46), (1, .tmp 47)], _, _, _, _⟩) rfl (fun K hK => ?_) ?_
      ·
        go_simp
        refine hK.out _ _ ?_ (fun hS => ?_)
        · exact HSB.out _ (by first | exact (Below.refl _ _).drew | exact (below_alloc _ _).drew | exact ((Below.refl _ _).drew).alloc (by simp) _)
        clear hK K
        try simp only [Act.put, List.setIfInBounds_toArray, List.set_cons_zero, List.set_cons_succ]
        refine wpAnyH_ready (rs := [0, 6]) (by kernel_rfl) (by simp) ?_
        refine AllReadyH.cons (o := ⟨some 43, .load 38 (.tmp 8), _, _, _, _⟩) rfl (fun K hK => ?_) ?_
        ·
          go_simp
          refine hK.out _ _ ?_ (fun hS => ?_)
          · exact HSB.out _ (by first | exact (Below.refl _ _).drew | exact (below_alloc _ _).drew | exact ((Below.refl _ _).drew).alloc (by simp) _)
          clear hK K
          try simp only [Act.put, List.setIfInBounds_toArray, List.set_cons_zero, List.set_cons_succ]
          refine wpAnyH_ready (rs := [6]) (by kernel_rfl) (by simp) ?_
          refine AllReadyH.cons (o := ⟨some 49, .call ⟨.value (.func 69), #[.tmp 48], #[22]⟩, _, _, _, _⟩) rfl (fun K hK => ?_) ?_
          ·
            go_simp
            refine (smallest_mn _ xh day _ ?_ ?_).mono ?_
            · exact cell_of_row _ _ 0 _ _ _ (HNW.out _ (by first | exact .inl rfl | exact .inr rfl))
            · exact cell_of_row _ _ 1 _ _ _ (HNW.out _ (by first | exact .inl rfl | exact .inr rfl))
            rintro e w' ⟨rfl, rfl⟩
            (try go_wp2_with fail)
            refine hK.out _ _ ?_ (fun hS => ?_)
            · exact HSB.out _ (by first | exact (Below.refl _ _).drew | exact (below_alloc _ _).drew | exact ((Below.refl _ _).drew).alloc (by simp) _)
            clear hK K
            try simp only [Act.put, List.setIfInBounds_toArray, List.set_cons_zero, List.set_cons_succ]
            refine wpAnyH_take (i := 7) (oi := ⟨some 50, .binOp .sub 3 (.tmp 44) (.tmp 49) 3, _, _, _, _⟩) (v := .int .i64 (day - mn xh day)) rfl (by kernel_rfl) (by kernel_rfl) (by kernel_rfl) (fun _ _ _ h => h) (Or.inl ⟨by rfl, ?_⟩) hS ?_
            · intro W' hSw; (try dsimp only at hSw); obtain ⟨s0, s1, s2⟩ := hSw; go_simp
            simp only [Act.put, List.setIfInBounds_toArray, List.set_cons_zero, List.set_cons_succ]
            refine wpAnyH_take (i := 8) (oi := ⟨some 51, .binOp .quo 3 (.tmp 50) (.const (.int .i64 365)) 3, _, _, _, _⟩) (v := .int .i64 ((day - mn xh day) / 365)) rfl (by kernel_rfl) (by kernel_rfl) (by kernel_rfl) (fun _ _ _ h => h) (Or.inl ⟨by rfl, ?_⟩) hS ?_
            · intro W' hSw; (try dsimp only at hSw); obtain ⟨s0, s1, s2⟩ := hSw; go_simp
            simp only [Act.put, List.setIfInBounds_toArray, List.set_cons_zero, List.set_cons_succ]
            refine wpAnyH_ready (rs := [14]) (by kernel_rfl) (by simp) ?_
            refine AllReadyH.cons (o := ⟨some 57, .call ⟨.value (.func 68), #[.tmp 43, .tmp 51, .tmp 56], #[38, 3, 3]⟩, _, _, _, _⟩) rfl (fun K hK => ?_) ?_
            ·
              go_simp
              refine (HX.out _ (by first | exact (Below.refl _ _).drew | exact (below_alloc _ _).drew | exact ((Below.refl _ _).drew).alloc (by simp) _) _ _).mono ?_
              rintro e W2 ⟨v', rfl, g1, g2, g3⟩
              have HG := Lib.hid (HST.out _ W2 v' (by first | exact (Below.refl _ _).drew | exact (below_alloc _ _).drew | exact ((Below.refl _ _).drew).alloc (by simp) _) g1 g2 g3)
              have hSG := HSG.out _ W2 (by first | exact (Below.refl _ _).drew | exact (below_alloc _ _).drew | exact ((Below.refl _ _).drew).alloc (by simp) _) g2
              obtain ⟨hblk, hc2, hf2, hSG2, hSG3⟩ := hSG
              obtain ⟨la', lc', rfl⟩ := g1.slice
              clear g1 g2 g3
              (try go_wp2_with fail)
              refine hK.out _ _ ?_ (fun hS => ?_)
              · exact hSG2
              clear hK K
              try simp only [Act.put, List.setIfInBounds_toArray, List.set_cons_zero, List.set_cons_succ]
              refine wpAnyH_ready (rs := [15]) (by kernel_rfl) (by simp) ?_
              refine AllReadyH.cons (o := ⟨none, .store 38 (.tmp 8) (.tmp 57), _, _, _, _⟩) rfl (fun K hK => ?_) ?_
              ·
                go_simp
                refine hK.out _ _ ?_ (fun hS => ?_)
                · exact hSG3 _
                clear hK K
                try simp only [Act.put, List.setIfInBounds_toArray, List.set_cons_zero, List.set_cons_succ]
                refine wpAnyH_done (by kernel_rfl) ?_ _
                (try gi_wp2)
                rw [HSN.out]
                exact HG.out
              exact AllReadyH.nil
            exact AllReadyH.nil
          exact AllReadyH.nil
        refine AllReadyH.cons (o := ⟨some 49, .call ⟨.value (.func 69), #[.tmp 48], #[22]⟩, _, _, _, _⟩) rfl (fun K hK => ?_) ?_
        ·
          go_simp
          refine (smallest_mn _ xh day _ ?_ ?_).mono ?_
          · exact cell_of_row _ _ 0 _ _ _ (HNW.out _ (by first | exact .inl rfl | exact .inr rfl))
          · exact cell_of_row _ _ 1 _ _ _ (HNW.out _ (by first | exact .inl rfl | exact .inr rfl))
          rintro e w' ⟨rfl, rfl⟩
          (try go_wp2_with fail)
          refine hK.out _ _ ?_ (fun hS => ?_)
          · exact HSB.out _ (by first | exact (Below.refl _ _).drew | exact (below_alloc _ _).drew | exact ((Below.refl _ _).drew).alloc (by simp) _)
          clear hK K
          try simp only [Act.put, List.setIfInBounds_toArray, List.set_cons_zero, List.set_cons_succ]
          refine wpAnyH_take (i := 7) (oi := ⟨some 50, .binOp .sub 3 (.tmp 44) (.tmp 49) 3, _, _, _, _⟩) (v := .int .i64 (day - mn xh day)) rfl (by kernel_rfl) (by kernel_rfl) (by kernel_rfl) (fun _ _ _ h => h) (Or.inl ⟨by rfl, ?_⟩) hS ?_
          · intro W' hSw; (try dsimp only at hSw); obtain ⟨s0, s1, s2⟩ := hSw; go_simp
          simp only [Act.put, List.setIfInBounds_toArray, List.set_cons_zero, List.set_cons_succ]
          refine wpAnyH_take (i := 8) (oi := ⟨some 51, .binOp .quo 3 (.tmp 50) (.const (.int .i64 365)) 3, _, _, _, _⟩) (v := .int .i64 ((day - mn xh day) / 365)) rfl (by kernel_rfl) (by kernel_rfl) (by kernel_rfl) (fun _ _ _ h => h) (Or.inl ⟨by rfl, ?_⟩) hS ?_
          · intro W' hSw; (try dsimp only at hSw); obtain ⟨s0, s1, s2⟩ := hSw; go_simp
          simp only [Act.put, List.setIfInBounds_toArray, List.set_cons_zero, List.set_cons_succ]
          refine wpAnyH_ready (rs := [0]) (by kernel_rfl) (by simp) ?_
          refine AllReadyH.cons (o := ⟨some 43, .load 38 (.tmp 8), _, _, _, _⟩) rfl (fun K hK => ?_) ?_
          ·
            go_simp
            refine hK.out _ _ ?_ (fun hS => ?_)
            · exact HSB.out _ (by first | exact (Below.refl _ _).drew | exact (below_alloc _ _).drew | exact ((Below.refl _ _).drew).alloc (by simp) _)
            clear hK K
            try simp only [Act.put, List.setIfInBounds_toArray, List.set_cons_zero, List.set_cons_succ]
            refine wpAnyH_ready (rs := [14]) (by kernel_rfl) (by simp) ?_
            refine AllReadyH.cons (o := ⟨some 57, .call ⟨.value (.func 68), #[.tmp 43, .tmp 51, .tmp 56], #[38, 3, 3]⟩, _, _, _, _⟩) rfl (fun K hK => ?_) ?_
            ·
              go_simp
              refine (HX.out _ (by first | exact (Below.refl _ _).drew | exact (below_alloc _ _).drew | exact ((Below.refl _ _).drew).alloc (by simp) _) _ _).mono ?_
              rintro e W2 ⟨v', rfl, g1, g2, g3⟩
              have HG := Lib.hid (HST.out _ W2 v' (by first | exact (Below.refl _ _).drew | exact (below_alloc _ _).drew | exact ((Below.refl _ _).drew).alloc (by simp) _) g1 g2 g3)
              have hSG := HSG.out _ W2 (by first | exact (Below.refl _ _).drew | exact (below_alloc _ _).drew | exact ((Below.refl _ _).drew).alloc (by simp) _) g2
              obtain ⟨hblk, hc2, hf2, hSG2, hSG3⟩ := hSG
              obtain ⟨la', lc', rfl⟩ := g1.slice
              clear g1 g2 g3
              (try go_wp2_with fail)
              refine hK.out _ _ ?_ (fun hS => ?_)
              · exact hSG2
              clear hK K
              try simp only [Act.put, List.setIfInBounds_toArray, List.set_cons_zero, List.set_cons_succ]
              refine wpAnyH_ready (rs := [15]) (by kernel_rfl) (by simp) ?_
              refine AllReadyH.cons (o := ⟨none, .store 38 (.tmp 8) (.tmp 57), _, _, _, _⟩) rfl (fun K hK => ?_) ?_
              ·
                go_simp
                refine hK.out _ _ ?_ (fun hS => ?_)
                · exact hSG3 _
                clear hK K
                try simp only [Act.put, List.setIfInBounds_toArray, List.set_cons_zero, List.set_cons_succ]
                refine wpAnyH_done (by kernel_rfl) ?_ _
                (try gi_wp2)
                rw [HSN.out]
                exact HG.out
              exact AllReadyH.nil
            exact AllReadyH.nil
          exact AllReadyH.nil
        exact AllReadyH.nil
      exact AllReadyH.nil
    · have hsn : onL day (snds (pre ++ [x])) = onL day (snds pre) := by rw [snds_snoc, onL_snoc, onF, if_neg hle]
      have HSN : Hid (OI w1.heap.size Wb (onL day (snds (pre ++ [x]))) W1) := by rw [hsn]; exact ⟨_, y1, y2, y3⟩
      clear hsn y1 y2 y3 hfold hbx hne hln
      generalize hxl : x.2.1.1 = xl at *
      generalize hxh : x.2.1.2 = xh at *
      clear hxl hxh
      gi_wp2
      exact ⟨KeepsOthers.refl _, Kp.refl _ _, HSN.out⟩
  case done =>
    rintro D xs W5 hD hxs ⟨lv, y1, y2, y3⟩ hK
    have hxl : onL day (snds xs) = onL day (yearsL p.born) := by rw [hxs]; rfl
    rw [hxl] at y2
    obtain ⟨la, lc, hlv⟩ := y2.slice
    generalize (onL day (yearsL p.born)).length = nl at hlv
    subst hlv
    have z0 : W5.cell? ⟨w1.heap.size, 0, none⟩ = some (.slice la nl lc) := cell_of_row _ _ 0 _ _ _ y1
    have HK := Lib.hid hK
    have HY2 := Lib.hid y2; have HY3 := Lib.hid y3
    have hW5 := y3.size
    clear hK y1 y2 y3 hxl hxs
    go_wp2
    refine ⟨by simp, .inl ⟨_, _, rfl, run_takeDeferred HK.out, ?_⟩⟩
    refine ⟨.tuple #[.slice la nl lc, .int .i64 0], by simp [results, Try.results26, go_sem], _, rfl, (RS.fr HY2.out (Fr.put W5 D _) ?_).mono (by omega), ?_⟩
    · rintro g cur _ _ hg rfl; rw [HK.out] at hg; cases hg
    · exact (hBW.trans (HY3.out.low (by omega) (fun q hq e => by omega))).trans ((Fr.put W5 D _).low (by omega) (fun q hq e => by omega))
end Go.Proofs.Ytagfcfojfjkmbaa
