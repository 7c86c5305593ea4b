/- with: a table with another count. -/
import Derived.Test.YtjaoflfophcibaaHS
namespace Go.Proofs.Ytjaoflfophcibaa
open Go.RowKit Go.Shelf

theorem rows_fn {w : World} {a : Option Addr} {n cap : Nat} {rl : Nat → Nat} {ct : Nat → Nat → R2} (h : RowsIn w (.slice a n cap) n rl ct) (hn : 0 < n) : ∃ (b o : Nat) (F : Nat → Value), a = some ⟨b, o, none⟩ ∧ b < w.heap.size ∧ ∀ j, j < n → w.cell? ⟨b, o + j, none⟩ = some (F j) ∧ RsIn w (F j) (rl j) (ct j) := by
  rcases h with ⟨_, _, _, h⟩ | ⟨b', o', c', e, hb, hz⟩
  · omega
  · cases e
    refine ⟨_, _, fun j => if h : j < n then Classical.choose (hz j h) else .slice none 0 0, rfl, hb, fun j hj => ?_⟩
    simp only [dif_pos hj]
    exact Classical.choose_spec (hz j hj)
theorem own_somep {W : World} {base size n c : Nat} {T : TypeId} {a : Option Addr} {xs : List Value} (h : W.ownsRow base T size (.slice a n c) n xs) (hn : 0 < n) : ∃ b, a = some ⟨b, 0, none⟩ := by
  rcases h.2 with ⟨e, _⟩ | ⟨g, cap, cur, e, _⟩
  · cases e; omega
  · cases e; exact ⟨g, rfl⟩
theorem RsIn.src {W : World} {a : Option Addr} {cap n : Nat} {R : Nat → R2} (h : RsIn W (.slice a n cap) n R) : Src W a 2 n (flatR R n) := by
  refine ⟨by rw [flatR_length], fun j u hu => ?_⟩
  have hj : j < n * 2 := by have := (List.getElem?_eq_some_iff.1 hu).1; rw [flatR_length] at this; exact this
  obtain ⟨b, off, rfl, _, h0, h1⟩ := h.at (k := j / 2) (by omega)
  obtain ⟨g0, g1⟩ := flatR_get R n (j / 2) (by omega)
  refine ⟨_, rfl, ?_⟩
  rw [addr_add]
  have e : j = j / 2 * 2 ∨ j = j / 2 * 2 + 1 := by omega
  rcases e with e | e
  · rw [e] at hu ⊢
    rw [g0] at hu
    cases hu
    exact h0
  · rw [e] at hu ⊢
    rw [g1] at hu
    cases hu
    rw [← Nat.add_assoc]
    exact h1
theorem flatR_upd (R : Nat → R2) (a b : Int) : ∀ (n g : Nat), g < n → ((flatR R n).set (g * 2) (.int .i64 a)).set (g * 2 + 1) (.int .i64 b) = flatR (fun g' => if g' = g then (a, b) else R g') n := by
  intro n g hg
  apply List.ext_getElem?
  intro j
  by_cases hj : j < n * 2
  · have e : j = j / 2 * 2 ∨ j = j / 2 * 2 + 1 := by omega
    obtain ⟨g0, g1⟩ := flatR_get R n (j / 2) (by omega)
    obtain ⟨k0, k1⟩ := flatR_get (fun g' => if g' = g then (a, b) else R g') n (j / 2) (by omega)
    rw [List.getElem?_set, List.getElem?_set, List.length_set, flatR_length]
    by_cases hq : j / 2 = g
    · rw [if_pos hq] at k0 k1
      rcases e with e | e
      · rw [if_neg (by omega), if_pos (by omega), if_pos (by omega), e, k0]
      · rw [if_pos (by omega), if_pos (by omega), e, k1]
    · rw [if_neg hq] at k0 k1
      rw [if_neg (by omega), if_neg (by omega)]
      rcases e with e | e
      · rw [e, g0, k0]
      · rw [e, g1, k1]
  · rw [List.getElem?_eq_none (by simp [flatR_length]; omega), List.getElem?_eq_none (by simp [flatR_length]; omega)]
set_option maxRecDepth 100000 in
set_option maxHeartbeats 4000000 in
theorem with_own (u : WV) (t : Tb) (c g : Nat) (a b : Int) (w : World) (hl : WLi w u t) (hc : c < t.nc) (hg : g < t.rl c) (hnc : t.nc ≤ 1000) (hrl : t.rl c ≤ 1000) :
    Calls Try.prog 40 #[.agg #[u.cv t, u.bv t, u.rv t, u.nv t], .int .i64 c, .int .i64 g, .agg #[.int .i64 a, .int .i64 b]] w fun e w' => ∃ vb vc nb nc2 F, e = .returned (.agg #[.slice (some ⟨vb, 0, none⟩) t.nc vc, u.bv t, u.rv t, u.nv t]) ∧ w'.ownsRow w.heap.size 23 1 (.slice (some ⟨vb, 0, none⟩) t.nc vc) t.nc (((List.range t.nc).map F).set c (.slice (some ⟨nb, 0, none⟩) (t.rl c) nc2)) ∧ w'.ownsRow w.heap.size 43 2 (.slice (some ⟨nb, 0, none⟩) (t.rl c) nc2) (t.rl c) (flatR (fun g' => if g' = g then (a, b) else t.ct c g') (t.rl c)) ∧ (∃ b o, u.ca = some ⟨b, o, none⟩ ∧ b < w.heap.size ∧ ∀ j, j < t.nc → w.cell? ⟨b, o + j, none⟩ = some (F j) ∧ RsIn w (F j) (t.rl j) (t.ct j)) ∧ Below w.heap.size w w' := by
  obtain ⟨i0, hi0, hz0, hz1, hz2⟩ := info_parts Try.infoRangeR
  obtain ⟨i1, hi1, hy0, hy1, hy2⟩ := info_parts Try.infoRangesR
  obtain ⟨bc, oc, F, hca, hbc, hF⟩ := rows_fn hl.1 (by omega)
  obtain ⟨hx0, hrow⟩ := hF c hc
  obtain ⟨fa, fcc, hfc⟩ := hrow.slice
  rw [hfc] at hrow hx0
  obtain ⟨rb, ro, rfl, hrb, _, _⟩ := hrow.at hg
  have HF := Lib.hid hF; have HRW := Lib.hid hrow; have HFC := Lib.hid hfc; have HCA := Lib.hid hca
  have HL := Lib.hid hl
  clear hF hrow hfc hl
  simp only [WV.cv, WV.bv, WV.rv, WV.nv]
  rw [hca]
  have ci : (0 : Int) ≤ (c : Int) := by omega
  have cj : (c : Int) < (t.nc : Int) := by omega
  have gi : (0 : Int) ≤ (g : Int) := by omega
  have gj : (g : Int) < (t.rl c : Int) := by omega
  clear hca
  have HA0 : Hid (BF w ((((w.alloc (.cells #[.slice (some ⟨bc, oc, none⟩) t.nc u.cc, .slice u.ba t.nb u.bc, .slice u.ra t.nr u.rc, .slice u.na t.nn u.nc] 25)).alloc (.cells #[.int .i64 a, .int .i64 b] 43)).alloc (.cells #[.slice none 0 0, .slice none 0 0, .slice none 0 0, .slice none 0 0] 25)).alloc (.cells #[.slice (some ⟨bc, oc, none⟩) t.nc u.cc, .slice u.ba t.nb u.bc, .slice u.ra t.nr u.rc, .slice u.na t.nn u.nc] 25)) [(w.heap.size + 3, #[.slice (some ⟨bc, oc, none⟩) t.nc u.cc, .slice u.ba t.nb u.bc, .slice u.ra t.nr u.rc, .slice u.na t.nn u.nc], 25), (w.heap.size + 2, #[.slice none 0 0, .slice none 0 0, .slice none 0 0, .slice none 0 0], 25), (w.heap.size + 1, #[.int .i64 a, .int .i64 b], 43), (w.heap.size, #[.slice (some ⟨bc, oc, none⟩) t.nc u.cc, .slice u.ba t.nb u.bc, .slice u.ra t.nr u.rc, .slice u.na t.nn u.nc], 25)]) := ((BF.made3 w _ _ _ _ _ _).alloc _ _).sub (List.forall_mem_cons.2 ⟨by simp [World.size_alloc], List.forall_mem_cons.2 ⟨by simp, List.forall_mem_cons.2 ⟨by simp, List.forall_mem_cons.2 ⟨by simp, List.forall_mem_nil _⟩⟩⟩⟩)
  have hz4 : ((((w.alloc (.cells #[.slice (some ⟨bc, oc, none⟩) t.nc u.cc, .slice u.ba t.nb u.bc, .slice u.ra t.nr u.rc, .slice u.na t.nn u.nc] 25)).alloc (.cells #[.int .i64 a, .int .i64 b] 43)).alloc (.cells #[.slice none 0 0, .slice none 0 0, .slice none 0 0, .slice none 0 0] 25)).alloc (.cells #[.slice (some ⟨bc, oc, none⟩) t.nc u.cc, .slice u.ba t.nb u.bc, .slice u.ra t.nr u.rc, .slice u.na t.nn u.nc] 25)).heap.size = w.heap.size + 4 := by simp
  go_enter Try.func40, Try.ntmps40
  go_wp2_with (at_builtin; refine wpList_append_src _ rfl (.tmp 11) (.tmp 13) 22 rfl (w.heap.size + 4) 23 i1 (.slice none 0 0) 1 24 Try.underlying22 hi1 hy0 hy1 hy2 rfl (by decide) (.slice (some ⟨w.heap.size + 4, 0, none⟩) 0 0) 0 [] rfl ⟨rfl, .inr ⟨w.heap.size + 4, 0, #[], rfl, Nat.le_refl _, ?b0, Nat.le_refl _, by unfold maxLen; omega, rfl, rfl⟩⟩ (some ⟨bc, oc, none⟩) t.nc u.cc ((List.range t.nc).map F) rfl ?a0 ?a4 ?a1 ?a2 ?a3 ?_)
  case b0 => have h := heap_alloc_new ((((w.alloc (.cells #[.slice (some ⟨bc, oc, none⟩) t.nc u.cc, .slice u.ba t.nb u.bc, .slice u.ra t.nr u.rc, .slice u.na t.nn u.nc] 25)).alloc (.cells #[.int .i64 a, .int .i64 b] 43)).alloc (.cells #[.slice none 0 0, .slice none 0 0, .slice none 0 0, .slice none 0 0] 25)).alloc (.cells #[.slice (some ⟨bc, oc, none⟩) t.nc u.cc, .slice u.ba t.nb u.bc, .slice u.ra t.nr u.rc, .slice u.na t.nn u.nc] 25)) (.cells #[] 23); rw [hz4] at h; exact h
  case a0 =>
    refine ⟨by simp, fun j v hv => ?_⟩
    have hj : j < t.nc := by have := (List.getElem?_eq_some_iff.1 hv).1; simpa using this
    rw [List.getElem?_map, List.getElem?_range hj] at hv
    cases hv
    refine ⟨_, rfl, ?_⟩
    rw [addr_add]
    exact kept (HA0.out.below (below_alloc _ _)).fr hbc (HF.out j hj).1
  case a4 =>
    intro v hv
    simp only [List.mem_map, List.mem_range] at hv
    obtain ⟨j, hj, rfl⟩ := hv
    obtain ⟨xa, xc, hx⟩ := (HF.out j hj).2.slice
    rw [hx]; rfl
  case a1 => unfold maxLen; omega
  case a2 => omega
  case a3 => simp
  intro v1 w2 hown hgr hlt
  obtain ⟨va, vc, rfl⟩ := own_slice' hown
  obtain ⟨vb, rfl⟩ := own_somep hown (by omega)
  have hvb := (hown.lt vb rfl).1
  have HA2 : Hid (BF w w2 [(w.heap.size + 3, #[.slice (some ⟨bc, oc, none⟩) t.nc u.cc, .slice u.ba t.nb u.bc, .slice u.ra t.nr u.rc, .slice u.na t.nn u.nc], 25), (w.heap.size + 2, #[.slice none 0 0, .slice none 0 0, .slice none 0 0, .slice none 0 0], 25), (w.heap.size + 1, #[.int .i64 a, .int .i64 b], 43), (w.heap.size, #[.slice (some ⟨bc, oc, none⟩) t.nc u.cc, .slice u.ba t.nb u.bc, .slice u.ra t.nr u.rc, .slice u.na t.nn u.nc], 25)]) := (HA0.out.below (below_alloc _ _)).fro (Fr.grown hgr) (fun q hq e => by have := Option.some.inj e; simp only at this; omega) (List.forall_mem_cons.2 ⟨fun e => by have := Option.some.inj e; simp only at this; omega, List.forall_mem_cons.2 ⟨fun e => by have := Option.some.inj e; simp only at this; omega, List.forall_mem_cons.2 ⟨fun e => by have := Option.some.inj e; simp only at this; omega, List.forall_mem_cons.2 ⟨fun e => by have := Option.some.inj e; simp only at this; omega, List.forall_mem_nil _⟩⟩⟩⟩)
  have HO2 := Lib.hid hown
  clear hown hgr hlt HA0 hz4
  have e0 : w2.cell? ⟨w.heap.size + 1 + 1 + 1, 0, none⟩ = some (.slice (some ⟨bc, oc, none⟩) t.nc u.cc) := HA2.out.cell (.head _) 0
  have f0 : w2.frozen? ⟨w.heap.size + 1 + 1 + 1, 0, none⟩ = false := HA2.out.thaw (.head _) 0
  go_wp2_with fail
  have HA3 := Lib.hid (BF.set1 (i := 0) (cs' := #[.slice (some ⟨vb, 0, none⟩) t.nc vc, .slice u.ba t.nb u.bc, .slice u.ra t.nr u.rc, .slice u.na t.nn u.nc]) HA2.out (.head _) (.slice (some ⟨vb, 0, none⟩) t.nc vc) (by simp) rfl (L' := [(w.heap.size + 2, #[.slice none 0 0, .slice none 0 0, .slice none 0 0, .slice none 0 0], 25), (w.heap.size + 1, #[.int .i64 a, .int .i64 b], 43), (w.heap.size, #[.slice (some ⟨bc, oc, none⟩) t.nc u.cc, .slice u.ba t.nb u.bc, .slice u.ra t.nr u.rc, .slice u.na t.nn u.nc], 25)]) (List.forall_mem_cons.2 ⟨⟨show w.heap.size + 2 ≠ w.heap.size + 3 by omega, .tail _ (.head _)⟩, List.forall_mem_cons.2 ⟨⟨show w.heap.size + 1 ≠ w.heap.size + 3 by omega, .tail _ (.tail _ (.head _))⟩, List.forall_mem_cons.2 ⟨⟨show w.heap.size ≠ w.heap.size + 3 by omega, .tail _ (.tail _ (.tail _ (.head _)))⟩, List.forall_mem_nil _⟩⟩⟩))
  have HO3 := Lib.hid (own_fr HO2.out (Fr.set w2 (w.heap.size + 3) 0 (.slice (some ⟨vb, 0, none⟩) t.nc vc)) (fun q cur _ hb _ e => by omega))
  clear e0 f0 HA2 HO2
  generalize (w2.setCell ⟨w.heap.size + 1 + 1 + 1, 0, none⟩ (.slice (some ⟨vb, 0, none⟩) t.nc vc)) = wr at *
  have hvl : vb < wr.heap.size := own_lt HO3.out rfl
  have HCK : Hid (∀ X, Below wr.heap.size wr X → X.cell? ⟨w.heap.size + 3, 0, none⟩ = some (.slice (some ⟨vb, 0, none⟩) t.nc vc) ∧ X.cell? ⟨w.heap.size, 0, none⟩ = some (.slice (some ⟨bc, oc, none⟩) t.nc u.cc) ∧ X.cell? ⟨bc, oc + c, none⟩ = some (.slice (some ⟨rb, ro, none⟩) (t.rl c) fcc)) := fun X hX => ⟨(HA3.out.below hX).cell (.head _) 0, (HA3.out.below hX).cell (.tail _ (.tail _ (.tail _ (.head _)))) 0, kept (HA3.out.below hX).fr hbc hx0⟩
  have HAX : Hid (Below wr.heap.size wr wr.drew) := (Below.refl _ _).drew
  refine wp_region_Z (S := fun X => X.cell? ⟨w.heap.size + 3, 0, none⟩ = some (.slice (some ⟨vb, 0, none⟩) t.nc vc) ∧ X.cell? ⟨w.heap.size, 0, none⟩ = some (.slice (some ⟨bc, oc, none⟩) t.nc u.cc) ∧ X.cell? ⟨bc, oc + c, none⟩ = some (.slice (some ⟨rb, ro, none⟩) (t.rl c) fcc)) (by kernel_rfl) (HCK.out _ HAX.out) (fun hS => ?_)
  generalize wr.drew = X at *
  refine tk [0, 1, 2, 4, 5, 6, 7, 8] ?_
  repeat (refine tkZ (oi := ⟨_, _, _, _, _, _⟩) (v := ?_) rfl (by kernel_rfl) (by rfl) (fun _ _ _ h => h) hS ?_ ?_; rotate_left; (· rintro W' ⟨z0, z1, z2⟩; go_simp; try with_reducible rfl); try simp only [Act.put, putA, putZ, putS])
  refine tk0 ?_
  refine wpAnyZ_next (rs := [3]) (by kernel_rfl) (by simp) ?_
  refine NextZ.cons (o := ⟨some 19, _, _, _, _, _⟩) rfl (fun K hK => ?_) NextZ.nil
  go_simp
  have HB1 : Hid (Below wr.heap.size wr (X.alloc (.cells #[] 43))) := below_step HAX.out (below_alloc _ _)
  have HJ : Hid ((X.alloc (.cells #[] 43)).heap[X.heap.size]? = some (.cells #[] 43 (0, 0))) := heap_alloc_new _ _
  have HJL : Hid (wr.heap.size ≤ X.heap.size) := HAX.out.size
  refine hK.out _ _ (HCK.out (X.alloc (.cells #[] 43)) HB1.out) (fun hS => ?_)
  clear hK K
  try simp only [Act.put, putA, putZ, putS]
  generalize X.heap.size = J at *
  generalize (X.alloc (.cells #[] 43)) = X1 at *
  refine wpAnyZ_next (rs := [9]) (by kernel_rfl) (by simp) ?_
  refine NextZ.cons (o := ⟨some 25, _, _, _, _, _⟩) rfl (fun K hK => ?_) NextZ.nil
  refine step_append_src X1 (by rfl) (.tmp 19) (.tmp 24) 23 (by rfl) wr.heap.size 43 i0 (.agg #[.int .i64 0, .int .i64 0]) 2 16 Try.underlying23 hi0 hz0 hz1 hz2 rfl (by decide) (.slice (some ⟨J, 0, none⟩) 0 0) 0 [] (by rfl) ⟨rfl, .inr ⟨J, 0, #[], rfl, HJL.out, HJ.out, Nat.le_refl _, by unfold maxLen; omega, rfl, rfl⟩⟩ (some ⟨rb, ro, none⟩) (t.rl c) fcc (flatR (t.ct c) (t.rl c)) (by rfl) ((HRW.out.below (HA3.out.below HB1.out).fr).src) (flatR_one _ _) (by unfold maxLen; omega) (by omega) HB1.out.size ?_
  intro v2 Y hown hgr hlt1
  rw [Nat.zero_add, List.nil_append] at hown
  obtain ⟨na, nc2, rfl⟩ := own_slice' hown
  obtain ⟨nb, rfl⟩ := own_somep hown (by omega)
  have HBY : Hid (Below wr.heap.size wr Y) := HB1.out.trans ((Fr.grown hgr).low HB1.out.size (fun q hq e => by have := Option.some.inj e; simp only at this; have := HJL.out; omega))
  have HOY := Lib.hid hown
  clear hown hgr hlt1
  refine hK.out _ _ (HCK.out Y HBY.out) (fun hS => ?_)
  clear hK K
  try simp only [Act.put, putA, putZ, putS]
  refine tZ 10 (oi := ⟨_, _, _, _, _, _⟩) (v := ?_) rfl (by kernel_rfl) (by rfl) (fun _ _ _ h => h) hS ?_ ?_
  rotate_left
  · rintro W' ⟨z0, z1, z2⟩; go_simp; try with_reducible rfl
  try simp only [Act.put, putA, putZ, putS]
  refine wpAnyZ_next (rs := [11]) (by kernel_rfl) (by simp) ?_
  refine NextZ.last (o := ⟨none, _, _, _, _, _⟩) rfl (by kernel_rfl) (fun K hK => ?_)
  have hoy := own_below HO3.out HBY.out
  have e0 := (hoy.cellAt c (by omega)).trans (map_get hc)
  have f0 := hoy.frozenAt c
  have HON := Lib.hid (hoy.stored c (.slice (some ⟨nb, 0, none⟩) (t.rl c) nc2)).1
  have hnb := (HOY.out.lt nb rfl).1
  have HNN := Lib.hid (own_fr HOY.out (Fr.set Y vb c (.slice (some ⟨nb, 0, none⟩) (t.rl c) nc2)) (fun q cur e hb _ e2 => by omega))
  have HAN : Hid (BF w (Y.setCell ⟨vb, c, none⟩ (.slice (some ⟨nb, 0, none⟩) (t.rl c) nc2)) [(w.heap.size + 3, #[.slice (some ⟨vb, 0, none⟩) t.nc vc, .slice u.ba t.nb u.bc, .slice u.ra t.nr u.rc, .slice u.na t.nn u.nc], 25), (w.heap.size + 2, #[.slice none 0 0, .slice none 0 0, .slice none 0 0, .slice none 0 0], 25), (w.heap.size + 1, #[.int .i64 a, .int .i64 b], 43), (w.heap.size, #[.slice (some ⟨bc, oc, none⟩) t.nc u.cc, .slice u.ba t.nb u.bc, .slice u.ra t.nr u.rc, .slice u.na t.nn u.nc], 25)]) := (HA3.out.below HBY.out).fro (Fr.set Y vb c (.slice (some ⟨nb, 0, none⟩) (t.rl c) nc2)) (fun q hq e => by omega) (List.forall_mem_cons.2 ⟨fun e => by have e : w.heap.size + 3 = vb := e; omega, List.forall_mem_cons.2 ⟨fun e => by have e : w.heap.size + 2 = vb := e; omega, List.forall_mem_cons.2 ⟨fun e => by have e : w.heap.size + 1 = vb := e; omega, List.forall_mem_cons.2 ⟨fun e => by have e : w.heap.size = vb := e; omega, List.forall_mem_nil _⟩⟩⟩⟩)
  clear hoy
  go_simp
  refine hK.out _ _ ?_
  clear hK K e0 f0
  (try simp only [Act.put])
  refine wpAnyZ_done (by kernel_rfl) ?_ _
  go_wp2_with fail
  generalize (Y.setCell ⟨vb, c, none⟩ (.slice (some ⟨nb, 0, none⟩) (t.rl c) nc2)) = w4 at *
  have HAX4 : Hid (Below w4.heap.size w4 w4.drew) := (Below.refl _ _).drew
  have HC4 : Hid (∀ X, Below w4.heap.size w4 X → X.cell? ⟨w.heap.size + 3, 0, none⟩ = some (.slice (some ⟨vb, 0, none⟩) t.nc vc) ∧ X.cell? ⟨vb, c, none⟩ = some (.slice (some ⟨nb, 0, none⟩) (t.rl c) nc2) ∧ X.cell? ⟨w.heap.size + 1, 0, none⟩ = some (.int .i64 a) ∧ X.cell? ⟨w.heap.size + 1, 1, none⟩ = some (.int .i64 b)) := fun X hX => ⟨(HAN.out.below hX).cell (.head _) 0, ((own_below HON.out hX).cellAt c (by omega)).trans (by rw [List.getElem?_set, if_pos rfl, if_pos (by simpa using hc)]), (HAN.out.below hX).cell (.tail _ (.tail _ (.head _))) 0, (HAN.out.below hX).cell (.tail _ (.tail _ (.head _))) 1⟩
  refine wp_region_Z (S := fun X => X.cell? ⟨w.heap.size + 3, 0, none⟩ = some (.slice (some ⟨vb, 0, none⟩) t.nc vc) ∧ X.cell? ⟨vb, c, none⟩ = some (.slice (some ⟨nb, 0, none⟩) (t.rl c) nc2) ∧ X.cell? ⟨w.heap.size + 1, 0, none⟩ = some (.int .i64 a) ∧ X.cell? ⟨w.heap.size + 1, 1, none⟩ = some (.int .i64 b)) (by kernel_rfl) (HC4.out _ HAX4.out) (fun hS => ?_)
  generalize w4.drew = X at *
  refine tk [0, 1, 2, 3, 4, 5, 6, 7] ?_
  repeat (refine tkZ (oi := ⟨_, _, _, _, _, _⟩) (v := ?_) rfl (by kernel_rfl) (by rfl) (fun _ _ _ h => h) hS ?_ ?_; rotate_left; (· rintro W' ⟨z0, z1, z2, z3⟩; go_simp; try with_reducible rfl); try simp only [Act.put, putA, putZ, putS])
  refine tk0 ?_
  refine wpAnyZ_next (rs := [8]) (by kernel_rfl) (by simp) ?_
  refine NextZ.last (o := ⟨none, _, _, _, _, _⟩) rfl (by kernel_rfl) (fun K hK => ?_)
  have hoy := own_below HNN.out HAX4.out
  have e0 := (hoy.cellAt (g * 2) (by omega)).trans (flatR_get _ _ _ hg).1
  have e1 := (hoy.cellAt (g * 2 + 1) (by omega)).trans (flatR_get _ _ _ hg).2
  have f0 := hoy.frozenAt (g * 2)
  have f1 := hoy.frozenAt (g * 2 + 1)
  have hst := ((hoy.stored (g * 2) (.int .i64 a)).1.stored (g * 2 + 1) (.int .i64 b)).1
  rw [flatR_upd _ _ _ _ _ hg] at hst
  have HNF := Lib.hid hst
  have hfr : Fr (fun q => q = nb) X ((X.setCell ⟨nb, g * 2, none⟩ (.int .i64 a)).setCell ⟨nb, g * 2 + 1, none⟩ (.int .i64 b)) := (Fr.set X nb (g * 2) (.int .i64 a)).trans (Fr.set _ nb (g * 2 + 1) (.int .i64 b))
  have HOF := Lib.hid (own_fr (own_below HON.out HAX4.out) hfr (fun q cur e _ _ e2 => by have := Option.some.inj e; simp only at this; omega))
  have HAF : Hid (BF w ((X.setCell ⟨nb, g * 2, none⟩ (.int .i64 a)).setCell ⟨nb, g * 2 + 1, none⟩ (.int .i64 b)) [(w.heap.size + 3, #[.slice (some ⟨vb, 0, none⟩) t.nc vc, .slice u.ba t.nb u.bc, .slice u.ra t.nr u.rc, .slice u.na t.nn u.nc], 25), (w.heap.size + 2, #[.slice none 0 0, .slice none 0 0, .slice none 0 0, .slice none 0 0], 25), (w.heap.size + 1, #[.int .i64 a, .int .i64 b], 43), (w.heap.size, #[.slice (some ⟨bc, oc, none⟩) t.nc u.cc, .slice u.ba t.nb u.bc, .slice u.ra t.nr u.rc, .slice u.na t.nn u.nc], 25)]) := (HAN.out.below HAX4.out).fro hfr (fun q hq e => by omega) (List.forall_mem_cons.2 ⟨fun e => by have e : w.heap.size + 3 = nb := e; omega, List.forall_mem_cons.2 ⟨fun e => by have e : w.heap.size + 2 = nb := e; omega, List.forall_mem_cons.2 ⟨fun e => by have e : w.heap.size + 1 = nb := e; omega, List.forall_mem_cons.2 ⟨fun e => by have e : w.heap.size = nb := e; omega, List.forall_mem_nil _⟩⟩⟩⟩)
  clear hoy hst hfr
  go_simp
  refine hK.out _ _ ?_
  clear hK K e0 e1 f0 f1
  (try simp only [Act.put])
  refine wpAnyZ_done (by kernel_rfl) ?_ _
  generalize ((X.setCell ⟨nb, g * 2, none⟩ (.int .i64 a)).setCell ⟨nb, g * 2 + 1, none⟩ (.int .i64 b)) = wf at *
  have d0 : wf.cell? ⟨w.heap.size + 1 + 1 + 1, 0, none⟩ = some (.slice (some ⟨vb, 0, none⟩) t.nc vc) := HAF.out.cell (.head _) 0
  have r0 : wf.cell? ⟨w.heap.size + 1 + 1, 0, none⟩ = some (.slice none 0 0) := HAF.out.cell (.tail _ (.head _)) 0
  have f0 : wf.frozen? ⟨w.heap.size + 1 + 1, 0, none⟩ = false := HAF.out.thaw (.tail _ (.head _)) 0
  have d1 : wf.cell? ⟨w.heap.size + 1 + 1 + 1, 1, none⟩ = some (.slice u.ba t.nb u.bc) := HAF.out.cell (.head _) 1
  have r1 : wf.cell? ⟨w.heap.size + 1 + 1, 1, none⟩ = some (.slice none 0 0) := HAF.out.cell (.tail _ (.head _)) 1
  have f1 : wf.frozen? ⟨w.heap.size + 1 + 1, 1, none⟩ = false := HAF.out.thaw (.tail _ (.head _)) 1
  have d2 : wf.cell? ⟨w.heap.size + 1 + 1 + 1, 2, none⟩ = some (.slice u.ra t.nr u.rc) := HAF.out.cell (.head _) 2
  have r2 : wf.cell? ⟨w.heap.size + 1 + 1, 2, none⟩ = some (.slice none 0 0) := HAF.out.cell (.tail _ (.head _)) 2
  have f2 : wf.frozen? ⟨w.heap.size + 1 + 1, 2, none⟩ = false := HAF.out.thaw (.tail _ (.head _)) 2
  have d3 : wf.cell? ⟨w.heap.size + 1 + 1 + 1, 3, none⟩ = some (.slice u.na t.nn u.nc) := HAF.out.cell (.head _) 3
  have r3 : wf.cell? ⟨w.heap.size + 1 + 1, 3, none⟩ = some (.slice none 0 0) := HAF.out.cell (.tail _ (.head _)) 3
  have f3 : wf.frozen? ⟨w.heap.size + 1 + 1, 3, none⟩ = false := HAF.out.thaw (.tail _ (.head _)) 3
  go_wp2_with fail
  obtain ⟨hk, hF2⟩ := set4r (HAF.out.bk _ _ _ (.tail _ (.head _))).2 (.slice (some ⟨vb, 0, none⟩) t.nc vc) (.slice u.ba t.nb u.bc) (.slice u.ra t.nr u.rc) (.slice u.na t.nn u.nc)
  have z0 := cell_of_row _ _ 0 _ _ _ hk
  have z1 := cell_of_row _ _ 1 _ _ _ hk
  have z2 := cell_of_row _ _ 2 _ _ _ hk
  have z3 := cell_of_row _ _ 3 _ _ _ hk
  have hbf : Below w.heap.size w _ := HAF.out.fr.trans (hF2.low HAF.out.fr.size (fun q hq e => by omega))
  have ho := own_fr HOF.out hF2 (fun q cur e hb _ e2 => by have := Option.some.inj e; simp only at this; omega)
  have hn := own_fr HNF.out hF2 (fun q cur e hb _ e2 => by have := Option.some.inj e; simp only at this; omega)
  refine bodyPost_ret (v := .agg #[.slice (some ⟨vb, 0, none⟩) t.nc vc, .slice u.ba t.nb u.bc, .slice u.ra t.nr u.rc, .slice u.na t.nn u.nc]) (by simp [results, Try.results40, go_sem, z0, z1, z2, z3]) rfl ⟨vb, vc, nb, nc2, F, rfl, own_mono ho (by omega), own_mono hn HA3.out.fr.size, ⟨bc, oc, rfl, hbc, HF.out⟩, hbf⟩
theorem WithR.wli {w X : World} {t : Tb} {c : Nat} {base vb vc nb nc2 : Nat} {F : Nat → Value} {R : Nat → R2} (hX : Below w.heap.size w X)
    (ho : X.ownsRow base 23 1 (.slice (some ⟨vb, 0, none⟩) t.nc vc) t.nc (((List.range t.nc).map F).set c (.slice (some ⟨nb, 0, none⟩) (t.rl c) nc2)))
    (hn : RsIn X (.slice (some ⟨nb, 0, none⟩) (t.rl c) nc2) (t.rl c) R) (hF : ∀ j, j < t.nc → RsIn w (F j) (t.rl j) (t.ct j)) (hc : c < t.nc) :
    RowsIn X (.slice (some ⟨vb, 0, none⟩) t.nc vc) t.nc t.rl (fun c' g' => if c' = c then R g' else t.ct c' g') := by
  refine .inr ⟨vb, 0, vc, rfl, own_lt ho rfl, fun j hj => ?_⟩
  rw [Nat.zero_add]
  have hcell := ho.cellAt j (by omega)
  rw [List.getElem?_set] at hcell
  by_cases e : c = j
  · subst e
    rw [if_pos rfl, if_pos (by simpa using hc)] at hcell
    refine ⟨_, hcell, ?_⟩
    simp only [if_true]
    exact hn
  · rw [if_neg e, map_get hj] at hcell
    refine ⟨_, hcell, ?_⟩
    simp only [if_neg (fun h => e h.symm : ¬ j = c)]
    exact (hF j hj).below hX
/-- with, where the rows of the table lie in an earlier world. -/
theorem with_row (u : WV) (t : Tb) (c g : Nat) (a b : Int) (w0 w : World) (hl : WLi w0 u t) (hw : Below w0.heap.size w0 w) (hc : c < t.nc) (hg : g < t.rl c) (hnc : t.nc ≤ 1000) (hrl : t.rl c ≤ 1000) :
    Calls Try.prog 40 #[.agg #[u.cv t, u.bv t, u.rv t, u.nv t], .int .i64 c, .int .i64 g, .agg #[.int .i64 a, .int .i64 b]] w fun e w' => ∃ vb vc nb nc2 F, e = .returned (.agg #[.slice (some ⟨vb, 0, none⟩) t.nc vc, u.bv t, u.rv t, u.nv t]) ∧ w'.ownsRow w.heap.size 23 1 (.slice (some ⟨vb, 0, none⟩) t.nc vc) t.nc (((List.range t.nc).map F).set c (.slice (some ⟨nb, 0, none⟩) (t.rl c) nc2)) ∧ w'.ownsRow w.heap.size 43 2 (.slice (some ⟨nb, 0, none⟩) (t.rl c) nc2) (t.rl c) (flatR (fun g' => if g' = g then (a, b) else t.ct c g') (t.rl c)) ∧ (∀ j, j < t.nc → RsIn w0 (F j) (t.rl j) (t.ct j)) ∧ Below w.heap.size w w' := by
  refine (with_own u t c g a b w (hl.below hw) hc hg hnc hrl).mono ?_
  rintro _ w' ⟨vb, vc, nb, nc2, F, rfl, ho, hn, ⟨p, q, e1, _, hF⟩, hb⟩
  obtain ⟨p', q', F', e2, h3, hF'⟩ := rows_fn hl.1 (by omega)
  rw [e1] at e2
  cases e2
  refine ⟨vb, vc, nb, nc2, F, rfl, ho, hn, fun j hj => ?_, hb⟩
  have h1 := kept hw h3 (hF' j hj).1
  rw [(hF j hj).1] at h1
  rw [Option.some.inj h1]
  exact (hF' j hj).2
theorem with_any (u : WV) (t : Tb) (c g : Nat) (a b : Int) (w : World) (hl : WLi w u t) (hc : c < t.nc) (hg : g < t.rl c) (hnc : t.nc ≤ 1000) (hrl : t.rl c ≤ 1000) :
    Calls Try.prog 40 #[.agg #[u.cv t, u.bv t, u.rv t, u.nv t], .int .i64 c, .int .i64 g, .agg #[.int .i64 a, .int .i64 b]] w fun e w' => ∃ ca cc, e = .returned (.agg #[.slice ca t.nc cc, u.bv t, u.rv t, u.nv t]) ∧ WLi w' { u with ca := ca, cc := cc } (t.setC c g (a, b)) ∧ Below w.heap.size w w' := by
  refine (with_own u t c g a b w hl hc hg hnc hrl).mono ?_
  rintro _ w' ⟨vb, vc, nb, nc2, F, rfl, ho, hn, ⟨_, _, _, _, hF⟩, hb⟩
  refine ⟨_, _, rfl, ⟨?_, hl.2.1.below hb, hl.2.2.1.below hb, hl.2.2.2.below hb⟩, hb⟩
  have h := WithR.wli hb ho (RsAt.ownT hn).toIn (fun j hj => (hF j hj).2) hc
  have e : (t.setC c g (a, b)).ct = fun c' g' => if c' = c then (if g' = g then (a, b) else t.ct c g') else t.ct c' g' := by
    funext c' g'
    show (if c' = c ∧ g' = g then (a, b) else t.ct c' g') = _
    by_cases e1 : c' = c
    · subst e1; simp
    · rw [if_neg (fun h => e1 h.1), if_neg e1]
  show RowsIn w' _ t.nc t.rl (t.setC c g (a, b)).ct
  rw [e]
  exact h
end Go.Proofs.Ytjaoflfophcibaa
