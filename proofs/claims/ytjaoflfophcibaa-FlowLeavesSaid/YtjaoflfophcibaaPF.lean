/- Bounds. Printed by gen_gb.py. | The blocks that a call has made, over worlds that only grow. Would: the plain side. | Would. Printed by gen_gd.py. -/
import Derived.Test.YtjaoflfophcibaaPE
namespace Go.Proofs.Ytjaoflfophcibaa
open Go.RowKit Go.Shelf

/-- A region in a round, whose last operation waits for all the others. -/
theorem region_wideZ {l n : Nat} {P : Program} {id : Nat} {ops : Array Oper} {Q : Exit → Act → World → Prop} {a : Act} {w : World} (S : World → Prop) (hm : P.follows .mixedOrders = true) (hd : ∀ (i : Nat) (o : Oper), ops[i]? = some o → ∀ c, o.op ≠ Op.defer c)
    (hS : S w.drew) (h : S w.drew → wpAnyZ P .any ops (Exit.then (fun a w => Q .normal a w) (fun _ _ _ => False)) S ops.size (Array.replicate ops.size false) a w.drew) : (Code.region id ops true).wpIn (Fence.wide.inRound l) n P Q a w := by
  refine wpIn_mono (wpIn_region_any hm (any_wide hd ?_ _ _ _ _ (wpAny_of_Z _ _ _ _ (h hS)))) ?_
  · rintro ⟨_, _, h⟩; exact h
  · intro e a w hq; cases e <;> first | exact hq | exact hq.elim
theorem Try.infoRangeF : (Try.prog.info? 29).map (fun i => (i.zero, i.size, i.bytes)) = some (some (.agg #[.int .i64 0, .int .i64 0]), 2, 16) := by kernel_rfl
theorem Try.infoRangesF : (Try.prog.info? 34).map (fun i => (i.zero, i.size, i.bytes)) = some (some (.slice none 0 0), 1, 24) := by kernel_rfl
theorem cell_blocks {W X : World} (hk : ∀ b, b < W.heap.size → X.heap[b]? = W.heap[b]?) {b o : Nat} {v : Value} (h : W.cell? ⟨b, o, none⟩ = some v) : X.cell? ⟨b, o, none⟩ = some v := by
  rw [World.cell?_of_block (a := ⟨b, o, none⟩) (hk b (World.block_lt_of_cell? W _ h))]; exact h
theorem RsAt.blocks {W X : World} {v : Value} {n : Nat} {R : Nat → R2} (h : RsAt W v n R) (hz : W.heap.size ≤ X.heap.size) (hk : ∀ b, b < W.heap.size → X.heap[b]? = W.heap[b]?) : RsAt X v n R := by
  rcases h with h | ⟨b, off, cap, rfl, hb, hz'⟩
  · exact .inl h
  · exact .inr ⟨b, off, cap, rfl, by omega, fun j hj => ⟨cell_blocks hk (hz' j hj).1, cell_blocks hk (hz' j hj).2⟩⟩
theorem WL.blocks {W X : World} {x : WV} {t : Tb} (h : WL W x t) (hz : W.heap.size ≤ X.heap.size) (hk : ∀ b, b < W.heap.size → X.heap[b]? = W.heap[b]?) : WL X x t := by
  refine ⟨?_, h.2.1.blocks hz hk, h.2.2.1.blocks hz hk, h.2.2.2.blocks hz hk⟩
  rcases h.1 with h | ⟨b, off, cap, e, hb, hz'⟩
  · exact .inl h
  · refine .inr ⟨b, off, cap, e, by omega, fun j hj => ?_⟩
    obtain ⟨rv, h0, h1⟩ := hz' j hj
    exact ⟨rv, cell_blocks hk h0, h1.blocks hz hk⟩
/-- What lies in the world in a round of Bounds: the table at work, the rows that have come. -/
structure BI (Wb : World) (B bm : Nat) (x : WV) (t : Tb) (OB k : Nat) (W : World) : Prop where
  st : St W B bm (340 + k * 850) x t off0
  fr : Fr (fun q => q = bm ∨ q = OB) Wb W
  rows : ∃ sv, RowsI Wb.heap.size W OB t.nc t.ng (bndR t off0) k sv
theorem St.grown {W X : World} {B bm n : Nat} {x : WV} {t : Tb} {out : Nat → Nat → Bool} (h : St W B bm n x t out) {row : Option Nat} (hg : W.grownBy X row) (hr : ∀ r, row = some r → ∀ cs T, W.heap[r]? ≠ some (.cells cs T (0, 0))) (hbm : row ≠ some bm) (hcell : ∀ r, row = some r → ∀ b o v, W.cell? ⟨b, o, none⟩ = some v → b ≠ r) : St X B bm n x t out := by
  have hB := (Array.getElem?_eq_some_iff.1 h.wb).1
  refine ⟨(hg.block _ hB (fun e => hr _ e.symm _ _ h.wb)).trans h.wb, ?_, h.cm.kept hg (fun e => hbm e.symm)⟩
  have hc : ∀ b o v, W.cell? ⟨b, o, none⟩ = some v → X.cell? ⟨b, o, none⟩ = some v := fun b o v hv => hg.cell hv (fun e => hcell b e.symm b o v hv rfl)
  have hz := hg.size
  have hR : ∀ v n R, RsAt W v n R → RsAt X v n R := fun v n R hh => by
    rcases hh with hh | ⟨b, off, cap, rfl, hb, hz'⟩
    · exact .inl hh
    · exact .inr ⟨b, off, cap, rfl, by omega, fun j hj => ⟨hc _ _ _ (hz' j hj).1, hc _ _ _ (hz' j hj).2⟩⟩
  refine ⟨?_, hR _ _ _ h.wl.2.1, hR _ _ _ h.wl.2.2.1, hR _ _ _ h.wl.2.2.2⟩
  rcases h.wl.1 with hh | ⟨b, off, cap, e, hb, hz'⟩
  · exact .inl hh
  · refine .inr ⟨b, off, cap, e, by omega, fun j hj => ?_⟩
    obtain ⟨rv, h0, h1⟩ := hz' j hj
    exact ⟨rv, hc _ _ _ h0, hR _ _ _ h1⟩
theorem not_cells_cell {W : World} {r : Nat} {o : Obj} (ho : W.heap[r]? = some o) (hc : o.isCells = false) : ∀ b q v, W.cell? ⟨b, q, none⟩ = some v → b ≠ r := by
  rintro b q v hv rfl
  obtain ⟨o', h1, h2⟩ := cells_of_cell hv
  dsimp only at h1
  rw [ho] at h1; cases h1; rw [hc] at h2; cases h2
theorem BI.own (Wb : World) (B bm : Nat) (x : WV) (t : Tb) (OB : Nat) (hbm : bm < Wb.heap.size) : OwnFrom Wb.heap.size (BI Wb B bm x t OB) := by
  rintro k W X row ⟨h1, h2, sv, h3⟩ hg hr
  have hne : ∀ q c T, W.heap[q]? = some (.cells c T (0, 0)) → ¬ row = some q := fun q c T hq e => by
    obtain ⟨_, o, ho, hc⟩ := hr q e; rw [hq] at ho; cases ho; cases hc
  refine ⟨h1.grown hg (fun r e cs T hc => hne r cs T hc e) (fun e => by have := (hr _ e).1; omega) (fun r e => by obtain ⟨_, o, ho, hc⟩ := hr r e; exact not_cells_cell ho hc), ?_, sv, h3.fr (Fr.grown hg) (fun b cs T hb e => hne b cs T hb e)⟩
  refine ⟨hg.os.trans h2.os, hg.tape.trans h2.tape, hg.output.trans h2.output, Nat.le_trans h2.size hg.size, fun q hq he => ?_⟩
  exact (hg.block q (Nat.lt_of_lt_of_le hq h2.size) (fun e => by have := (hr q e.symm).1; omega)).trans (h2.block q hq he)
theorem BI.step {w Wb W1 X Y : World} {B bm : Nat} {x : WV} {t : Tb} {OB k c0 g0 : Nat} {sv : Nat → Value} {v1 : Value} (hbm : bm < Wb.heap.size) (hOB : OB < Wb.heap.size) (hw : Below w.heap.size w Wb) (hwl : WL w x t) (hwb : w.heap.size ≤ bm) (hwo : w.heap.size ≤ OB) (hWB : WB Wb B x t off0 bm) (hBm : B ≠ bm) (hBO : B ≠ OB) (hk : c0 * t.ng + g0 = k) (hc0 : c0 < t.nc) (hg0 : g0 < t.ng)
    (hm1 : IsMp W1 bm) (hfb : Fr (fun q => q = bm ∨ q = OB) Wb W1) (hr : RowsI Wb.heap.size W1 OB t.nc t.ng (bndR t off0) k sv) (hX : Fr (fun q => q = bm) W1 X) (hsX : St X B bm (340 + k * 850 + 85 + 765) x t off0)
    (hown : Y.ownsRow Wb.heap.size 29 2 v1 (g0 + 1) (flatR (bndR t off0 c0) (g0 + 1))) (hgr : X.grownBy Y (sv c0).ownBlock) (hlt : v1.ownBlock = (sv c0).ownBlock ∨ v1.ownBlock = some X.heap.size) :
    KeepsFrom Wb.heap.size W1 (Y.setCell ⟨OB, c0, none⟩ v1) ∧ Kx Wb.heap.size (fun q => q = bm ∨ q = OB) W1 (Y.setCell ⟨OB, c0, none⟩ v1) ∧ BI Wb B bm x t OB (k + 1) (Y.setCell ⟨OB, c0, none⟩ v1) := by
  subst hk
  have hmX : ∀ b cs T, W1.heap[b]? = some (.cells cs T (0, 0)) → ¬ b = bm := fun b cs T hb e => by
    obtain ⟨es, kk, hm⟩ := hm1; subst e; rw [hm] at hb; cases hb
  have hrX := hr.fr hX (fun b cs T hb => hmX b cs T hb)
  have hrow := hr.row c0 hc0
  have hown1 : ∀ q, (sv c0).ownBlock = some q → Wb.heap.size ≤ q ∧ ∃ cur, W1.heap[q]? = some (.cells cur 29 (0, 0)) ∧ X.heap[q]? = some (.cells cur 29 (0, 0)) := fun q hq => by
    rcases hrow.2 with ⟨e, _⟩ | ⟨g, cap, cur, e, hb, hg, _⟩
    · rw [e] at hq; cases hq
    · rw [e] at hq; cases hq
      exact ⟨hb, cur, hg, by rw [hX.block _ (Array.getElem?_eq_some_iff.1 hg).1 (hmX _ _ _ hg)]; exact hg⟩
  have hf : Fr (fun q => (q = bm ∨ q = OB) ∨ (sv c0).ownBlock = some q) W1 (Y.setCell ⟨OB, c0, none⟩ v1) :=
    ((hX.mono (fun _ _ h => .inl (.inl h))).trans ((Fr.grown hgr).mono (fun _ _ h => .inr h))).trans ((Fr.set Y OB c0 v1).mono (fun _ _ h => .inl (.inr h)))
  refine ⟨⟨hf.size, fun b o hb ho hc => ?_⟩, Kx.fr hfb.size hf (fun b hb h => h.elim id (fun h => absurd (hown1 b h).1 (by omega))), ?_, ?_, _, hrX.step hc0 hg0 hOB hown hgr hlt⟩
  · rw [hf.block b (Array.getElem?_eq_some_iff.1 ho).1]
    · exact ho
    · rintro ((e | e) | e)
      · omega
      · omega
      · obtain ⟨_, cur, h1, _⟩ := hown1 b e
        rw [ho] at h1; cases h1; cases hc
  · have hB := (Array.getElem?_eq_some_iff.1 hWB).1
    have hF : Fr (fun q => q = bm ∨ q = OB) Wb (Y.setCell ⟨OB, c0, none⟩ v1) := by
      refine ⟨hf.os.trans hfb.os, hf.tape.trans hfb.tape, hf.output.trans hfb.output, Nat.le_trans hfb.size hf.size, fun b hb he => ?_⟩
      rw [hf.block b (Nat.lt_of_lt_of_le hb hfb.size) (fun h => h.elim he (fun h => absurd (hown1 b h).1 (by omega)))]
      exact hfb.block b hb he
    have hcY : CM Y (t.memo off0) bm (340 + (c0 * t.ng + g0) * 850 + 85 + 765) := hsX.cm.kept hgr (fun e => by have := (hown1 _ e.symm).1; omega)
    refine ⟨(hF.block B hB (fun h => h.elim hBm hBO)).trans hWB, hwl.below (hw.trans (hF.low hw.size (fun q hq h => by omega))), ?_⟩
    exact (hcY.setCell (p := ⟨OB, c0, none⟩) (fun e => by subst e; obtain ⟨es, kk, hm⟩ := hcY.mp; have := ((hrX.ob.kept hgr (.inr fun e => by have := (hown1 OB e.symm).1; omega))); obtain ⟨g, cap, cur, e, _, hg⟩ := this.2.resolve_left (fun h => by cases h.1); cases e; rw [hm] at hg; cases hg.1) v1).mono (by rw [Nat.succ_mul]; omega)
  · refine ⟨hf.os.trans hfb.os, hf.tape.trans hfb.tape, hf.output.trans hfb.output, Nat.le_trans hfb.size hf.size, fun b hb he => ?_⟩
    rw [hf.block b (Nat.lt_of_lt_of_le hb hfb.size) (fun h => h.elim he (fun h => absurd (hown1 b h).1 (by omega)))]
    exact hfb.block b hb he
set_option maxRecDepth 100000 in
set_option maxHeartbeats 1000000 in
theorem Bounds_bad (x : WV) (t : Tb) (hs : t.small) (w : World) (hl : WL w x t) (hf : t.fault ≠ 0) :
    Calls Try.prog 39 #[.agg #[x.cv t, x.bv t, x.rv t, x.nv t]] w fun e w' => e = .returned (.tuple #[.slice none 0 0, .int .i64 t.fault]) ∧ Below w.heap.size w w' := by
  have HC : Hid (∀ X, Below w.heap.size w X → Calls Try.prog 71 #[.agg #[x.cv t, x.bv t, x.rv t, x.nv t]] X fun e w' => e = .returned (.tuple #[.pointer none, .int .i64 t.fault]) ∧ Below X.heap.size X w') := fun X hX => bounded_bad x t hs X (hl.below hX) hf
  have hq : (t.fault != 0) = true := by simp [hf]
  clear hl hs hf
  generalize t.fault = f at *
  unfold WV.cv WV.bv WV.rv WV.nv at *
  go_enter Try.func39, Try.ntmps39
  go_wp2_with (go_at_call 71; refine (HC.out _ (below_alloc _ _)).mono ?_; rintro _ w1 ⟨rfl, hb1⟩)
  go_ret2
  exact ⟨rfl, (below_step (below_alloc _ _) hb1).alloc (by have := hb1.size; simp at this; omega) _⟩
set_option maxRecDepth 100000 in
set_option maxHeartbeats 1000000 in
theorem Bounds_fail (x : WV) (t : Tb) (hs : t.small) (w : World) (hl : WL w x t) (hf : t.fault = 0) (ha : t.agree off0 = false) :
    Calls Try.prog 39 #[.agg #[x.cv t, x.bv t, x.rv t, x.nv t]] w fun e w' => e = .returned (.tuple #[.slice none 0 0, .int .i64 9]) ∧ Below w.heap.size w w' := by
  have HC : Hid (∀ X, Below w.heap.size w X → Calls Try.prog 71 #[.agg #[x.cv t, x.bv t, x.rv t, x.nv t]] X fun e w' => e = .returned (.tuple #[.pointer none, .int .i64 9]) ∧ Below X.heap.size X w') := fun X hX => (bounded_any x t hs X (hl.below hX) hf false ha).mono (fun _ _ ⟨B, bm, h1, _, _, _, h2⟩ => ⟨h1, h2⟩)
  clear hl hs hf ha
  unfold WV.cv WV.bv WV.rv WV.nv at *
  go_enter Try.func39, Try.ntmps39
  go_wp2_with (go_at_call 71; refine (HC.out _ (below_alloc _ _)).mono ?_; rintro _ w1 ⟨rfl, hb1⟩)
  go_ret2
  exact ⟨rfl, (below_step (below_alloc _ _) hb1).alloc (by have := hb1.size; simp at this; omega) _⟩
attribute [local go_sem] Oper.semAt_some
attribute [local go_sem ↓] Go.wp_at_zero Go.wp_at_succ
set_option maxRecDepth 100000 in
set_option maxHeartbeats 4000000 in
theorem Bounds_okS (x : WV) (t : Tb) (hs : t.small) (w : World) (hl : WL w x t) (hf : t.fault = 0) (ha : t.agree off0 = true) (hne : ∀ c g, c < t.nc → g < t.ng → emptyR (t.up off0 c g) = false) :
    Calls Try.prog 39 #[.agg #[x.cv t, x.bv t, x.rv t, x.nv t]] w fun e w' => ∃ OB, e = .returned (.tuple #[.slice (some ⟨OB, 0, none⟩) t.nc t.nc, .int .i64 0]) ∧ RowsAt w' (.slice (some ⟨OB, 0, none⟩) t.nc t.nc) t.nc (fun _ => t.ng) (bndR t off0) ∧ Below w.heap.size w w' := by
  have hG := Gd.of_fault hs hf
  have ng2 := hG.ng2; have ng4 := hG.ng4; have nc1 := hG.nc1; have nc4 := hG.nc4
  obtain ⟨i0, hi0, hz0, hz1, hz2⟩ := info_parts Try.infoRangeF
  obtain ⟨i1, hi1, hy0, hy1, hy2⟩ := info_parts Try.infoRangesF
  have HC : Hid (∀ X, Below w.heap.size w X → Calls Try.prog 71 #[.agg #[x.cv t, x.bv t, x.rv t, x.nv t]] X fun e w' => ∃ B bm, e = .returned (.tuple #[.pointer (some ⟨B, 0, none⟩), .int .i64 0]) ∧ St w' B bm 340 x t off0 ∧ X.heap.size ≤ B ∧ X.heap.size ≤ bm ∧ Below X.heap.size X w') := fun X hX => bounded_any x t hs X (hl.below hX) hf true ha
  have HG := Lib.hid hG; have HL := Lib.hid hl; have HNE := Lib.hid hne; have HS := Lib.hid hs
  clear hl hs hf ha hG hne
  unfold WV.cv WV.bv WV.rv WV.nv at HC ⊢
  refine callsIn_wide.1 (callsIn_of_wp_marks (n := 0) Try.func39 rfl trivial ?_ rfl)
  simp only [Try.ntmps39, List.size_toArray, List.length_cons, List.length_nil, Nat.reduceAdd, Nat.reduceSub, Array.replicate_succ, Array.replicate_zero, List.push_toArray, List.append_toArray, List.nil_append, List.cons_append]
  refine wpIn_wide.2 ?_
  go_wp2_with (first | (go_at_call 71; refine (HC.out _ (below_alloc _ _)).mono ?_; rintro _ w1 ⟨B, bm, rfl, hs1, hB1, hm1, hb1⟩; have HS1 := Lib.hid hs1; have HB1 := Lib.hid (below_step (below_alloc _ _) hb1); have hz := hb1.size; simp only [World.size_alloc] at hz hB1 hm1; have hT := (hb1.block w.heap.size (by simp)).trans (heap_alloc_new w _); have HTB := Lib.hid hT; have ht0 := cell_of_row _ _ 0 _ _ _ hT; have ht1 := cell_of_row _ _ 1 _ _ _ hT; have ht2 := cell_of_row _ _ 2 _ _ _ hT; have ht3 := cell_of_row _ _ 3 _ _ _ hT; clear hs1 hb1 hT; have ht0a : (w1.alloc (.cells #[.pointer (some ⟨B, 0, none⟩)] 111)).cell? ⟨w.heap.size, 0, none⟩ = _ := (kept (below_alloc w1 _) (by omega) ht0); clear ht0 ht1 ht2 ht3) | (at_make; refine wpList_make_full _ rfl (.tmp 18) (.tmp 18) 33 rfl 0 34 i1 (.slice none 0 0) 1 Try.underlying33 hi1 hy0 hy1 .i64 .i64 (t.nc : Int) (t.nc : Int) t.nc rfl rfl rfl rfl (by rw [hy2]; omega) (by unfold maxLen; omega) (Nat.zero_le _) ?_))
  intro w2 hob hg2
  have hbV := below_alloc w1 (.cells #[.pointer (some ⟨B, 0, none⟩)] 111)
  have hb2 : Below (w1.alloc (.cells #[.pointer (some ⟨B, 0, none⟩)] 111)).heap.size (w1.alloc (.cells #[.pointer (some ⟨B, 0, none⟩)] 111)) w2 := ⟨hg2.os, hg2.tape, hg2.output, hg2.size, fun k hk => hg2.block k hk (by simp)⟩
  have hb12 := below_step hbV hb2
  have hzW := own_lt hob rfl
  obtain ⟨OB, hOBe⟩ : ∃ OB, OB = w1.heap.size + 1 := ⟨_, rfl⟩
  rw [← hOBe] at hob hzW ⊢
  replace hzW : OB < w2.heap.size := hzW
  have HOB := Lib.hid hob
  have hV2 : w2.heap[w1.heap.size]? = some (.cells #[.pointer (some ⟨B, 0, none⟩)] 111 (0, 0)) := (hb2.block w1.heap.size (by simp)).trans (heap_alloc_new w1 _)
  have HV2 := Lib.hid hV2
  have HB2 := Lib.hid hb12
  have HOBE := Lib.hid hOBe
  have hT3 : (w2.alloc (.cells #[.slice (some ⟨OB, 0, none⟩) t.nc t.nc] 33)).heap[w.heap.size]? = some (.cells #[.slice x.ca t.nc x.cc, .slice x.ba t.nb x.bc, .slice x.ra t.nr x.rc, .slice x.na t.nn x.nc] 36 (0, 0)) := ((below_alloc w2 _).block w.heap.size (by omega)).trans ((hb12.block w.heap.size (by omega)).trans HTB.out)
  have ht0 := cell_of_row _ _ 0 _ _ _ hT3
  have ht1 := cell_of_row _ _ 1 _ _ _ hT3
  have ht2 := cell_of_row _ _ 2 _ _ _ hT3
  have ht3 := cell_of_row _ _ 3 _ _ _ hT3
  clear hob hV2 hb12 hb2 hg2 hbV hT3 ht0a hOBe
  go_wp2_with (go_at_call 76; refine (cells_any _ _ _ _ _).mono ?_; rintro _ w3 ⟨rfl, rfl⟩)
  have hbO := below_alloc w2 (.cells #[.slice (some ⟨OB, 0, none⟩) t.nc t.nc] 33)
  have hbT := below_alloc (w2.alloc (.cells #[.slice (some ⟨OB, 0, none⟩) t.nc t.nc] 33)) (.cells #[.slice x.ca t.nc x.cc, .slice x.ba t.nb x.bc, .slice x.ra t.nr x.rc, .slice x.na t.nn x.nc] 36)
  have hnO := heap_alloc_new w2 (.cells #[.slice (some ⟨OB, 0, none⟩) t.nc t.nc] 33)
  have hnT := heap_alloc_new (w2.alloc (.cells #[.slice (some ⟨OB, 0, none⟩) t.nc t.nc] 33)) (.cells #[.slice x.ca t.nc x.cc, .slice x.ba t.nb x.bc, .slice x.ra t.nr x.rc, .slice x.na t.nn x.nc] 36)
  have hzO := World.size_alloc w2 (.cells #[.slice (some ⟨OB, 0, none⟩) t.nc t.nc] 33)
  have hzT := World.size_alloc (w2.alloc (.cells #[.slice (some ⟨OB, 0, none⟩) t.nc t.nc] 33)) (.cells #[.slice x.ca t.nc x.cc, .slice x.ba t.nb x.bc, .slice x.ra t.nr x.rc, .slice x.na t.nn x.nc] 36)
  have hbOT := below_step hbO hbT
  have hnO' := (hbT.block w2.heap.size (by omega)).trans hnO
  rw [hzO] at hzT hnT
  clear hbO hbT hnO hzO ht0 ht1 ht2 ht3
  generalize (w2.alloc (.cells #[.slice (some ⟨OB, 0, none⟩) t.nc t.nc] 33)).alloc (.cells #[.slice x.ca t.nc x.cc, .slice x.ba t.nb x.bc, .slice x.ra t.nr x.rc, .slice x.na t.nn x.nc] 36) = Wb at *
  obtain ⟨hzTa, hzTb⟩ : w2.heap.size + 2 ≤ Wb.heap.size ∧ Wb.heap.size ≤ w2.heap.size + 2 := by omega
  clear hzT
  have hB1s : B < w1.heap.size := (Array.getElem?_eq_some_iff.1 HS1.out.wb).1
  have hbm1s : bm < w1.heap.size := HS1.out.cm.lt
  have hBm : B ≠ bm := HS1.out.ne
  obtain ⟨hOB1, hOB2⟩ : w1.heap.size + 1 ≤ OB ∧ OB ≤ w1.heap.size + 1 := by have := HOBE.out; omega
  have hWb1 : Below w1.heap.size w1 Wb := HB2.out.trans (hbOT.mono (by omega))
  have hWbw : Below w.heap.size w Wb := HB1.out.trans (hWb1.mono HB1.out.size)
  have HWBW := Lib.hid hWbw
  have HWB1 := Lib.hid hWb1
  have hVb : Wb.heap[w1.heap.size]? = some (.cells #[.pointer (some ⟨B, 0, none⟩)] 111 (0, 0)) := (hbOT.block _ (by omega)).trans HV2.out
  have hOBb : Wb.ownsRow 0 34 1 (.slice (some ⟨OB, 0, none⟩) t.nc t.nc) t.nc (List.replicate t.nc (.slice none 0 0)) := by
    have h := own_fr HOB.out (Fr.below hbOT (fun _ => False)) (fun _ _ _ _ _ h => h)
    rw [toList_madeCells_one] at h
    exact h
  have HVB := Lib.hid hVb; have HOBB := Lib.hid hOBb; have HNO := Lib.hid hnO'; have HNT := Lib.hid hnT
  clear hVb hOBb hnO' hnT hWbw hWb1 hbOT
  have hTB : ∀ X, Kx Wb.heap.size (fun q => q = bm ∨ q = OB) Wb X → TBox X (w2.heap.size + 1) x t := fun X hX => by
    refine ⟨(hX.block _ (by omega) (by omega)).trans HNT.out, HL.out.blocks (Nat.le_trans HWBW.out.size hX.size) (fun b hb => ?_)⟩
    rw [hX.block b (by have := HWBW.out.size; omega) (by omega)]
    exact HWBW.out.block b hb
  have HTB2 := Lib.hid hTB
  clear hTB
  refine wpIn_wide.1 (listed_range (n := 0) (gf := 106) (lb := #[.pointer (some ⟨w2.heap.size + 1, 0, none⟩)]) rfl (enters_of Try.func106 (by kernel_rfl) rfl)
    (cells_listed (w2.heap.size + 1) Wb.heap.size (fun q => q = bm ∨ q = OB) x t HS.out nc4 ng4 Wb (Nat.le_refl _) HTB2.out) (fun _ => rfl) Kx.trans (fun W l o' h => Kx.put W l o' h)
    (BI Wb B bm x t OB) (BI.own Wb B bm x t OB (by omega)) ⟨HS1.out.below HWB1.out, Fr.refl _ _, _, RowsI.start HOBB.out⟩
    (fun k a' W' => BI Wb B bm x t OB k W' ∧ ∃ Bx, W'.heap[Bx]? = some (.cells #[.int .i64 ((k / t.ng : Nat) : Int), .int .i64 ((k % t.ng : Nat) : Int)] 39 (0, 0)) ∧ Wb.heap.size ≤ Bx ∧ a' = { tmps := #[.agg #[.slice x.ca t.nc x.cc, .slice x.ba t.nb x.bc, .slice x.ra t.nr x.rc, .slice x.na t.nn x.nc], .pointer (some ⟨w.heap.size, 0, none⟩), .slice none 0 0, .int .i64 0, .pointer (some ⟨w1.heap.size, 0, none⟩), .int .i64 0, .pointer (some ⟨w2.heap.size, 0, none⟩), .pointer (some ⟨Bx, 0, none⟩), .tuple #[.pointer (some ⟨B, 0, none⟩), .int .i64 0], .agg #[.slice x.ca t.nc x.cc, .slice x.ba t.nb x.bc, .slice x.ra t.nr x.rc, .slice x.na t.nn x.nc], .tuple #[.pointer (some ⟨B, 0, none⟩), .int .i64 0], .pointer (some ⟨B, 0, none⟩), .int .i64 0, .int .i64 0, .bool false, undef, .pointer (some ⟨w.heap.size, 0, none⟩), .slice x.ca t.nc x.cc, .int .i64 t.nc, .slice (some ⟨OB, 0, none⟩) t.nc t.nc, .agg #[.slice x.ca t.nc x.cc, .slice x.ba t.nb x.bc, .slice x.ra t.nr x.rc, .slice x.na t.nn x.nc], .func (.func 106) #[] #[.pointer (some ⟨w2.heap.size + 1, 0, none⟩)], .agg #[.int .i64 ((k / t.ng : Nat) : Int), .int .i64 ((k % t.ng : Nat) : Int)], undef, undef, undef, undef, undef, undef, undef, undef, undef, undef, undef, undef, undef, undef, undef, undef, undef, undef], defers := [] })
    ?hA ?assign ?body ?done)
  case hA =>
    rintro k a' s X Y row ⟨hs, Bx, hbx, hle, rfl⟩ hg hr
    refine ⟨BI.own Wb B bm x t OB (by omega) _ X Y row hs hg hr, Bx, ?_, hle, rfl⟩
    rw [hg.block _ (Array.getElem?_eq_some_iff.1 hbx).1 (fun e => by obtain ⟨_, o, ho, hc⟩ := hr _ e.symm; rw [hbx] at ho; cases ho; cases hc)]
    exact hbx
  case assign =>
    rintro l1 k W1 hy hlen
    have HY := Lib.hid hy
    have hzz := hy.fr.size
    clear hy
    simp only [encC]
    gi_wp2
    exact ⟨Kx.below hzz (below_alloc _ _), (KeepsOthers.alloc _ _).from _, OwnFrom.alloc (BI.own Wb B bm x t OB (by omega)) _ HY.out, W1.heap.size, heap_alloc_new _ _, hzz, rfl⟩
  case body =>
    rintro l1 k a' W1 hl ⟨hbi, Bx, hbx, hle, rfl⟩ hlen
    obtain ⟨hs1', hf1, sv, hr1⟩ := hbi
    have hng : 0 < t.ng := by omega
    obtain ⟨c0, hc0⟩ : ∃ c0, c0 = k / t.ng := ⟨_, rfl⟩
    obtain ⟨g0, hg0⟩ : ∃ g0, g0 = k % t.ng := ⟨_, rfl⟩
    have hkk : c0 * t.ng + g0 = k := by rw [hc0, hg0, Nat.mul_comm]; exact Nat.div_add_mod k t.ng
    have hg0l : g0 < t.ng := by rw [hg0]; exact Nat.mod_lt _ hng
    have hc0l : c0 < t.nc := by
      rw [hc0]; exact (Nat.div_lt_iff_lt_mul hng).2 hlen
    rw [← hc0, ← hg0] at hbx ⊢
    clear hc0 hg0
    have hk16 : k ≤ 16 := by
      have : t.nc * t.ng ≤ 4 * 4 := Nat.mul_le_mul nc4 ng4
      omega
    have hbm1 : bm < W1.heap.size := hs1'.cm.lt
    have hbm := hbm1
    have hrow := hr1.row c0 hc0l
    rw [← hkk, (cntB_at hg0l).1] at hrow
    obtain ⟨ra, rc, hsv⟩ := own_slice' hrow
    have HRW := Lib.hid hrow
    rw [hsv] at HRW
    obtain ⟨es, ek, hm1⟩ := hs1'.cm.mp
    have hcb : ∀ b cs T, W1.heap[b]? = some (.cells cs T (0, 0)) → ¬ b = bm := fun b cs T hb e => by subst e; rw [hm1] at hb; cases hb
    have hOBc := (hr1.at hc0l).1
    rw [hsv] at hOBc
    have hB0 : ∃ cs, W1.heap[OB]? = some (.cells cs 34 (0, 0)) := by
      obtain ⟨g, cap, cur, e, _, hg, _⟩ := hr1.ob.2.resolve_left (fun h => by cases h.1)
      cases e; exact ⟨_, hg⟩
    obtain ⟨ocs, hOBo⟩ := hB0
    have hVx : W1.heap[w1.heap.size]? = some (.cells #[.pointer (some ⟨B, 0, none⟩)] 111 (0, 0)) := (hf1.block _ (by omega) (by omega)).trans HVB.out
    have hOx : W1.heap[w2.heap.size]? = some (.cells #[.slice (some ⟨OB, 0, none⟩) t.nc t.nc] 33 (0, 0)) := (hf1.block _ (by omega) (by omega)).trans HNO.out
    have HCK : Hid (∀ X, Fr (fun q => q = bm) W1 X → X.cell? ⟨w2.heap.size, 0, none⟩ = some (.slice (some ⟨OB, 0, none⟩) t.nc t.nc) ∧ X.cell? ⟨w1.heap.size, 0, none⟩ = some (.pointer (some ⟨B, 0, none⟩)) ∧ X.cell? ⟨Bx, 0, none⟩ = some (.int .i64 (c0 : Int)) ∧ X.cell? ⟨Bx, 1, none⟩ = some (.int .i64 (g0 : Int)) ∧ X.cell? ⟨OB, c0, none⟩ = some (.slice ra g0 rc)) := fun X hX => by
      have hh : ∀ (b : Nat) (cs : Array Value) (T : TypeId), W1.heap[b]? = some (.cells cs T (0, 0)) → X.heap[b]? = some (.cells cs T (0, 0)) := fun b cs T hb => (hX.block b (Array.getElem?_eq_some_iff.1 hb).1 (hcb b cs T hb)).trans hb
      exact ⟨cell_of_row _ _ 0 _ _ _ (hh _ _ _ hOx), cell_of_row _ _ 0 _ _ _ (hh _ _ _ hVx), cell_of_row _ _ 0 _ _ _ (hh _ _ _ hbx), cell_of_row _ _ 1 _ _ _ (hh _ _ _ hbx), hX.cell hOBc (fun e => hcb _ _ _ hOBo e)⟩
    have HRO : Hid (∀ X, Fr (fun q => q = bm) W1 X → X.ownsRow Wb.heap.size 29 2 (.slice ra g0 rc) g0 (flatR (bndR t off0 c0) g0)) := fun X hX => own_fr HRW.out hX (fun g cur _ _ hg e => hcb _ _ _ hg e)
    obtain ⟨p, q, hpq⟩ : ∃ p q, bndR t off0 c0 g0 = (p, q) := ⟨_, _, rfl⟩
    have hup := HNE.out c0 g0 hc0l hg0l
    have hfb := up_full hup
    have hub := up_bd t off0 c0 g0
    obtain ⟨u0, u1, hu⟩ : ∃ u0 u1, t.up off0 c0 g0 = (u0, u1) := ⟨_, _, rfl⟩
    have HUP : Hid (∀ X, St X B bm (340 + k * 850) x t off0 → Calls Try.prog 61 #[.pointer (some ⟨B, 0, none⟩), .agg #[.int .i64 c0, .int .i64 g0]] X (GivesR X B bm (340 + k * 850 + 85) x t off0 (u0, u1))) := fun X hX => by
      have := up_all HG.out B bm x off0 c0 hc0l g0 hg0l (340 + k * 850) (by omega) X hX
      rw [hu] at this; exact this
    have HAF : Hid (∀ X, St X B bm (340 + k * 850 + 85) x t off0 → Calls Try.prog 60 #[.pointer (some ⟨B, 0, none⟩), .agg #[.int .i64 c0, .int .i64 g0], .agg #[.int .i64 u0, .int .i64 u1]] X (GivesR X B bm (340 + k * 850 + 85 + 765) x t off0 (p, q))) := fun X hX => by
      have h1 := after_all HG.out B bm x off0 (fun c g hc hg => HNE.out c g hc hg) (t.nc - 1 - c0) c0 (by omega) g0 hg0l (t.up off0 c0 g0) ⟨hub.1, by simp [emptyR] at hup; exact hup, hub.2⟩ (340 + k * 850 + 85) (by omega) X hX
      have h2 : t.aft off0 (t.nc - 1 - c0) c0 g0 (t.up off0 c0 g0) = (p, q) := hpq
      rw [h2, hu] at h1
      exact h1.mono (fun _ _ h => h.mono (by omega))
    have HSTEP : Hid (∀ X, Fr (fun q => q = bm) W1 X → St X B bm (340 + k * 850 + 85 + 765) x t off0 → ∀ v1 Y, Y.ownsRow Wb.heap.size 29 2 v1 (g0 + 1) (flatR (bndR t off0 c0) g0 ++ [.int .i64 p, .int .i64 q]) → X.grownBy Y (Value.slice ra g0 rc).ownBlock → (v1.ownBlock = (Value.slice ra g0 rc).ownBlock ∨ v1.ownBlock = some X.heap.size) →
        Y.frozen? ⟨OB, c0, none⟩ = false ∧ (Y.cell? ⟨w2.heap.size, 0, none⟩ = some (.slice (some ⟨OB, 0, none⟩) t.nc t.nc) ∧ Y.cell? ⟨w1.heap.size, 0, none⟩ = some (.pointer (some ⟨B, 0, none⟩)) ∧ Y.cell? ⟨Bx, 0, none⟩ = some (.int .i64 (c0 : Int)) ∧ Y.cell? ⟨Bx, 1, none⟩ = some (.int .i64 (g0 : Int)) ∧ Y.cell? ⟨OB, c0, none⟩ = some (.slice ra g0 rc)) ∧ KeepsFrom Wb.heap.size W1 (Y.setCell ⟨OB, c0, none⟩ v1) ∧ Kx Wb.heap.size (fun q => q = bm ∨ q = OB) W1 (Y.setCell ⟨OB, c0, none⟩ v1) ∧ BI Wb B bm x t OB (k + 1) (Y.setCell ⟨OB, c0, none⟩ v1)) := fun X hX hsX v1 Y hown hgr hlt => by
      have hh : ∀ (b : Nat) (cs : Array Value) (T : TypeId), W1.heap[b]? = some (.cells cs T (0, 0)) → T ≠ 29 ∨ b < Wb.heap.size → Y.heap[b]? = some (.cells cs T (0, 0)) := fun b cs T hb hd => by
        have h1 := (hX.block b (Array.getElem?_eq_some_iff.1 hb).1 (hcb b cs T hb)).trans hb
        refine (hgr.block b (Array.getElem?_eq_some_iff.1 h1).1 (fun e => ?_)).trans h1
        rcases HRW.out.2 with ⟨e2, _⟩ | ⟨g, cap, cur, e2, hb2, hg2, _⟩
        · rw [e2] at e; cases e
        · rw [e2] at e; cases e
          rcases hd with hd | hd
          · rw [hg2] at hb; cases hb; exact hd rfl
          · have hd' : g < Wb.heap.size := hd
            omega
      have hOY := hh _ _ _ hOBo (.inr (by omega))
      have hrX := hr1.fr hX (fun b cs T hb => hcb b cs T hb)
      rw [← hsv] at hgr hlt
      refine ⟨frozen_of_row _ _ _ _ _ hOY, ⟨cell_of_row _ _ 0 _ _ _ (hh _ _ _ hOx (.inr (by omega))), cell_of_row _ _ 0 _ _ _ (hh _ _ _ hVx (.inr (by omega))), cell_of_row _ _ 0 _ _ _ (hh _ _ _ hbx (.inl (by decide))), cell_of_row _ _ 1 _ _ _ (hh _ _ _ hbx (.inl (by decide))), ?_⟩, ?_⟩
      · rw [cell_of_row _ _ _ _ _ _ hOY, ← cell_of_row _ _ c0 _ _ _ hOBo]; exact hOBc
      · refine BI.step (w := w) (by omega) (by omega) HWBW.out HL.out (by omega) (by omega) (HS1.out.below HWB1.out).wb hBm (by omega) hkk hc0l hg0l ⟨_, _, hm1⟩ hf1 hr1 hX hsX ?_ hgr hlt
        rw [flatR_succ, hpq]; exact hown
    have HAX := Lib.hid (AF.base hs1')
    have HSW := Lib.hid hs1'
    have HWb := Lib.hid hf1.size
    have hp0 := HCK.out W1 (Fr.refl _ _)
    have hOLT : OB < W1.heap.size := hr1.lt
    have hc0i : (c0 : Int) < (t.nc : Int) := by omega
    unfold GivesR at HUP HAF
    simp only at HUP HAF
    clear hu hup hfb hub hpq hrow hOBo hOBc hbx hVx hOx hcb hm1 hsv hr1 hf1 hs1' hkk
    gi_wp2_with fail
    refine region_wideZ (fun X => X.cell? ⟨w2.heap.size, 0, none⟩ = some (.slice (some ⟨OB, 0, none⟩) t.nc t.nc) ∧ X.cell? ⟨w1.heap.size, 0, none⟩ = some (.pointer (some ⟨B, 0, none⟩)) ∧ X.cell? ⟨Bx, 0, none⟩ = some (.int .i64 (c0 : Int)) ∧ X.cell? ⟨Bx, 1, none⟩ = some (.int .i64 (g0 : Int)) ∧ X.cell? ⟨OB, c0, none⟩ = some (.slice ra g0 rc)) (by kernel_rfl) (no_defer (by kernel_rfl)) hp0 (fun hS => ?_)
    have HAY : Hid (AF W1 W1.drew B bm (340 + k * 850) x t off0 []) := HAX.out.below hbm1 ((Below.refl _ _).drew)
    clear hp0 HAX
    generalize W1.drew = X at *
    refine tk [0, 1, 2, 3, 4, 5] ?_
    repeat (refine tkZ (oi := ⟨_, _, _, _, _, _⟩) (v := ?_) rfl (by kernel_rfl) (by rfl) (fun _ _ _ h => h) hS ?_ ?_; rotate_left; (· rintro W' ⟨z0, z1, z2, z3, z4⟩; go_simp; try with_reducible rfl); try simp only [Act.put, putA, putZ, putS])
    refine tk0 ?_
    refine tZ 6 (oi := ⟨_, _, _, _, _, _⟩) (v := .pointer (some ⟨OB, c0, none⟩)) rfl (by kernel_rfl) (by rfl) (fun _ _ _ h => h) hS ?_ ?_
    · rintro W' ⟨z0, z1, z2, z3, z4⟩; go_simp
    try simp only [Act.put, putA, putZ, putS]
    refine tk [7, 8, 9, 10, 11] ?_
    repeat (refine tkZ (oi := ⟨_, _, _, _, _, _⟩) (v := ?_) rfl (by kernel_rfl) (by rfl) (fun _ _ _ h => h) hS ?_ ?_; rotate_left; (· rintro W' ⟨z0, z1, z2, z3, z4⟩; go_simp; try with_reducible rfl); try simp only [Act.put, putA, putZ, putS])
    refine tk0 ?_
    refine wpAnyZ_next (rs := [12]) (by kernel_rfl) (by simp) ?_
    refine NextZ.cons (o := ⟨some 35, _, _, _, _, _⟩) rfl (fun K hK => ?_) NextZ.nil
    go_simp
    refine (HUP.out X HAY.out.st).mono ?_
    rintro _ X0 ⟨rfl, hs0, hf0⟩
    (try go_wp2_with fail)
    have HA0 := Lib.hid (HAY.out.go hbm hf0 hs0)
    refine hK.out _ _ (HCK.out _ HA0.out.fr) (fun hS => ?_)
    clear hK K
    try simp only [Act.put, putA, putZ, putS]
    clear hf0 hs0
    refine wpAnyZ_next (rs := [13]) (by kernel_rfl) (by simp) ?_
    refine NextZ.cons (o := ⟨some 36, _, _, _, _, _⟩) rfl (fun K hK => ?_) NextZ.nil
    go_simp
    refine (HAF.out X0 HA0.out.st).mono ?_
    rintro _ X1 ⟨rfl, hs1, hf1⟩
    (try go_wp2_with fail)
    have HA1 := Lib.hid (HA0.out.go hbm hf1 hs1)
    refine hK.out _ _ (HCK.out _ HA1.out.fr) (fun hS => ?_)
    clear hK K
    try simp only [Act.put, putA, putZ, putS]
    clear hf1 hs1
    refine wpAnyZ_next (rs := [14]) (by kernel_rfl) (by simp) ?_
    refine NextZ.cons (o := ⟨some 37, _, _, _, _, _⟩) rfl (fun K hK => ?_) NextZ.nil
    go_simp
    have HA2 := Lib.hid (HA1.out.alloc hbm #[.int .i64 p, .int .i64 q] 29)
    have hn2_ := HA1.out.fr.size
    refine hK.out _ _ (HCK.out _ HA2.out.fr) (fun hS => ?_)
    clear hK K
    try simp only [Act.put, putA, putZ, putS]
    generalize X1.heap.size = J2 at *
    generalize (X1.alloc (.cells #[.int .i64 p, .int .i64 q] 29)) = X2 at *
    refine wpAnyZ_next (rs := [15]) (by kernel_rfl) (by simp) ?_
    refine NextZ.cons (o := ⟨some 38, _, _, _, _, _⟩) rfl (fun K hK => ?_) NextZ.nil
    refine step_append_src X2 (by rfl) (.tmp 30) (.tmp 37) 34 (by rfl) Wb.heap.size 29 i0 (.agg #[.int .i64 0, .int .i64 0]) 2 16 Try.underlying34 hi0 hz0 hz1 hz2 rfl (by decide) (.slice ra g0 rc) g0 (flatR (bndR t off0 c0) g0) (by rfl) (HRO.out _ HA2.out.fr) (some ⟨J2, 0, none⟩) 1 1 [.int .i64 p, .int .i64 q] (by rfl) ⟨rfl, fun j u hu => ⟨_, rfl, World.news_of_block (HA2.out.bk _ _ _ (.head _)).2 j u hu⟩⟩ (by simp [Value.oneCell']) (by unfold maxLen; omega) (by omega) (Nat.le_trans HWb.out HA2.out.fr.size) ?_
    intro v1 Y hown hgr hlt
    obtain ⟨ra1, rc1, rfl⟩ := own_slice' hown
    have HFIN := Lib.hid (HSTEP.out X2 HA2.out.fr HA2.out.st _ Y hown hgr hlt)
    have hOBf := HFIN.out.1
    have hYS := HFIN.out.2.1
    clear hown hgr hlt
    refine hK.out _ _ hYS (fun hS => ?_)
    clear hK K
    try simp only [Act.put, putA, putZ, putS]
    refine tZ 16 (oi := ⟨_, _, _, _, _, _⟩) (v := .pointer (some ⟨OB, c0, none⟩)) rfl (by kernel_rfl) (by rfl) (fun _ _ _ h => h) hS ?_ ?_
    · rintro W' ⟨z0, z1, z2, z3, z4⟩; go_simp
    try simp only [Act.put, putA, putZ, putS]
    refine wpAnyZ_next (rs := [17]) (by kernel_rfl) (by simp) ?_
    refine NextZ.last (o := ⟨none, _, _, _, _, _⟩) rfl (by kernel_rfl) (fun K hK => ?_)
    have hoc := hS.2.2.2.2
    go_simp
    refine hK.out _ _ ?_
    clear hK K hoc
    (try simp only [Act.put])
    refine wpAnyZ_done (by kernel_rfl) ?_ _
    gi_wp2
    exact HFIN.out.2.2
  case done =>
    rintro D W5 hD hbi hK
    obtain ⟨hs5, hf5, sv, hr5⟩ := hbi
    have z0 : W5.cell? ⟨w2.heap.size, 0, none⟩ = some (.slice (some ⟨OB, 0, none⟩) t.nc t.nc) := cell_of_row _ _ 0 _ _ _ ((hf5.block _ (by omega) (by omega)).trans HNO.out)
    have HK := Lib.hid hK; have HR5 := Lib.hid hr5; have HF5 := Lib.hid hf5
    clear hK hs5 hf5 hr5
    go_wp2
    refine ⟨by simp, .inl ⟨_, _, rfl, run_takeDeferred HK.out, ?_⟩⟩
    have hfr := HF5.out.size
    have hDW := HWBW.out.size
    refine ⟨.tuple #[.slice (some ⟨OB, 0, none⟩) t.nc t.nc, .int .i64 0], by simp [results, Try.results39, go_sem], OB, rfl, ?_, ?_⟩
    · exact RowsI.done (HR5.out.fr (Fr.put W5 D _) (fun b cs T hb e => by subst e; rw [HK.out] at hb; cases hb))
    · exact (HWBW.out.trans (HF5.out.low HWBW.out.size (fun q hq e => by omega))).trans ((Fr.put W5 D _).low (by omega) (fun q hq e => by omega))
theorem Bounds_ok (x : WV) (t : Tb) (hs : t.small) (w : World) (hl : WL w x t) (hf : t.fault = 0) (ha : t.agree off0 = true) (hne : ∀ c g, c < t.nc → g < t.ng → emptyR (t.up off0 c g) = false) :
    Calls Try.prog 39 #[.agg #[x.cv t, x.bv t, x.rv t, x.nv t]] w fun e w' => ∃ v, e = .returned (.tuple #[v, .int .i64 0]) ∧ RowsAt w' v t.nc (fun _ => t.ng) (bndR t off0) ∧ Below w.heap.size w w' := by
  refine (Bounds_okS x t hs w hl hf ha hne).mono ?_
  rintro _ w' ⟨OB, rfl, h⟩
  exact ⟨_, rfl, h⟩
end Go.Proofs.Ytjaoflfophcibaa

namespace Go.Proofs.Ytjaoflfophcibaa
open Go.RowKit Go.Shelf

structure BF (w X : World) (L : List (Nat × Array Value × TypeId)) : Prop where
  fr : Below w.heap.size w X
  bk : ∀ b cs T, (b, cs, T) ∈ L → w.heap.size ≤ b ∧ X.heap[b]? = some (.cells cs T (0, 0))
section
variable {w X Y : World} {L : List (Nat × Array Value × TypeId)}
theorem BF.base (w : World) : BF w w [] := ⟨Below.refl _ _, fun _ _ _ h => by cases h⟩
theorem BF.below (h : BF w X L) (hb : Below X.heap.size X Y) : BF w Y L := by
  refine ⟨below_step h.fr hb, fun b cs T hm => ?_⟩
  obtain ⟨h1, h2⟩ := h.bk b cs T hm
  exact ⟨h1, by rw [hb.block _ (Array.getElem?_eq_some_iff.1 h2).1]; exact h2⟩
theorem BF.alloc (h : BF w X L) (cs : Array Value) (T : TypeId) : BF w (X.alloc (.cells cs T)) ((X.heap.size, cs, T) :: L) := by
  have h1 := h.below (below_alloc X (.cells cs T))
  refine ⟨h1.fr, fun b cs' T' hb => ?_⟩
  rcases List.mem_cons.1 hb with hb | hb
  · cases hb
    exact ⟨h.fr.size, heap_alloc_new X _⟩
  · exact h1.bk b cs' T' hb
theorem BF.sub (h : BF w X L) {L' : List (Nat × Array Value × TypeId)} (hl : ∀ p, p ∈ L' → p ∈ L) : BF w X L' := ⟨h.fr, fun b cs T hb => h.bk b cs T (hl _ hb)⟩
theorem BF.lt (h : BF w X L) {b : Nat} {cs : Array Value} {T : TypeId} (hb : (b, cs, T) ∈ L) : w.heap.size ≤ b ∧ b < X.heap.size := ⟨(h.bk b cs T hb).1, (Array.getElem?_eq_some_iff.1 (h.bk b cs T hb).2).1⟩
theorem BF.cell (h : BF w X L) {b : Nat} {cs : Array Value} {T : TypeId} (hb : (b, cs, T) ∈ L) (i : Nat) : X.cell? ⟨b, i, none⟩ = cs[i]? := cell_of_row _ _ _ _ _ _ (h.bk b cs T hb).2
theorem BF.thaw (h : BF w X L) {b : Nat} {cs : Array Value} {T : TypeId} (hb : (b, cs, T) ∈ L) (i : Nat) : X.frozen? ⟨b, i, none⟩ = false := frozen_of_row _ _ _ _ _ (h.bk b cs T hb).2
theorem BF.set1 {b i : Nat} {cs cs' : Array Value} {T : TypeId} (h : BF w X L) (hb : (b, cs, T) ∈ L) (v : Value) (hi : i < cs.size) (hc : cs.setIfInBounds i v = cs') {L' : List (Nat × Array Value × TypeId)} (hl : ∀ y, y ∈ L' → y.1 ≠ b ∧ y ∈ L) :
    BF w (X.setCell ⟨b, i, none⟩ v) ((b, cs', T) :: L') := by
  obtain ⟨hb1, hb2⟩ := h.bk b _ _ hb
  have hf := Fr.set X b i v
  refine ⟨h.fr.trans (hf.low h.fr.size (fun q hq e => by omega)), fun b' cs2 T' hm => ?_⟩
  rcases List.mem_cons.1 hm with hm | hm
  · cases hm
    refine ⟨hb1, ?_⟩
    subst hc
    simp [World.setCell, Array.getElem?_modify, hb2, Array.setIfInBounds, hi]
  · obtain ⟨hne, hm⟩ := hl _ hm
    obtain ⟨h1, h2⟩ := h.bk b' _ T' hm
    exact ⟨h1, by rw [hf.block _ (Array.getElem?_eq_some_iff.1 h2).1 hne]; exact h2⟩
theorem BF.set2 {b : Nat} {p q : Value} {T : TypeId} (h : BF w X L) (hb : (b, #[p, q], T) ∈ L) (p' q' : Value) {L' : List (Nat × Array Value × TypeId)} (hl : ∀ y, y ∈ L' → y.1 ≠ b ∧ y ∈ L) :
    BF w ((X.setCell ⟨b, 0, none⟩ p').setCell ⟨b, 1, none⟩ q') ((b, #[p', q'], T) :: L') := by
  have h1 := BF.set1 (i := 0) (cs' := #[p', q]) h hb p' (by simp) rfl hl
  exact BF.set1 (i := 1) (cs' := #[p', q']) h1 (.head _) q' (by simp) rfl (fun y hy => ⟨(hl y hy).1, .tail _ hy⟩)
theorem BF.fr2 (h : BF w X L) : Below w.heap.size w X := h.fr
end
/-- Where the counts agree every size is possible. -/
theorem srcG_nx {t : Tb} {g : Nat} (hg : g < t.ng) : ∃ k, ∃ hk : k < (srcG t (t.nx g)).length, (srcG t (t.nx g))[k] = g := by
  have hm : g ∈ srcG t (t.nx g) := by
    unfold srcG Tb.nx Tb.last
    rw [List.mem_append]
    by_cases h : g + 1 < t.ng
    · left; rw [show min (g + 1) (t.ng - 1) = g + 1 from by omega]; simp
    · right; rw [show min (g + 1) (t.ng - 1) = g from by omega, if_pos (by omega)]; simp
  obtain ⟨k, hk, he⟩ := List.getElem_of_mem hm
  exact ⟨k, hk, he⟩
theorem empty_on {t : Tb} {out : Nat → Nat → Bool} {c g : Nat} (hg : g < t.ng) (h : emptyR (t.up out c g) = true) : emptyR (t.up out (c + 1) (t.nx g)) = true := by
  obtain ⟨k, hk, he⟩ := srcG_nx hg
  have h1 : t.before out (c + 1) (t.nx g) = (1, 0) := by
    show t.arr c (t.nx g) (t.up out c) = (1, 0)
    exact arr_none hk (by rw [he]; exact h)
  unfold Tb.up
  rw [h1]
  unfold emptyR meetR
  simp only [decide_eq_true_eq]
  omega
theorem agree_full {t : Tb} {out : Nat → Nat → Bool} (ha : t.agree out = true) (hn : 1 ≤ t.ng) : ∀ k c, c + k + 1 = t.nc → ∀ g, g < t.ng → emptyR (t.up out c g) = false := by
  intro k
  induction k with
  | zero =>
    intro c hc g hg
    have h := ha
    unfold Tb.agree allB at h
    rw [List.all_eq_true] at h
    have h1 := h g (List.mem_range.2 hg)
    rw [show t.nc - 1 = c from by omega] at h1
    simpa using h1
  | succ k ih =>
    intro c hc g hg
    cases he : emptyR (t.up out c g)
    · rfl
    · have h1 := empty_on hg he
      have h2 := ih (c + 1) (by omega) (t.nx g) (by unfold Tb.nx Tb.last; omega)
      rw [h1] at h2; cases h2
theorem agree_ne {t : Tb} {out : Nat → Nat → Bool} (ha : t.agree out = true) (hn : 1 ≤ t.ng) (c g : Nat) (hc : c < t.nc) (hg : g < t.ng) : emptyR (t.up out c g) = false := agree_full ha hn (t.nc - 1 - c) c (by omega) g hg
def outC (c g : Nat) : Nat → Nat → Bool := fun c' g' => decide (c' = c) && decide (g' = g)
/-- What Would returns: the range, the error. -/
def wouldE (t : Tb) (c g : Int) : Int := if t.fault ≠ 0 then t.fault else if (inB c 0 ((t.nc : Int) - 1) && inB g 0 ((t.ng : Int) - 1)) = true then (if t.agree (outC c.toNat g.toNat) = true then 0 else 9) else 2
def wouldR (t : Tb) (c g : Int) : R2 := if wouldE t c g = 0 then bndR t (outC c.toNat g.toNat) c.toNat g.toNat else (0, 0)
end Go.Proofs.Ytjaoflfophcibaa

namespace Go.Proofs.Ytjaoflfophcibaa
open Go.RowKit Go.Shelf

theorem BF.made3 (w : World) (c1 c2 c3 : Array Value) (t1 t2 t3 : TypeId) :
    BF w (((w.alloc (.cells c1 t1)).alloc (.cells c2 t2)).alloc (.cells c3 t3)) [(w.heap.size, c1, t1), (w.heap.size + 1, c2, t2), (w.heap.size + 2, c3, t3)] := by
  obtain ⟨hz, hb, k0, k1, k2⟩ := alloc3 w (.cells c1 t1) (.cells c2 t2) (.cells c3 t3)
  refine ⟨hb, fun b cs T hm => ?_⟩
  simp only [List.mem_cons, Prod.mk.injEq, List.not_mem_nil, or_false] at hm
  rcases hm with ⟨rfl, rfl, rfl⟩ | ⟨rfl, rfl, rfl⟩ | ⟨rfl, rfl, rfl⟩
  · exact ⟨Nat.le_refl _, k0⟩
  · exact ⟨by omega, k1⟩
  · exact ⟨by omega, k2⟩
theorem off0_get {c g : Nat} (hc : c < 4) (hg : g < 4) : (outL off0).toArray[c * 4 + g]? = some (.bool false) := by
  have h : c = 0 ∨ c = 1 ∨ c = 2 ∨ c = 3 := by omega
  have h' : g = 0 ∨ g = 1 ∨ g = 2 ∨ g = 3 := by omega
  rcases h with rfl | rfl | rfl | rfl <;> rcases h' with rfl | rfl | rfl | rfl <;> rfl
theorem outL_set {c g : Nat} (hc : c < 4) (hg : g < 4) : (outL off0).toArray.setIfInBounds (c * 4 + g) (.bool true) = (outL (outC c g)).toArray := by
  have h : c = 0 ∨ c = 1 ∨ c = 2 ∨ c = 3 := by omega
  have h' : g = 0 ∨ g = 1 ∨ g = 2 ∨ g = 3 := by omega
  rcases h with rfl | rfl | rfl | rfl <;> rcases h' with rfl | rfl | rfl | rfl <;> rfl
theorem Try.sizeOff : (Try.prog.info? 110).map (·.size) = some 16 := by kernel_rfl
theorem outL_length (out : Nat → Nat → Bool) : (outL out).length = 16 := by unfold outL; simp
def WouldP (t : Tb) (c g : Int) (w : World) (e : Ending) (w' : World) : Prop :=
  e = .returned (.tuple #[.agg #[.int .i64 (wouldR t c g).1, .int .i64 (wouldR t c g).2], .int .i64 (wouldE t c g)]) ∧ Below w.heap.size w w'
set_option maxRecDepth 100000 in
set_option maxHeartbeats 1000000 in
theorem Would_bad (x : WV) (t : Tb) (hs : t.small) (c g : Int) (w : World) (hl : WL w x t) (hf : t.fault ≠ 0) :
    Calls Try.prog 19 #[.agg #[x.cv t, x.bv t, x.rv t, x.nv t], .agg #[.int .i64 c, .int .i64 g]] w (WouldP t c g w) := by
  have HC : Hid (∀ X, Below w.heap.size w X → Calls Try.prog 47 #[.agg #[x.cv t, x.bv t, x.rv t, x.nv t]] X fun e w' => e = .returned (.int .i64 t.fault) ∧ Below X.heap.size X w') := fun X hX => check_any _ t X (hl.below hX).tb hs
  have hq : (t.fault != 0) = true := by simp [hf]
  have HE : Hid (wouldE t c g = t.fault) := by unfold Hid wouldE; rw [if_pos hf]
  have HR : Hid (wouldR t c g = (0, 0)) := by unfold Hid wouldR; rw [HE.out, if_neg hf]
  unfold WouldP
  rw [HE.out, HR.out]
  clear hl hs hf HE HR
  generalize t.fault = f at *
  unfold WV.cv WV.bv WV.rv WV.nv at *
  have HA0 := Lib.hid (BF.made3 w #[.slice x.ca t.nc x.cc, .slice x.ba t.nb x.bc, .slice x.ra t.nr x.rc, .slice x.na t.nn x.nc] #[.int .i64 c, .int .i64 g] #[.int .i64 0, .int .i64 0] 36 39 29)
  go_enter Try.func19, Try.ntmps19
  go_wp2_with (go_at_call 47; refine (HC.out _ HA0.out.fr).mono ?_; rintro _ w1 ⟨rfl, hb1⟩; have HA1 := Lib.hid (HA0.out.below hb1); have e0 := HA1.out.cell (.tail _ (.tail _ (.head _))) 0; have e1 := HA1.out.cell (.tail _ (.tail _ (.head _))) 1; have f0 := HA1.out.thaw (.tail _ (.tail _ (.head _))) 0; have f1 := HA1.out.thaw (.tail _ (.tail _ (.head _))) 1; clear hb1)
  have HA2 := Lib.hid (BF.set2 HA1.out (.tail _ (.tail _ (.head _))) (.int .i64 0) (.int .i64 0) (L' := []) (List.forall_mem_nil _))
  have c0' := HA2.out.cell (.head _) 0
  have c1' := HA2.out.cell (.head _) 1
  refine bodyPost_ret (v := .tuple #[.agg #[.int .i64 0, .int .i64 0], .int .i64 f]) (by simp [results, Try.results19, go_sem, c0', c1']) rfl ⟨rfl, HA2.out.fr⟩
attribute [local go_sem ↓] Go.wp_at_zero Go.wp_at_succ
set_option maxRecDepth 100000 in
set_option maxHeartbeats 4000000 in
theorem Would_ok (x : WV) (t : Tb) (hs : t.small) (c g : Int) (w : World) (hl : WL w x t) (hf : t.fault = 0) :
    Calls Try.prog 19 #[.agg #[x.cv t, x.bv t, x.rv t, x.nv t], .agg #[.int .i64 c, .int .i64 g]] w (WouldP t c g w) := by
  have hG := Gd.of_fault hs hf
  have ng2 := hG.ng2; have ng4 := hG.ng4; have nc1 := hG.nc1; have nc4 := hG.nc4
  have HC : Hid (∀ X, Below w.heap.size w X → Calls Try.prog 47 #[.agg #[x.cv t, x.bv t, x.rv t, x.nv t]] X fun e w' => e = .returned (.int .i64 0) ∧ Below X.heap.size X w') := fun X hX => by rw [← hf]; exact check_any _ t X (hl.below hX).tb hs
  have HGR : Hid (∀ X, Below w.heap.size w X → Calls Try.prog 57 #[.agg #[x.cv t, x.bv t, x.rv t, x.nv t]] X fun e w' => e = .returned (.int .i64 (t.ng : Nat)) ∧ Below X.heap.size X w') := fun X hX => groups_any _ t X (hl.below hX).tb hs
  have HWO : Hid (∀ out X, Below w.heap.size w X → Calls Try.prog 58 #[.agg #[x.cv t, x.bv t, x.rv t, x.nv t], .agg (outL out).toArray] X fun e w' => ∃ B bm, e = .returned (.pointer (some ⟨B, 0, none⟩)) ∧ St w' B bm 0 x t out ∧ X.heap.size ≤ B ∧ X.heap.size ≤ bm ∧ Below X.heap.size X w') := fun out X hX => work_any x t out X (hl.below hX)
  have HE : Hid (wouldE t c g = if (inB c 0 ((t.nc : Int) - 1) && inB g 0 ((t.ng : Int) - 1)) = true then (if t.agree (outC c.toNat g.toNat) = true then 0 else 9) else 2) := by unfold Hid wouldE; rw [if_neg (by rw [hf]; simp)]
  have HF := Lib.hid hf; have HG := Lib.hid hG
  clear hl hs hf hG
  unfold WouldP
  unfold WV.cv WV.bv WV.rv WV.nv at *
  have wnc : IntKind.i64.wrap ((t.nc : Int) - 1) = (t.nc : Int) - 1 := IntWalk.i64_in _ (by omega)
  have wng : IntKind.i64.wrap ((t.ng : Int) - 1) = (t.ng : Int) - 1 := IntWalk.i64_in _ (by omega)
  have HA0 := Lib.hid (BF.made3 w #[.slice x.ca t.nc x.cc, .slice x.ba t.nb x.bc, .slice x.ra t.nr x.rc, .slice x.na t.nn x.nc] #[.int .i64 c, .int .i64 g] #[.int .i64 0, .int .i64 0] 36 39 29)
  go_enter Try.func19, Try.ntmps19
  go_wp2_with (go_at_call 47; refine (HC.out _ HA0.out.fr).mono ?_; rintro _ w1 ⟨rfl, hb1⟩; have HA1 := Lib.hid (HA0.out.below hb1); clear hb1)
  rw [show w.heap.size + 1 + 1 = w.heap.size + 2 from rfl]
  clear HA0
  go_cut [31] (fun s31 wx => s31 = .bool (!(inB c 0 ((t.nc : Int) - 1) && inB g 0 ((t.ng : Int) - 1))) ∧ BF w wx [(w.heap.size, #[.slice x.ca t.nc x.cc, .slice x.ba t.nb x.bc, .slice x.ra t.nr x.rc, .slice x.na t.nn x.nc], 36), (w.heap.size + 1, #[.int .i64 c, .int .i64 g], 39), (w.heap.size + 2, #[.int .i64 0, .int .i64 0], 29)])
  case first =>
    have HAX : Hid (BF w w1.drew [(w.heap.size, #[.slice x.ca t.nc x.cc, .slice x.ba t.nb x.bc, .slice x.ra t.nr x.rc, .slice x.na t.nn x.nc], 36), (w.heap.size + 1, #[.int .i64 c, .int .i64 g], 39), (w.heap.size + 2, #[.int .i64 0, .int .i64 0], 29)]) := HA1.out.below ((Below.refl _ _).drew)
    refine wp_region_held_drew (S := fun X => X.cell? ⟨w.heap.size, 0, none⟩ = some (.slice x.ca t.nc x.cc) ∧ X.cell? ⟨w.heap.size, 1, none⟩ = some (.slice x.ba t.nb x.bc) ∧ X.cell? ⟨w.heap.size, 2, none⟩ = some (.slice x.ra t.nr x.rc) ∧ X.cell? ⟨w.heap.size, 3, none⟩ = some (.slice x.na t.nn x.nc) ∧ X.cell? ⟨w.heap.size + 1, 0, none⟩ = some (.int .i64 c) ∧ X.cell? ⟨w.heap.size + 1, 1, none⟩ = some (.int .i64 g)) (by kernel_rfl) (⟨HAX.out.cell (.head _) 0, HAX.out.cell (.head _) 1, HAX.out.cell (.head _) 2, HAX.out.cell (.head _) 3, HAX.out.cell (.tail _ (.head _)) 0, HAX.out.cell (.tail _ (.head _)) 1⟩) (fun hS => ?_)
    clear HA1
    generalize w1.drew = X at *
    cases hic : inB c 0 ((t.nc : Int) - 1)
    · have HB : Hid ((!(inB c 0 ((t.nc : Int) - 1) && inB g 0 ((t.ng : Int) - 1))) = true) := by unfold Hid; rw [hic]; rfl
      refine tk [0, 1, 2, 3, 4] ?_
      repeat (refine tkH (oi := ⟨_, _, _, _, _, _⟩) (v := ?_) rfl (by kernel_rfl) (by rfl) (fun _ _ _ h => h) hS ?_ ?_; rotate_left; (· rintro W' ⟨z0, z1, z2, z3, z4, z5⟩; go_simp; try with_reducible rfl); try simp only [Act.put, putA, putZ, putS])
      refine tk0 ?_
      refine tH 5 (oi := ⟨_, _, _, _, _, _⟩) (v := .int .i64 ((t.nc : Int) - 1)) rfl (by kernel_rfl) (by rfl) (fun _ _ _ h => h) hS ?_ ?_
      · rintro W' ⟨z0, z1, z2, z3, z4, z5⟩; go_simp
      try simp only [Act.put, putA, putZ, putS]
      refine wpAnyH_ready (rs := [6]) (by kernel_rfl) (by simp) ?_
      refine AllReadyH.cons (o := ⟨some 21, _, _, _, _, _⟩) rfl (fun K hK => ?_) AllReadyH.nil
      go_simp
      refine (within_any c 0 ((t.nc : Int) - 1) X).mono ?_
      rw [hic]; rintro _ X0 ⟨rfl, rfl⟩
      (try go_wp2_with fail)
      refine hK.out _ _ (⟨HAX.out.cell (.head _) 0, HAX.out.cell (.head _) 1, HAX.out.cell (.head _) 2, HAX.out.cell (.head _) 3, HAX.out.cell (.tail _ (.head _)) 0, HAX.out.cell (.tail _ (.head _)) 1⟩) (fun hS => ?_)
      clear hK K
      try simp only [Act.put, putA, putZ, putS]
      refine tk [7, 8] ?_
      repeat (refine tkH (oi := ⟨_, _, _, _, _, _⟩) (v := ?_) rfl (by kernel_rfl) (by rfl) (fun _ _ _ h => h) hS ?_ ?_; rotate_left; (· rintro W' ⟨z0, z1, z2, z3, z4, z5⟩; go_simp; try with_reducible rfl); try simp only [Act.put, putA, putZ, putS])
      refine tk0 ?_
      refine wpAnyH_take (i := 9) (oi := ⟨some 24, _, _, _, _, _⟩) (v := undef) rfl (by kernel_rfl) (by kernel_rfl) (by kernel_rfl) (fun _ _ _ h => h) (Or.inr ⟨by rfl, rfl⟩) hS ?_
      try simp only [Act.put, putA, putZ, putS]
      refine wpAnyH_take (i := 10) (oi := ⟨some 25, _, _, _, _, _⟩) (v := undef) rfl (by kernel_rfl) (by kernel_rfl) (by kernel_rfl) (fun _ _ _ h => h) (Or.inr ⟨by rfl, rfl⟩) hS ?_
      try simp only [Act.put, putA, putZ, putS]
      refine wpAnyH_take (i := 11) (oi := ⟨some 26, _, _, _, _, _⟩) (v := undef) rfl (by kernel_rfl) (by kernel_rfl) (by kernel_rfl) (fun _ _ _ h => h) (Or.inr ⟨by rfl, rfl⟩) hS ?_
      try simp only [Act.put, putA, putZ, putS]
      refine wpAnyH_take (i := 12) (oi := ⟨some 27, _, _, _, _, _⟩) (v := undef) rfl (by kernel_rfl) (by kernel_rfl) (by kernel_rfl) (fun _ _ _ h => h) (Or.inr ⟨by rfl, rfl⟩) hS ?_
      try simp only [Act.put, putA, putZ, putS]
      refine wpAnyH_take (i := 13) (oi := ⟨some 28, _, _, _, _, _⟩) (v := undef) rfl (by kernel_rfl) (by kernel_rfl) (by kernel_rfl) (fun _ _ _ h => h) (Or.inr ⟨by rfl, rfl⟩) hS ?_
      try simp only [Act.put, putA, putZ, putS]
      refine wpAnyH_take (i := 14) (oi := ⟨some 29, _, _, _, _, _⟩) (v := undef) rfl (by kernel_rfl) (by kernel_rfl) (by kernel_rfl) (fun _ _ _ h => h) (Or.inr ⟨by rfl, rfl⟩) hS ?_
      try simp only [Act.put, putA, putZ, putS]
      refine wpAnyH_take (i := 15) (oi := ⟨some 30, _, _, _, _, _⟩) (v := undef) rfl (by kernel_rfl) (by kernel_rfl) (by kernel_rfl) (fun _ _ _ h => h) (Or.inr ⟨by rfl, rfl⟩) hS ?_
      try simp only [Act.put, putA, putZ, putS]
      refine tH 16 (oi := ⟨_, _, _, _, _, _⟩) (v := ?_) rfl (by kernel_rfl) (by rfl) (fun _ _ _ h => h) hS ?_ ?_
      rotate_left
      · rintro W' ⟨z0, z1, z2, z3, z4, z5⟩; go_simp; try with_reducible rfl
      try simp only [Act.put, putA, putZ, putS]
      refine wpAnyH_done (by kernel_rfl) ?_ _
      go_wp2_with fail
      go_meet
      exact ⟨by rw [HB.out], HAX.out⟩
    · cases hig : inB g 0 ((t.ng : Int) - 1)
      · have HB : Hid ((!(inB c 0 ((t.nc : Int) - 1) && inB g 0 ((t.ng : Int) - 1))) = true) := by unfold Hid; rw [hic, hig]; rfl
        refine tk [0, 1, 2, 3, 4] ?_
        repeat (refine tkH (oi := ⟨_, _, _, _, _, _⟩) (v := ?_) rfl (by kernel_rfl) (by rfl) (fun _ _ _ h => h) hS ?_ ?_; rotate_left; (· rintro W' ⟨z0, z1, z2, z3, z4, z5⟩; go_simp; try with_reducible rfl); try simp only [Act.put, putA, putZ, putS])
        refine tk0 ?_
        refine tH 5 (oi := ⟨_, _, _, _, _, _⟩) (v := .int .i64 ((t.nc : Int) - 1)) rfl (by kernel_rfl) (by rfl) (fun _ _ _ h => h) hS ?_ ?_
        · rintro W' ⟨z0, z1, z2, z3, z4, z5⟩; go_simp
        try simp only [Act.put, putA, putZ, putS]
        refine wpAnyH_ready (rs := [6]) (by kernel_rfl) (by simp) ?_
        refine AllReadyH.cons (o := ⟨some 21, _, _, _, _, _⟩) rfl (fun K hK => ?_) AllReadyH.nil
        go_simp
        refine (within_any c 0 ((t.nc : Int) - 1) X).mono ?_
        rw [hic]; rintro _ X0 ⟨rfl, rfl⟩
        (try go_wp2_with fail)
        refine hK.out _ _ (⟨HAX.out.cell (.head _) 0, HAX.out.cell (.head _) 1, HAX.out.cell (.head _) 2, HAX.out.cell (.head _) 3, HAX.out.cell (.tail _ (.head _)) 0, HAX.out.cell (.tail _ (.head _)) 1⟩) (fun hS => ?_)
        clear hK K
        try simp only [Act.put, putA, putZ, putS]
        refine tk [7, 8, 9, 10, 11] ?_
        repeat (refine tkH (oi := ⟨_, _, _, _, _, _⟩) (v := ?_) rfl (by kernel_rfl) (by rfl) (fun _ _ _ h => h) hS ?_ ?_; rotate_left; (· rintro W' ⟨z0, z1, z2, z3, z4, z5⟩; go_simp; try with_reducible rfl); try simp only [Act.put, putA, putZ, putS])
        refine tk0 ?_
        refine wpAnyH_ready (rs := [12]) (by kernel_rfl) (by simp) ?_
        refine AllReadyH.cons (o := ⟨some 27, _, _, _, _, _⟩) rfl (fun K hK => ?_) AllReadyH.nil
        go_simp
        refine (HGR.out X HAX.out.fr).mono ?_
        rintro _ X1 ⟨rfl, hb1⟩
        (try go_wp2_with fail)
        have HA1 := Lib.hid (HAX.out.below hb1)
        refine hK.out _ _ (⟨HA1.out.cell (.head _) 0, HA1.out.cell (.head _) 1, HA1.out.cell (.head _) 2, HA1.out.cell (.head _) 3, HA1.out.cell (.tail _ (.head _)) 0, HA1.out.cell (.tail _ (.head _)) 1⟩) (fun hS => ?_)
        clear hK K
        try simp only [Act.put, putA, putZ, putS]
        clear hb1
        refine tH 13 (oi := ⟨_, _, _, _, _, _⟩) (v := .int .i64 ((t.ng : Int) - 1)) rfl (by kernel_rfl) (by rfl) (fun _ _ _ h => h) hS ?_ ?_
        · rintro W' ⟨z0, z1, z2, z3, z4, z5⟩; go_simp
        try simp only [Act.put, putA, putZ, putS]
        refine wpAnyH_ready (rs := [14]) (by kernel_rfl) (by simp) ?_
        refine AllReadyH.cons (o := ⟨some 29, _, _, _, _, _⟩) rfl (fun K hK => ?_) AllReadyH.nil
        go_simp
        refine (within_any g 0 ((t.ng : Int) - 1) X1).mono ?_
        rw [hig]; rintro _ X2 ⟨rfl, rfl⟩
        (try go_wp2_with fail)
        refine hK.out _ _ (⟨HA1.out.cell (.head _) 0, HA1.out.cell (.head _) 1, HA1.out.cell (.head _) 2, HA1.out.cell (.head _) 3, HA1.out.cell (.tail _ (.head _)) 0, HA1.out.cell (.tail _ (.head _)) 1⟩) (fun hS => ?_)
        clear hK K
        try simp only [Act.put, putA, putZ, putS]
        refine tk [15, 16] ?_
        repeat (refine tkH (oi := ⟨_, _, _, _, _, _⟩) (v := ?_) rfl (by kernel_rfl) (by rfl) (fun _ _ _ h => h) hS ?_ ?_; rotate_left; (· rintro W' ⟨z0, z1, z2, z3, z4, z5⟩; go_simp; try with_reducible rfl); try simp only [Act.put, putA, putZ, putS])
        refine tk0 ?_
        refine wpAnyH_done (by kernel_rfl) ?_ _
        go_wp2_with fail
        go_meet
        exact ⟨by rw [HB.out], HA1.out⟩
      · have HB : Hid ((!(inB c 0 ((t.nc : Int) - 1) && inB g 0 ((t.ng : Int) - 1))) = false) := by unfold Hid; rw [hic, hig]; rfl
        refine tk [0, 1, 2, 3, 4] ?_
        repeat (refine tkH (oi := ⟨_, _, _, _, _, _⟩) (v := ?_) rfl (by kernel_rfl) (by rfl) (fun _ _ _ h => h) hS ?_ ?_; rotate_left; (· rintro W' ⟨z0, z1, z2, z3, z4, z5⟩; go_simp; try with_reducible rfl); try simp only [Act.put, putA, putZ, putS])
        refine tk0 ?_
        refine tH 5 (oi := ⟨_, _, _, _, _, _⟩) (v := .int .i64 ((t.nc : Int) - 1)) rfl (by kernel_rfl) (by rfl) (fun _ _ _ h => h) hS ?_ ?_
        · rintro W' ⟨z0, z1, z2, z3, z4, z5⟩; go_simp
        try simp only [Act.put, putA, putZ, putS]
        refine wpAnyH_ready (rs := [6]) (by kernel_rfl) (by simp) ?_
        refine AllReadyH.cons (o := ⟨some 21, _, _, _, _, _⟩) rfl (fun K hK => ?_) AllReadyH.nil
        go_simp
        refine (within_any c 0 ((t.nc : Int) - 1) X).mono ?_
        rw [hic]; rintro _ X0 ⟨rfl, rfl⟩
        (try go_wp2_with fail)
        refine hK.out _ _ (⟨HAX.out.cell (.head _) 0, HAX.out.cell (.head _) 1, HAX.out.cell (.head _) 2, HAX.out.cell (.head _) 3, HAX.out.cell (.tail _ (.head _)) 0, HAX.out.cell (.tail _ (.head _)) 1⟩) (fun hS => ?_)
        clear hK K
        try simp only [Act.put, putA, putZ, putS]
        refine tk [7, 8, 9, 10, 11] ?_
        repeat (refine tkH (oi := ⟨_, _, _, _, _, _⟩) (v := ?_) rfl (by kernel_rfl) (by rfl) (fun _ _ _ h => h) hS ?_ ?_; rotate_left; (· rintro W' ⟨z0, z1, z2, z3, z4, z5⟩; go_simp; try with_reducible rfl); try simp only [Act.put, putA, putZ, putS])
        refine tk0 ?_
        refine wpAnyH_ready (rs := [12]) (by kernel_rfl) (by simp) ?_
        refine AllReadyH.cons (o := ⟨some 27, _, _, _, _, _⟩) rfl (fun K hK => ?_) AllReadyH.nil
        go_simp
        refine (HGR.out X HAX.out.fr).mono ?_
        rintro _ X1 ⟨rfl, hb1⟩
        (try go_wp2_with fail)
        have HA1 := Lib.hid (HAX.out.below hb1)
        refine hK.out _ _ (⟨HA1.out.cell (.head _) 0, HA1.out.cell (.head _) 1, HA1.out.cell (.head _) 2, HA1.out.cell (.head _) 3, HA1.out.cell (.tail _ (.head _)) 0, HA1.out.cell (.tail _ (.head _)) 1⟩) (fun hS => ?_)
        clear hK K
        try simp only [Act.put, putA, putZ, putS]
        clear hb1
        refine tH 13 (oi := ⟨_, _, _, _, _, _⟩) (v := .int .i64 ((t.ng : Int) - 1)) rfl (by kernel_rfl) (by rfl) (fun _ _ _ h => h) hS ?_ ?_
        · rintro W' ⟨z0, z1, z2, z3, z4, z5⟩; go_simp
        try simp only [Act.put, putA, putZ, putS]
        refine wpAnyH_ready (rs := [14]) (by kernel_rfl) (by simp) ?_
        refine AllReadyH.cons (o := ⟨some 29, _, _, _, _, _⟩) rfl (fun K hK => ?_) AllReadyH.nil
        go_simp
        refine (within_any g 0 ((t.ng : Int) - 1) X1).mono ?_
        rw [hig]; rintro _ X2 ⟨rfl, rfl⟩
        (try go_wp2_with fail)
        refine hK.out _ _ (⟨HA1.out.cell (.head _) 0, HA1.out.cell (.head _) 1, HA1.out.cell (.head _) 2, HA1.out.cell (.head _) 3, HA1.out.cell (.tail _ (.head _)) 0, HA1.out.cell (.tail _ (.head _)) 1⟩) (fun hS => ?_)
        clear hK K
        try simp only [Act.put, putA, putZ, putS]
        refine tk [15, 16] ?_
        repeat (refine tkH (oi := ⟨_, _, _, _, _, _⟩) (v := ?_) rfl (by kernel_rfl) (by rfl) (fun _ _ _ h => h) hS ?_ ?_; rotate_left; (· rintro W' ⟨z0, z1, z2, z3, z4, z5⟩; go_simp; try with_reducible rfl); try simp only [Act.put, putA, putZ, putS])
        refine tk0 ?_
        refine wpAnyH_done (by kernel_rfl) ?_ _
        go_wp2_with fail
        go_meet
        exact ⟨by rw [HB.out], HA1.out⟩
  case rest =>
    obtain ⟨rfl, hbf⟩ := hcut
    have HA2 := Lib.hid hbf
    clear hbf HA1 wnc wng HGR HC
    obtain ⟨bq, HBQ⟩ : ∃ bq, Hid ((inB c 0 ((t.nc : Int) - 1) && inB g 0 ((t.ng : Int) - 1)) = bq) := ⟨_, rfl⟩
    rw [HBQ.out] at HE ⊢
    cases bq
    · have HE2 : Hid (wouldE t c g = 2) := HE.out
      have HR2 : Hid (wouldR t c g = (0, 0)) := by unfold Hid wouldR; rw [HE2.out]; rfl
      have e0 := HA2.out.cell (.tail _ (.tail _ (.head _))) 0
      have e1 := HA2.out.cell (.tail _ (.tail _ (.head _))) 1
      have f0 := HA2.out.thaw (.tail _ (.tail _ (.head _))) 0
      have f1 := HA2.out.thaw (.tail _ (.tail _ (.head _))) 1
      have HA3 := Lib.hid (BF.set2 HA2.out (.tail _ (.tail _ (.head _))) (.int .i64 0) (.int .i64 0) (L' := []) (List.forall_mem_nil _))
      clear HE HA2
      go_wp2_with fail
      have c0' := HA3.out.cell (.head _) 0
      have c1' := HA3.out.cell (.head _) 1
      refine bodyPost_ret (v := .tuple #[.agg #[.int .i64 0, .int .i64 0], .int .i64 2]) (by simp [results, Try.results19, go_sem, c0', c1']) rfl ⟨by rw [HR2.out, HE2.out], HA3.out.fr⟩
    · obtain ⟨hb1, hb2⟩ : inB c 0 ((t.nc : Int) - 1) = true ∧ inB g 0 ((t.ng : Int) - 1) = true := by have := HBQ.out; simpa using this
      obtain ⟨c0, rfl⟩ : ∃ c0 : Nat, c = (c0 : Int) := ⟨c.toNat, by simp [inB] at hb1; omega⟩
      obtain ⟨g0, rfl⟩ : ∃ g0 : Nat, g = (g0 : Int) := ⟨g.toNat, by simp [inB] at hb2; omega⟩
      have hc0 : c0 < t.nc := by simp [inB] at hb1; omega
      have hg0 : g0 < t.ng := by simp [inB] at hb2; omega
      have HE2 : Hid (wouldE t c0 g0 = if t.agree (outC c0 g0) = true then 0 else 9) := by have h := HE.out; rw [if_pos rfl, Int.toNat_natCast, Int.toNat_natCast] at h; exact h
      have HR2 : Hid (t.agree (outC c0 g0) = true → wouldR t c0 g0 = bndR t (outC c0 g0) c0 g0) := fun h => by unfold wouldR; rw [HE2.out, if_pos h, if_pos rfl]; rfl
      have HR3 : Hid (t.agree (outC c0 g0) = false → wouldR t c0 g0 = (0, 0)) := fun h => by unfold wouldR; rw [HE2.out, h]; rfl
      have hc4 : c0 < 4 := by omega
      have hg4 : g0 < 4 := by omega
      have hc4i : ¬ (4 : Int) ≤ (c0 : Int) := by omega
      have hg4i : ¬ (4 : Int) ≤ (g0 : Int) := by omega
      clear HE HBQ hb1 hb2
      have hwa := HA2.out.fr.size
      have hoW := (HA2.out.lt (.tail _ (.tail _ (.head _)))).2
      have HA5 : Hid (BF w (wc.alloc (.cells (outL off0).toArray 110)).drew [(wc.heap.size, (outL off0).toArray, 110), (w.heap.size, #[.slice x.ca t.nc x.cc, .slice x.ba t.nb x.bc, .slice x.ra t.nr x.rc, .slice x.na t.nn x.nc], 36), (w.heap.size + 1, #[.int .i64 (c0 : Int), .int .i64 (g0 : Int)], 39), (w.heap.size + 2, #[.int .i64 0, .int .i64 0], 29)]) := (HA2.out.alloc (outL off0).toArray 110).below ((Below.refl _ _).drew)
      have hol : (outL off0).toArray = #[.bool false, .bool false, .bool false, .bool false, .bool false, .bool false, .bool false, .bool false, .bool false, .bool false, .bool false, .bool false, .bool false, .bool false, .bool false, .bool false] := rfl
      have HOL := Lib.hid hol
      clear hol HA2
      go_upto_region 7 with fail
      rw [← HOL.out]
      refine wp_region_Z (S := fun X => X.cell? ⟨w.heap.size + 1, 0, none⟩ = some (.int .i64 (c0 : Int)) ∧ X.cell? ⟨w.heap.size + 1, 1, none⟩ = some (.int .i64 (g0 : Int))) (by kernel_rfl) (⟨HA5.out.cell (.tail _ (.tail _ (.head _))) 0, HA5.out.cell (.tail _ (.tail _ (.head _))) 1⟩) (fun hS => ?_)
      generalize hwae : wc.heap.size = wa at *
      clear hwae
      have HAX := HA5
      clear HA5
      generalize (wc.alloc (.cells (outL off0).toArray 110)).drew = X at *
      refine tk [0, 1, 2, 3] ?_
      repeat (refine tkZ (oi := ⟨_, _, _, _, _, _⟩) (v := ?_) rfl (by kernel_rfl) (by rfl) (fun _ _ _ h => h) hS ?_ ?_; rotate_left; (· rintro W' ⟨z0, z1⟩; go_simp; try with_reducible rfl); try simp only [Act.put, putA, putZ, putS])
      refine tk0 ?_
      refine tZ 4 (oi := ⟨_, _, _, _, _, _⟩) (v := .pointer (some ⟨wa, c0 * 4, none⟩)) rfl (by kernel_rfl) (by rfl) (fun _ _ _ h => h) hS ?_ ?_
      · rintro W' ⟨z0, z1⟩; go_simp
      try simp only [Act.put, putA, putZ, putS]
      refine tZ 5 (oi := ⟨_, _, _, _, _, _⟩) (v := .pointer (some ⟨wa, c0 * 4 + g0, none⟩)) rfl (by kernel_rfl) (by rfl) (fun _ _ _ h => h) hS ?_ ?_
      · rintro W' ⟨z0, z1⟩; go_simp
      try simp only [Act.put, putA, putZ, putS]
      refine wpAnyZ_next (rs := [6]) (by kernel_rfl) (by simp) ?_
      refine NextZ.cons (o := ⟨none, _, _, _, _, _⟩) rfl (fun K hK => ?_) NextZ.nil
      have e0 : X.cell? ⟨wa, c0 * 4 + g0, none⟩ = some (.bool false) := (HAX.out.cell (.head _) (c0 * 4 + g0)).trans (off0_get hc4 hg4)
      have f0 := HAX.out.thaw (.head _) (c0 * 4 + g0)
      have HA0 := Lib.hid (BF.set1 (i := c0 * 4 + g0) (cs' := (outL (outC c0 g0)).toArray) HAX.out (.head _) (.bool true) (by rw [List.size_toArray]; unfold outL; simp; omega) (outL_set hc4 hg4) (L' := [(w.heap.size, #[.slice x.ca t.nc x.cc, .slice x.ba t.nb x.bc, .slice x.ra t.nr x.rc, .slice x.na t.nn x.nc], 36), (w.heap.size + 1, #[.int .i64 (c0 : Int), .int .i64 (g0 : Int)], 39), (w.heap.size + 2, #[.int .i64 0, .int .i64 0], 29)]) (List.forall_mem_cons.2 ⟨⟨show w.heap.size ≠ wa by omega, (.tail _ (.head _))⟩, List.forall_mem_cons.2 ⟨⟨show w.heap.size + 1 ≠ wa by omega, (.tail _ (.tail _ (.head _)))⟩, List.forall_mem_cons.2 ⟨⟨show w.heap.size + 2 ≠ wa by omega, (.tail _ (.tail _ (.tail _ (.head _))))⟩, List.forall_mem_nil _⟩⟩⟩))
      go_simp
      refine hK.out _ _ (⟨HA0.out.cell (.tail _ (.tail _ (.head _))) 0, HA0.out.cell (.tail _ (.tail _ (.head _))) 1⟩) (fun hS => ?_)
      clear hK K
      (try simp only [Act.put])
      clear e0 f0
      refine wpAnyZ_done (by kernel_rfl) ?_ _
      have HA7 := Lib.hid HA0.out
      have ht0 := HA7.out.cell (.tail _ (.head _)) 0
      have ht1 := HA7.out.cell (.tail _ (.head _)) 1
      have ht2 := HA7.out.cell (.tail _ (.head _)) 2
      have ht3 := HA7.out.cell (.tail _ (.head _)) 3
      have HRG : Hid (World.rangeAt ((X.setCell ⟨wa, c0 * 4 + g0, none⟩ (.bool true))) wa 0 (outL (outC c0 g0))) := fun j v hv => by
        rw [Nat.zero_add]; exact (HA7.out.cell (.head _) j).trans (by simpa using hv)
      have hGt := HG.out
      have HAG : Hid (∀ X B bm, St X B bm 0 x t (outC c0 g0) → Calls Try.prog 59 #[.pointer (some ⟨B, 0, none⟩)] X fun e w' => e = .returned (.bool (t.agree (outC c0 g0))) ∧ St w' B bm 340 x t (outC c0 g0) ∧ Fr (fun q => q = bm) X w') := fun X B bm h => (agree_all hGt B bm x (outC c0 g0) 0 (by omega) X h).mono (fun _ _ h => ⟨h.1, by simpa using h.2.1, h.2.2⟩)
      have HAE := Lib.hid (fun (h : t.agree (outC c0 g0) = true) => agree_ne h (by omega))
      clear hGt
      cases hag : t.agree (outC c0 g0)
      · have HE3 : Hid (wouldE t c0 g0 = 9) := by unfold Hid; rw [HE2.out, hag]; rfl
        have HR4 := Lib.hid (HR3.out hag)
        rw [hag] at HAG
        go_wp2_with (first | (refine wpList_load_mid rfl 110 (.tmp 7) rfl wa 0 rfl (outL (outC c0 g0)) _ HRG.out Try.underlying110 rfl (by rw [outL_length]; exact Try.sizeOff) ?_) | (go_at_call 58; refine (HWO.out (outC c0 g0) _ HA7.out.fr).mono ?_; rintro _ w4 ⟨B, bm, rfl, hs4, hB4, hm4, hb4⟩; have HS4 := Lib.hid hs4; have HA8 := Lib.hid (HA7.out.below hb4); have hz7 := HA7.out.fr.size; clear hs4 hb4) | (go_at_call 59; refine (HAG.out _ _ _ HS4.out).mono ?_; rintro _ w5 ⟨rfl, hs5, hf5⟩; have HOX : Hid (w5.heap[w.heap.size + 2]? = some (.cells #[.int .i64 0, .int .i64 0] 29 (0, 0))) := (hf5.block _ (HA8.out.lt (.tail _ (.tail _ (.tail _ (.head _))))).2 (by have := (HA7.out.lt (.tail _ (.tail _ (.tail _ (.head _))))).2; omega)).trans (HA8.out.bk _ _ _ (.tail _ (.tail _ (.tail _ (.head _))))).2; have HB5 : Hid (Below w.heap.size w w5) := HA8.out.fr.trans (hf5.low HA8.out.fr.size (fun q hq e => by omega)); have e0 := cell_of_row _ _ 0 _ _ _ HOX.out; have e1 := cell_of_row _ _ 1 _ _ _ HOX.out; have f0 := frozen_of_row _ _ 0 _ _ HOX.out; have f1 := frozen_of_row _ _ 1 _ _ HOX.out; clear hs5 hf5))
        have c0' := cell_of_row _ _ 0 _ _ _ (set2 HOX.out (.int .i64 0) (.int .i64 0)).1
        have c1' := cell_of_row _ _ 1 _ _ _ (set2 HOX.out (.int .i64 0) (.int .i64 0)).1
        refine bodyPost_ret (v := .tuple #[.agg #[.int .i64 0, .int .i64 0], .int .i64 9]) (by simp [results, Try.results19, go_sem, c0', c1']) rfl ⟨by rw [HR4.out, HE3.out], HB5.out.trans ((set2 HOX.out _ _).2.low HB5.out.size (fun q hq e => by omega))⟩
      · have HE3 : Hid (wouldE t c0 g0 = 0) := by unfold Hid; rw [HE2.out, hag]; rfl
        have HR4 := Lib.hid (HR2.out hag)
        have HNE := Lib.hid (HAE.out hag)
        rw [hag] at HAG
        go_wp2_with (first | (refine wpList_load_mid rfl 110 (.tmp 7) rfl wa 0 rfl (outL (outC c0 g0)) _ HRG.out Try.underlying110 rfl (by rw [outL_length]; exact Try.sizeOff) ?_) | (go_at_call 58; refine (HWO.out (outC c0 g0) _ HA7.out.fr).mono ?_; rintro _ w4 ⟨B, bm, rfl, hs4, hB4, hm4, hb4⟩; have HS4 := Lib.hid hs4; have HA8 := Lib.hid (HA7.out.below hb4); have hz7 := HA7.out.fr.size; clear hs4 hb4) | (go_at_call 59; refine (HAG.out _ _ _ HS4.out).mono ?_; rintro _ w5 ⟨rfl, hs5, hf5⟩; have HOX : Hid (w5.heap[w.heap.size + 2]? = some (.cells #[.int .i64 0, .int .i64 0] 29 (0, 0))) := (hf5.block _ (HA8.out.lt (.tail _ (.tail _ (.tail _ (.head _))))).2 (by have := (HA7.out.lt (.tail _ (.tail _ (.tail _ (.head _))))).2; omega)).trans (HA8.out.bk _ _ _ (.tail _ (.tail _ (.tail _ (.head _))))).2; have HKX : Hid (w5.heap[w.heap.size + 1]? = some (.cells #[.int .i64 (c0 : Int), .int .i64 (g0 : Int)] 39 (0, 0))) := (hf5.block _ (HA8.out.lt (.tail _ (.tail _ (.head _)))).2 (by have := (HA7.out.lt (.tail _ (.tail _ (.head _)))).2; omega)).trans (HA8.out.bk _ _ _ (.tail _ (.tail _ (.head _)))).2; have HW4 : Hid (Below w.heap.size w w5) := HA8.out.fr.trans (hf5.low HA8.out.fr.size (fun q hq e => by omega)); have HS5 := Lib.hid hs5; clear hs5 hf5))
        obtain ⟨p, q, hpq⟩ : ∃ p q, bndR t (outC c0 g0) c0 g0 = (p, q) := ⟨_, _, rfl⟩
        have HRES : Hid ((Ending.returned (.tuple #[.agg #[.int .i64 p, .int .i64 q], .int .i64 0])) = .returned (.tuple #[.agg #[.int .i64 (wouldR t c0 g0).1, .int .i64 (wouldR t c0 g0).2], .int .i64 (wouldE t c0 g0)])) := by unfold Hid; rw [HR4.out, HE3.out, hpq]
        have hup := HNE.out c0 g0 hc0 hg0
        have hub := up_bd t (outC c0 g0) c0 g0
        obtain ⟨u0, u1, hu⟩ : ∃ u0 u1, t.up (outC c0 g0) c0 g0 = (u0, u1) := ⟨_, _, rfl⟩
        have HUP : Hid (∀ X, St X B bm 340 x t (outC c0 g0) → Calls Try.prog 61 #[.pointer (some ⟨B, 0, none⟩), .agg #[.int .i64 c0, .int .i64 g0]] X (GivesR X B bm (340 + 85) x t (outC c0 g0) (u0, u1))) := fun X hX => by
          have := up_all HG.out B bm x (outC c0 g0) c0 hc0 g0 hg0 340 (by omega) X hX
          rw [hu] at this; exact this
        have HAF : Hid (∀ X, St X B bm (340 + 85) x t (outC c0 g0) → Calls Try.prog 60 #[.pointer (some ⟨B, 0, none⟩), .agg #[.int .i64 c0, .int .i64 g0], .agg #[.int .i64 u0, .int .i64 u1]] X (GivesR X B bm (340 + 85 + 765) x t (outC c0 g0) (p, q))) := fun X hX => by
          have h1 := after_all HG.out B bm x (outC c0 g0) (fun c g hc hg => HNE.out c g hc hg) (t.nc - 1 - c0) c0 (by omega) g0 hg0 (t.up (outC c0 g0) c0 g0) ⟨hub.1, by simp [emptyR] at hup; exact hup, hub.2⟩ (340 + 85) (by omega) X hX
          have h2 : t.aft (outC c0 g0) (t.nc - 1 - c0) c0 g0 (t.up (outC c0 g0) c0 g0) = (p, q) := hpq
          rw [h2, hu] at h1
          exact h1.mono (fun _ _ h => h.mono (by omega))
        have hB5 := (Array.getElem?_eq_some_iff.1 HS5.out.wb).1
        have hbm : bm < w5.heap.size := HS5.out.cm.lt
        have hK5 := (Array.getElem?_eq_some_iff.1 HKX.out).1
        have hO5 := (Array.getElem?_eq_some_iff.1 HOX.out).1
        have hO7 := (HA7.out.lt (.tail _ (.tail _ (.tail _ (.head _))))).2
        have HAY : Hid (AF w5 w5.drew B bm 340 x t (outC c0 g0) []) := (AF.base HS5.out).below hbm ((Below.refl _ _).drew)
        have HCK : Hid (∀ X, Fr (fun q => q = bm) w5 X → X.cell? ⟨w.heap.size + 1, 0, none⟩ = some (.int .i64 (c0 : Int)) ∧ X.cell? ⟨w.heap.size + 1, 1, none⟩ = some (.int .i64 (g0 : Int))) := fun X hX => by
          have h := (hX.block _ hK5 (by omega)).trans HKX.out
          exact ⟨cell_of_row _ _ 0 _ _ _ h, cell_of_row _ _ 1 _ _ _ h⟩
        have HCO : Hid (∀ X, Fr (fun q => q = bm) w5 X → X.heap[w.heap.size + 2]? = some (.cells #[.int .i64 0, .int .i64 0] 29 (0, 0))) := fun X hX => (hX.block _ hO5 (by omega)).trans HOX.out
        unfold GivesR at HUP HAF
        simp only at HUP HAF
        have hwb : w.heap.size ≤ bm := by omega
        clear hu hup hub hpq HR4 HE3 HAG HAE hag HOX HKX HA8 HS4 HA7 HRG ht0 ht1 ht2 ht3
        refine wp_region_held_drew (S := fun X => X.cell? ⟨w.heap.size + 1, 0, none⟩ = some (.int .i64 (c0 : Int)) ∧ X.cell? ⟨w.heap.size + 1, 1, none⟩ = some (.int .i64 (g0 : Int))) (by kernel_rfl) (HCK.out _ HAY.out.fr) (fun hS => ?_)
        generalize w5.drew = X at *
        refine tk [0, 1, 2, 3] ?_
        repeat (refine tkH (oi := ⟨_, _, _, _, _, _⟩) (v := ?_) rfl (by kernel_rfl) (by rfl) (fun _ _ _ h => h) hS ?_ ?_; rotate_left; (· rintro W' ⟨z0, z1⟩; go_simp; try with_reducible rfl); try simp only [Act.put, putA, putZ, putS])
        refine tk0 ?_
        refine wpAnyH_ready (rs := [4]) (by kernel_rfl) (by simp) ?_
        refine AllReadyH.cons (o := ⟨some 50, _, _, _, _, _⟩) rfl (fun K hK => ?_) AllReadyH.nil
        go_simp
        refine (HUP.out X HAY.out.st).mono ?_
        rintro _ X0 ⟨rfl, hs0, hf0⟩
        (try go_wp2_with fail)
        have HA0 := Lib.hid (HAY.out.go hbm hf0 hs0)
        refine hK.out _ _ (HCK.out X0 HA0.out.fr) (fun hS => ?_)
        clear hK K
        try simp only [Act.put, putA, putZ, putS]
        clear hf0 hs0
        refine wpAnyH_ready (rs := [5]) (by kernel_rfl) (by simp) ?_
        refine AllReadyH.cons (o := ⟨some 51, _, _, _, _, _⟩) rfl (fun K hK => ?_) AllReadyH.nil
        go_simp
        refine (HAF.out X0 HA0.out.st).mono ?_
        rintro _ X1 ⟨rfl, hs1, hf1⟩
        (try go_wp2_with fail)
        have HA1 := Lib.hid (HA0.out.go hbm hf1 hs1)
        refine hK.out _ _ (HCK.out X1 HA1.out.fr) (fun hS => ?_)
        clear hK K
        try simp only [Act.put, putA, putZ, putS]
        clear hf1 hs1
        refine wpAnyH_ready (rs := [6]) (by kernel_rfl) (by simp) ?_
        refine AllReadyH.cons (o := ⟨none, _, _, _, _, _⟩) rfl (fun K hK => ?_) AllReadyH.nil
        have HOX := Lib.hid (HCO.out X1 HA1.out.fr)
        have e0 := cell_of_row _ _ 0 _ _ _ HOX.out
        have e1 := cell_of_row _ _ 1 _ _ _ HOX.out
        have f0 := frozen_of_row _ _ 0 _ _ HOX.out
        have f1 := frozen_of_row _ _ 1 _ _ HOX.out
        have HN : Hid (((X1.setCell ⟨w.heap.size + 2, 0, none⟩ (.int .i64 p)).setCell ⟨w.heap.size + 2, 1, none⟩ (.int .i64 q)).heap[w.heap.size + 2]? = some (.cells #[.int .i64 p, .int .i64 q] 29 (0, 0))) := (set2 HOX.out _ _).1
        have HBW : Hid (Below w.heap.size w ((X1.setCell ⟨w.heap.size + 2, 0, none⟩ (.int .i64 p)).setCell ⟨w.heap.size + 2, 1, none⟩ (.int .i64 q))) := (HW4.out.trans (HA1.out.fr.low HW4.out.size (fun q hq e => by omega))).trans ((set2 HOX.out _ _).2.low (by have := HW4.out.size; have := HA1.out.fr.size; omega) (fun q hq e => by omega))
        have HSK : Hid (((X1.setCell ⟨w.heap.size + 2, 0, none⟩ (.int .i64 p)).setCell ⟨w.heap.size + 2, 1, none⟩ (.int .i64 q)).cell? ⟨w.heap.size + 1, 0, none⟩ = some (.int .i64 (c0 : Int)) ∧ ((X1.setCell ⟨w.heap.size + 2, 0, none⟩ (.int .i64 p)).setCell ⟨w.heap.size + 2, 1, none⟩ (.int .i64 q)).cell? ⟨w.heap.size + 1, 1, none⟩ = some (.int .i64 (g0 : Int))) := by
          obtain ⟨s0, s1⟩ := hS
          refine ⟨?_, ?_⟩ <;> (rw [World.cell?_setCell_far, World.cell?_setCell_far] <;> first | assumption | (simp <;> omega))
        go_simp
        refine hK.out _ _ HSK.out (fun hS => ?_)
        clear hK K
        (try simp only [Act.put])
        clear e0 e1 f0 f1
        refine tH 7 (oi := ⟨_, _, _, _, _, _⟩) (v := ?_) rfl (by kernel_rfl) (by rfl) (fun _ _ _ h => h) hS ?_ ?_
        rotate_left
        · rintro W' ⟨z0, z1⟩; go_simp; try with_reducible rfl
        try simp only [Act.put, putA, putZ, putS]
        refine wpAnyH_done (by kernel_rfl) ?_ _
        go_wp2_with fail
        have c0' := cell_of_row _ _ 0 _ _ _ HN.out
        have c1' := cell_of_row _ _ 1 _ _ _ HN.out
        refine bodyPost_ret (v := .tuple #[.agg #[.int .i64 p, .int .i64 q], .int .i64 0]) (by simp [results, Try.results19, go_sem, c0', c1']) rfl ⟨by rw [HRES.out], HBW.out⟩
end Go.Proofs.Ytjaoflfophcibaa
