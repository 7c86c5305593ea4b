/- Play (the program's): Play. -/
import Derived.Test.YtjaoflfophcibaaIO
namespace Go.Proofs.Ytjaoflfophcibaa
open Go.RowKit Go.Shelf

theorem isTr_facts {t : Tb} {x : Tr} (h : t.isTr x = true) : x.nf = t.ng ∧ (∀ g, g < t.ng → countB (x.f g) = true) ∧ x.nb = t.nb ∧ x.nd = t.nb ∧ x.nm = t.nb ∧ ∀ c, c < t.nb → inB (x.b c) (t.b c).1 (t.b c).2 = true ∧ x.dl c = t.ng + 1 ∧ x.ml c = t.ng ∧ ∀ g, g < t.ng → inB (x.m c g) (t.n g).1 (t.n g).2 = true := by
  unfold Tb.isTr at h
  simp only [Bool.and_eq_true, decide_eq_true_eq] at h
  obtain ⟨h1, h2, h3, h4, h5, h6⟩ := h
  refine ⟨h1, fun g hg => ?_, h3, h4, h5, fun c hc => ?_⟩
  · simp only [allB, List.all_eq_true, List.mem_range] at h2; exact h2 g hg
  · simp only [allB, List.all_eq_true, List.mem_range] at h6
    have h7 := h6 c hc
    unfold trRow at h7
    simp only [Bool.and_eq_true, decide_eq_true_eq, allB, List.all_eq_true, List.mem_range] at h7
    exact ⟨h7.1, h7.2.1, h7.2.2.1, h7.2.2.2⟩
theorem isTr_play {t : Tb} {x : Tr} (ht : Okt t) (h : t.isTr x = true) : PlayOk t x ∧ M64 t x := by
  obtain ⟨h1, h2, h3, h4, h5, h6⟩ := isTr_facts h
  have := ht.ng2; have := ht.ng4; have := ht.nb; have := ht.nc4; have := ht.nr; have hnn := ht.nn
  refine ⟨⟨by omega, by omega, by omega, by omega, h1, by omega, by omega, by omega, fun c hc => (h6 c hc).2.1, fun c hc => (h6 c hc).2.2.1, by omega, by omega, by omega⟩, fun c hc g hg => ?_⟩
  have h7 := (h6 c hc).2.2.2 g hg
  have h8 := ht.n g (by omega)
  unfold inB at h7
  simp only [Bool.and_eq_true, decide_eq_true_eq] at h7
  omega
section
variable (u : WV) (t : Tb) (y : XV) (x : Tr) (hs : t.small) (w : World) (hl : WL w u t) (hx : XL w y x)
include hs hl
set_option maxRecDepth 100000 in
set_option maxHeartbeats 1000000 in
theorem Play_bad (xv0 xv1 xv2 xv3 : Value) (hv : ∃ a b c d e f g h i j k l, xv0 = .slice a b c ∧ xv1 = .slice d e f ∧ xv2 = .slice g h i ∧ xv3 = .slice j k l) (hf : t.fault ≠ 0) :
    Calls Try.prog 48 #[.agg #[u.cv t, u.bv t, u.rv t, u.nv t], .agg #[xv0, xv1, xv2, xv3]] w fun e w' => e = .returned (.tuple #[.slice none 0 0, .bool false, .int .i64 t.fault]) ∧ Below w.heap.size w w' := by
  obtain ⟨a, b, c, d, e, f, g, h, i, j, k, l, rfl, rfl, rfl, rfl⟩ := hv
  have HC : Hid (∀ X, Below w.heap.size w X → Calls Try.prog 47 #[.agg #[u.cv t, u.bv t, u.rv t, u.nv t]] X fun e w' => e = .returned (.int .i64 t.fault) ∧ Below X.heap.size X w') := fun X hX => check_any _ t X (hl.below hX).tb hs
  have hq : (t.fault != 0) = true := by simp [hf]
  clear hl hs hf
  generalize t.fault = f at *
  unfold WV.cv WV.bv WV.rv WV.nv at *
  go_enter Try.func48, Try.ntmps48
  go_wp2_with (go_at_call 47; refine (HC.out _ ((below_alloc _ _).alloc (by simp) _)).mono ?_; rintro _ w1 ⟨rfl, hb1⟩)
  go_ret3
  exact ⟨rfl, below_step ((below_alloc _ _).alloc (by simp) _) hb1⟩
include hx
set_option maxRecDepth 100000 in
set_option maxHeartbeats 1000000 in
theorem Play_not (hf : t.fault = 0) (hsm : TrSm x) (hn : t.isTr x = false) :
    Calls Try.prog 48 #[.agg #[u.cv t, u.bv t, u.rv t, u.nv t], .agg #[.slice y.fa x.nf y.fc, .slice y.ba x.nb y.bc, .slice y.da x.nd y.dc, .slice y.ma x.nm y.mc]] w fun e w' => e = .returned (.tuple #[.slice none 0 0, .bool false, .int .i64 2]) ∧ Below w.heap.size w w' := by
  have HC : Hid (∀ X, Below w.heap.size w X → Calls Try.prog 47 #[.agg #[u.cv t, u.bv t, u.rv t, u.nv t]] X fun e w' => e = .returned (.int .i64 0) ∧ Below X.heap.size X w') := fun X hX => by rw [← hf]; exact check_any _ t X (hl.below hX).tb hs
  have HT : Hid (∀ X, Below w.heap.size w X → Calls Try.prog 85 #[.agg #[u.cv t, u.bv t, u.rv t, u.nv t], .agg #[.slice y.fa x.nf y.fc, .slice y.ba x.nb y.bc, .slice y.da x.nd y.dc, .slice y.ma x.nm y.mc]] X fun e w' => e = .returned (.bool false) ∧ Below X.heap.size X w') := fun X hX => by
    rw [← hn]; exact truth_any u t y x X (hl.below hX) hs (hx.below hX) (Okt.of_fault hf) hsm
  have HA0 : Hid (BF w ((w.alloc (.cells #[u.cv t, u.bv t, u.rv t, u.nv t] 36)).alloc (.cells #[.slice y.fa x.nf y.fc, .slice y.ba x.nb y.bc, .slice y.da x.nd y.dc, .slice y.ma x.nm y.mc] 100)) [(w.heap.size, #[u.cv t, u.bv t, u.rv t, u.nv t], 36), (w.heap.size + 1, #[.slice y.fa x.nf y.fc, .slice y.ba x.nb y.bc, .slice y.da x.nd y.dc, .slice y.ma x.nm y.mc], 100)]) := BF.made2 w _ _ _ _
  clear hl hs hf hx hsm hn
  unfold WV.cv WV.bv WV.rv WV.nv at *
  go_enter Try.func48, Try.ntmps48
  go_wp2_with (first | (go_at_call 47; refine (HC.out _ HA0.out.fr).mono ?_; rintro _ w1 ⟨rfl, hb1⟩; have HA1 := Lib.hid (HA0.out.below hb1); have a0 := HA1.out.cell (.head _) 0; have a1 := HA1.out.cell (.head _) 1; have a2 := HA1.out.cell (.head _) 2; have a3 := HA1.out.cell (.head _) 3; have b0 := HA1.out.cell (.tail _ (.head _)) 0; have b1 := HA1.out.cell (.tail _ (.head _)) 1; have b2 := HA1.out.cell (.tail _ (.head _)) 2; have b3 := HA1.out.cell (.tail _ (.head _)) 3; clear hb1) | (go_at_call 85; refine (HT.out _ HA1.out.fr).mono ?_; rintro _ w2 ⟨rfl, hb2⟩; have HB2 := Lib.hid (HA1.out.below hb2).fr; clear hb2))
  go_ret3
  exact ⟨rfl, HB2.out⟩
set_option maxRecDepth 100000 in
set_option maxHeartbeats 1000000 in
theorem Play_ok (hf : t.fault = 0) (hsm : TrSm x) (hn : t.isTr x = true) :
    Calls Try.prog 48 #[.agg #[u.cv t, u.bv t, u.rv t, u.nv t], .agg #[.slice y.fa x.nf y.fc, .slice y.ba x.nb y.bc, .slice y.da x.nd y.dc, .slice y.ma x.nm y.mc]] w fun e w' => ∃ v, e = .returned (.tuple #[v, .bool (canC t x t.nb), .int .i64 0]) ∧ IRows w' v (t.nb + 1) (fun _ => t.ng) (siz t.ng x) ∧ Below w.heap.size w w' := by
  have HC : Hid (∀ X, Below w.heap.size w X → Calls Try.prog 47 #[.agg #[u.cv t, u.bv t, u.rv t, u.nv t]] X fun e w' => e = .returned (.int .i64 0) ∧ Below X.heap.size X w') := fun X hX => by rw [← hf]; exact check_any _ t X (hl.below hX).tb hs
  have HT : Hid (∀ X, Below w.heap.size w X → Calls Try.prog 85 #[.agg #[u.cv t, u.bv t, u.rv t, u.nv t], .agg #[.slice y.fa x.nf y.fc, .slice y.ba x.nb y.bc, .slice y.da x.nd y.dc, .slice y.ma x.nm y.mc]] X fun e w' => e = .returned (.bool true) ∧ Below X.heap.size X w') := fun X hX => by
    rw [← hn]; exact truth_any u t y x X (hl.below hX) hs (hx.below hX) (Okt.of_fault hf) hsm
  obtain ⟨hp, hM⟩ := isTr_play (Okt.of_fault hf) hn
  have HZ : Hid (∀ X, Below w.heap.size w X → Calls Try.prog 86 #[.agg #[u.cv t, u.bv t, u.rv t, u.nv t], .agg #[.slice y.fa x.nf y.fc, .slice y.ba x.nb y.bc, .slice y.da x.nd y.dc, .slice y.ma x.nm y.mc]] X fun e w' => ∃ v, e = .returned (.tuple #[v, .bool (canC t x t.nb)]) ∧ IRows w' v (t.nb + 1) (fun _ => t.ng) (siz t.ng x) ∧ Below X.heap.size X w') := fun X hX => sizes_any u t y x X (hl.below hX) (hx.below hX) hp hM
  have HA0 : Hid (BF w ((w.alloc (.cells #[u.cv t, u.bv t, u.rv t, u.nv t] 36)).alloc (.cells #[.slice y.fa x.nf y.fc, .slice y.ba x.nb y.bc, .slice y.da x.nd y.dc, .slice y.ma x.nm y.mc] 100)) [(w.heap.size, #[u.cv t, u.bv t, u.rv t, u.nv t], 36), (w.heap.size + 1, #[.slice y.fa x.nf y.fc, .slice y.ba x.nb y.bc, .slice y.da x.nd y.dc, .slice y.ma x.nm y.mc], 100)]) := BF.made2 w _ _ _ _
  clear hl hs hf hx hsm hn hp hM
  unfold WV.cv WV.bv WV.rv WV.nv at *
  go_enter Try.func48, Try.ntmps48
  go_wp2_with (first | (go_at_call 47; refine (HC.out _ HA0.out.fr).mono ?_; rintro _ w1 ⟨rfl, hb1⟩; have HA1 := Lib.hid (HA0.out.below hb1); have a0 := HA1.out.cell (.head _) 0; have a1 := HA1.out.cell (.head _) 1; have a2 := HA1.out.cell (.head _) 2; have a3 := HA1.out.cell (.head _) 3; have b0 := HA1.out.cell (.tail _ (.head _)) 0; have b1 := HA1.out.cell (.tail _ (.head _)) 1; have b2 := HA1.out.cell (.tail _ (.head _)) 2; have b3 := HA1.out.cell (.tail _ (.head _)) 3; clear hb1) | (go_at_call 85; refine (HT.out _ HA1.out.fr).mono ?_; rintro _ w2 ⟨rfl, hb2⟩; have HA2 := Lib.hid (HA1.out.below hb2); clear hb2 a0 a1 a2 a3 b0 b1 b2 b3; have a0 := HA2.out.cell (.head _) 0; have a1 := HA2.out.cell (.head _) 1; have a2 := HA2.out.cell (.head _) 2; have a3 := HA2.out.cell (.head _) 3; have b0 := HA2.out.cell (.tail _ (.head _)) 0; have b1 := HA2.out.cell (.tail _ (.head _)) 1; have b2 := HA2.out.cell (.tail _ (.head _)) 2; have b3 := HA2.out.cell (.tail _ (.head _)) 3) | (go_at_call 86; refine (HZ.out _ HA2.out.fr).mono ?_; rintro _ w3 ⟨v3, rfl, hr3, hb3⟩; have HB3 := Lib.hid (HA2.out.below hb3).fr; have HR3 := Lib.hid hr3; clear hb3 hr3))
  go_ret3
  exact ⟨_, rfl, HR3.out, HB3.out⟩
end
end Go.Proofs.Ytjaoflfophcibaa
