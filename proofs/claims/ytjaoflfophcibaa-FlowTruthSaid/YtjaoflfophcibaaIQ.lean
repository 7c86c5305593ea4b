/- Play (the program's): ProveTruth. Printed by gen_iq.py. -/
import Derived.Test.YtjaoflfophcibaaIP
namespace Go.Proofs.Ytjaoflfophcibaa
open Go Go.RowKit Go.Shelf

/-- The sizes of a truth agree with all counts. -/
def fitK (t : Tb) (x : Tr) (k : Nat) : Bool := inB (siz t.ng x (k / t.ng) (k % t.ng)) (t.ct (k / t.ng) (k % t.ng)).1 (t.ct (k / t.ng) (k % t.ng)).2
def Tb.fits (t : Tb) (x : Tr) : Bool := allB (fitK t x) (t.nc * t.ng)
def Tb.proves (t : Tb) (x : Tr) : Bool := decide (t.fault = 0) && (t.isTr x && (canC t x t.nb && t.fits x))
theorem set_same {X : World} {b : Nat} {v : Value} {T : TypeId} {f : Nat × Nat} (h : X.heap[b]? = some (.cells #[v] T f)) : Below X.heap.size X (X.setCell ⟨b, 0, none⟩ v) := by
  refine ⟨rfl, rfl, rfl, by simp, fun k hk => ?_⟩
  by_cases e : k = b
  · subst e
    simp only [World.setCell]
    rw [Array.getElem?_modify, if_pos rfl, h]
    simp
  · exact (Fr.set X b 0 v).block k hk e
/-- What holds between rounds, and where one has left. -/
def LI (Wb : World) (t : Tb) (x : Tr) (k : Nat) (W : World) : Prop := Below Wb.heap.size Wb W ∧ ∀ q, q < k → fitK t x q = true
def LQ (Wb : World) (t : Tb) (x : Tr) (k : Nat) (W : World) : Prop := Below Wb.heap.size Wb W ∧ fitK t x k = false
theorem LI.own (Wb : World) (t : Tb) (x : Tr) : OwnFrom Wb.heap.size (LI Wb t x) := fun s X Y row h hg hr => ⟨ownFrom_below (β := Nat) (Nat.le_refl _) (Nat.le_refl _) s X Y row h.1 hg hr, h.2⟩
theorem LQ.own (Wb : World) (t : Tb) (x : Tr) : OwnFrom Wb.heap.size (LQ Wb t x) := fun s X Y row h hg hr => ⟨ownFrom_below (β := Nat) (Nat.le_refl _) (Nat.le_refl _) s X Y row h.1 hg hr, h.2⟩
theorem keeps_below {B : Nat} {X Y : World} (h : Below X.heap.size X Y) : KeepsFrom B X Y := ⟨h.size, fun k _ _ ho _ => (h.block k (Array.getElem?_eq_some_iff.1 ho).1).trans ho⟩
section
variable (u : WV) (t : Tb) (y : XV) (x : Tr) (hs : t.small) (w : World) (hl : WL w u t) (hx : XL w y x)
include hs hl
set_option maxRecDepth 100000 in
set_option maxHeartbeats 1000000 in
theorem Prove_bad (xv0 xv1 xv2 xv3 : Value) (hv : ∃ a b c d e f g h i j k l, xv0 = .slice a b c ∧ xv1 = .slice d e f ∧ xv2 = .slice g h i ∧ xv3 = .slice j k l) (hf : t.fault ≠ 0) :
    Calls Try.prog 50 #[.agg #[u.cv t, u.bv t, u.rv t, u.nv t], .agg #[xv0, xv1, xv2, xv3]] w fun e w' => e = .returned (.bool false) ∧ Below w.heap.size w w' := by
  obtain ⟨a, b, c, d, e, f, g, h, i, j, k, l, rfl, rfl, rfl, rfl⟩ := hv
  have HP : Hid (∀ X, Below w.heap.size w X → Calls Try.prog 48 #[.agg #[u.cv t, u.bv t, u.rv t, u.nv t], .agg #[.slice a b c, .slice d e f, .slice g h i, .slice j k l]] X fun e w' => e = .returned (.tuple #[.slice none 0 0, .bool false, .int .i64 t.fault]) ∧ Below X.heap.size X w') := fun X hX => Play_bad u t hs X (hl.below hX) _ _ _ _ ⟨_, _, _, _, _, _, _, _, _, _, _, _, rfl, rfl, rfl, rfl⟩ hf
  have hq : (t.fault != 0) = true := by simp [hf]
  have HA0 : Hid (BF w (((w.alloc (.cells #[u.cv t, u.bv t, u.rv t, u.nv t] 36)).alloc (.cells #[.slice a b c, .slice d e f, .slice g h i, .slice j k l] 100)).alloc (.cells #[.bool false] 4)) [(w.heap.size, #[u.cv t, u.bv t, u.rv t, u.nv t], 36), (w.heap.size + 1, #[.slice a b c, .slice d e f, .slice g h i, .slice j k l], 100), (w.heap.size + 2, #[.bool false], 4)]) := BF.made3 w _ _ _ _ _ _
  clear hl hs hf
  generalize t.fault = fl at *
  unfold WV.cv WV.bv WV.rv WV.nv at *
  have a0 := HA0.out.cell (.head _) 0
  have a1 := HA0.out.cell (.head _) 1
  have a2 := HA0.out.cell (.head _) 2
  have a3 := HA0.out.cell (.head _) 3
  have b0 := HA0.out.cell (.tail _ (.head _)) 0
  have b1 := HA0.out.cell (.tail _ (.head _)) 1
  have b2 := HA0.out.cell (.tail _ (.head _)) 2
  have b3 := HA0.out.cell (.tail _ (.head _)) 3
  go_enter Try.func50, Try.ntmps50
  go_wp2_with (go_at_call 48; refine (HP.out _ HA0.out.fr).mono ?_; rintro _ w1 ⟨rfl, hb1⟩; have HA1 := Lib.hid (HA0.out.below (below_step hb1 (below_alloc w1 (.cells #[.slice none 0 0] 73)))); have e0 := HA1.out.cell (.tail _ (.tail _ (.head _))) 0; have f0 := HA1.out.thaw (.tail _ (.tail _ (.head _))) 0; have g0 := (HA1.out.bk _ _ _ (.tail _ (.tail _ (.head _)))).2; clear hb1)
  have hz := set_same g0
  have z0 := (hz.cell (p := ⟨w.heap.size + 2, 0, none⟩) (Array.getElem?_eq_some_iff.1 g0).1).trans e0
  refine bodyPost_ret (v := .bool false) (by simp [results, Try.results50, go_sem, z0]) rfl ⟨rfl, below_step HA1.out.fr hz⟩
include hx
set_option maxRecDepth 100000 in
set_option maxHeartbeats 1000000 in
theorem Prove_not (hf : t.fault = 0) (hsm : TrSm x) (hn : t.isTr x = false) :
    Calls Try.prog 50 #[.agg #[u.cv t, u.bv t, u.rv t, u.nv t], .agg #[.slice y.fa x.nf y.fc, .slice y.ba x.nb y.bc, .slice y.da x.nd y.dc, .slice y.ma x.nm y.mc]] w fun e w' => e = .returned (.bool false) ∧ Below w.heap.size w w' := by
  have HP : Hid (∀ X, Below w.heap.size w X → Calls Try.prog 48 #[.agg #[u.cv t, u.bv t, u.rv t, u.nv t], .agg #[.slice y.fa x.nf y.fc, .slice y.ba x.nb y.bc, .slice y.da x.nd y.dc, .slice y.ma x.nm y.mc]] X fun e w' => ∃ va vn vc, e = .returned (.tuple #[.slice va vn vc, .bool false, .int .i64 2]) ∧ Below X.heap.size X w') := fun X hX => by
    refine (Play_not u t y x hs X (hl.below hX) (hx.below hX) hf hsm hn).mono ?_
    rintro _ w' ⟨rfl, hb⟩
    exact ⟨_, _, _, rfl, hb⟩
  have HA0 : Hid (BF w (((w.alloc (.cells #[u.cv t, u.bv t, u.rv t, u.nv t] 36)).alloc (.cells #[.slice y.fa x.nf y.fc, .slice y.ba x.nb y.bc, .slice y.da x.nd y.dc, .slice y.ma x.nm y.mc] 100)).alloc (.cells #[.bool false] 4)) [(w.heap.size, #[u.cv t, u.bv t, u.rv t, u.nv t], 36), (w.heap.size + 1, #[.slice y.fa x.nf y.fc, .slice y.ba x.nb y.bc, .slice y.da x.nd y.dc, .slice y.ma x.nm y.mc], 100), (w.heap.size + 2, #[.bool false], 4)]) := BF.made3 w _ _ _ _ _ _
  clear hl hs hf hx hsm hn
  unfold WV.cv WV.bv WV.rv WV.nv at *
  have a0 := HA0.out.cell (.head _) 0
  have a1 := HA0.out.cell (.head _) 1
  have a2 := HA0.out.cell (.head _) 2
  have a3 := HA0.out.cell (.head _) 3
  have b0 := HA0.out.cell (.tail _ (.head _)) 0
  have b1 := HA0.out.cell (.tail _ (.head _)) 1
  have b2 := HA0.out.cell (.tail _ (.head _)) 2
  have b3 := HA0.out.cell (.tail _ (.head _)) 3
  go_enter Try.func50, Try.ntmps50
  go_wp2_with (go_at_call 48; refine (HP.out _ HA0.out.fr).mono ?_; rintro _ w1 ⟨va, vn, vc, rfl, hb1⟩; have HA1 := Lib.hid (HA0.out.below (below_step hb1 (below_alloc w1 (.cells #[.slice va vn vc] 73)))); have e0 := HA1.out.cell (.tail _ (.tail _ (.head _))) 0; have f0 := HA1.out.thaw (.tail _ (.tail _ (.head _))) 0; have g0 := (HA1.out.bk _ _ _ (.tail _ (.tail _ (.head _)))).2; clear hb1)
  have hz := set_same g0
  have z0 := (hz.cell (p := ⟨w.heap.size + 2, 0, none⟩) (Array.getElem?_eq_some_iff.1 g0).1).trans e0
  refine bodyPost_ret (v := .bool false) (by simp [results, Try.results50, go_sem, z0]) rfl ⟨rfl, below_step HA1.out.fr hz⟩
set_option maxRecDepth 100000 in
set_option maxHeartbeats 1000000 in
theorem Prove_can (hf : t.fault = 0) (hsm : TrSm x) (hn : t.isTr x = true) (hc : canC t x t.nb = false) :
    Calls Try.prog 50 #[.agg #[u.cv t, u.bv t, u.rv t, u.nv t], .agg #[.slice y.fa x.nf y.fc, .slice y.ba x.nb y.bc, .slice y.da x.nd y.dc, .slice y.ma x.nm y.mc]] w fun e w' => e = .returned (.bool false) ∧ Below w.heap.size w w' := by
  have HP : Hid (∀ X, Below w.heap.size w X → Calls Try.prog 48 #[.agg #[u.cv t, u.bv t, u.rv t, u.nv t], .agg #[.slice y.fa x.nf y.fc, .slice y.ba x.nb y.bc, .slice y.da x.nd y.dc, .slice y.ma x.nm y.mc]] X fun e w' => ∃ va vn vc, e = .returned (.tuple #[.slice va vn vc, .bool false, .int .i64 0]) ∧ Below X.heap.size X w') := fun X hX => by
    have h := Play_ok u t y x hs X (hl.below hX) (hx.below hX) hf hsm hn
    rw [hc] at h
    refine h.mono ?_
    rintro _ w' ⟨v, rfl, hr, hb⟩
    obtain ⟨va, vc, rfl⟩ := hr.slice
    exact ⟨_, _, _, rfl, hb⟩
  have HA0 : Hid (BF w (((w.alloc (.cells #[u.cv t, u.bv t, u.rv t, u.nv t] 36)).alloc (.cells #[.slice y.fa x.nf y.fc, .slice y.ba x.nb y.bc, .slice y.da x.nd y.dc, .slice y.ma x.nm y.mc] 100)).alloc (.cells #[.bool false] 4)) [(w.heap.size, #[u.cv t, u.bv t, u.rv t, u.nv t], 36), (w.heap.size + 1, #[.slice y.fa x.nf y.fc, .slice y.ba x.nb y.bc, .slice y.da x.nd y.dc, .slice y.ma x.nm y.mc], 100), (w.heap.size + 2, #[.bool false], 4)]) := BF.made3 w _ _ _ _ _ _
  clear hl hs hf hx hsm hn hc
  unfold WV.cv WV.bv WV.rv WV.nv at *
  have a0 := HA0.out.cell (.head _) 0
  have a1 := HA0.out.cell (.head _) 1
  have a2 := HA0.out.cell (.head _) 2
  have a3 := HA0.out.cell (.head _) 3
  have b0 := HA0.out.cell (.tail _ (.head _)) 0
  have b1 := HA0.out.cell (.tail _ (.head _)) 1
  have b2 := HA0.out.cell (.tail _ (.head _)) 2
  have b3 := HA0.out.cell (.tail _ (.head _)) 3
  go_enter Try.func50, Try.ntmps50
  go_wp2_with (go_at_call 48; refine (HP.out _ HA0.out.fr).mono ?_; rintro _ w1 ⟨va, vn, vc, rfl, hb1⟩; have HA1 := Lib.hid (HA0.out.below (below_step hb1 (below_alloc w1 (.cells #[.slice va vn vc] 73)))); have e0 := HA1.out.cell (.tail _ (.tail _ (.head _))) 0; have f0 := HA1.out.thaw (.tail _ (.tail _ (.head _))) 0; have g0 := (HA1.out.bk _ _ _ (.tail _ (.tail _ (.head _)))).2; clear hb1)
  have hz := set_same g0
  have z0 := (hz.cell (p := ⟨w.heap.size + 2, 0, none⟩) (Array.getElem?_eq_some_iff.1 g0).1).trans e0
  refine bodyPost_ret (v := .bool false) (by simp [results, Try.results50, go_sem, z0]) rfl ⟨rfl, below_step HA1.out.fr hz⟩
attribute [local go_sem] Oper.semAt_some
attribute [local go_sem ↓] Go.wp_at_zero Go.wp_at_succ
set_option maxRecDepth 100000 in
set_option maxHeartbeats 4000000 in
theorem Prove_fits (hf : t.fault = 0) (hsm : TrSm x) (hn : t.isTr x = true) (hc : canC t x t.nb = true) :
    Calls Try.prog 50 #[.agg #[u.cv t, u.bv t, u.rv t, u.nv t], .agg #[.slice y.fa x.nf y.fc, .slice y.ba x.nb y.bc, .slice y.da x.nd y.dc, .slice y.ma x.nm y.mc]] w fun e w' => e = .returned (.bool (t.fits x)) ∧ Below w.heap.size w w' := by
  have hok := Okt.of_fault hf
  have ng2 := hok.ng2; have ng4 := hok.ng4; have nc1 := hok.nc1; have nc4 := hok.nc4
  have HP : Hid (∀ X, Below w.heap.size w X → Calls Try.prog 48 #[.agg #[u.cv t, u.bv t, u.rv t, u.nv t], .agg #[.slice y.fa x.nf y.fc, .slice y.ba x.nb y.bc, .slice y.da x.nd y.dc, .slice y.ma x.nm y.mc]] X fun e w' => ∃ v, e = .returned (.tuple #[v, .bool true, .int .i64 0]) ∧ IRows w' v (t.nb + 1) (fun _ => t.ng) (siz t.ng x) ∧ Below X.heap.size X w') := fun X hX => by
    have h := Play_ok u t y x hs X (hl.below hX) (hx.below hX) hf hsm hn
    rw [hc] at h
    exact h
  have HA0 : Hid (BF w (((w.alloc (.cells #[u.cv t, u.bv t, u.rv t, u.nv t] 36)).alloc (.cells #[.slice y.fa x.nf y.fc, .slice y.ba x.nb y.bc, .slice y.da x.nd y.dc, .slice y.ma x.nm y.mc] 100)).alloc (.cells #[.bool false] 4)) [(w.heap.size, #[u.cv t, u.bv t, u.rv t, u.nv t], 36), (w.heap.size + 1, #[.slice y.fa x.nf y.fc, .slice y.ba x.nb y.bc, .slice y.da x.nd y.dc, .slice y.ma x.nm y.mc], 100), (w.heap.size + 2, #[.bool false], 4)]) := BF.made3 w _ _ _ _ _ _
  have HL := Lib.hid hl; have HS := Lib.hid hs; have HOK := Lib.hid hok; have HNB := Lib.hid hok.nb
  clear hl hs hf hx hsm hn hc hok
  unfold WV.cv WV.bv WV.rv WV.nv at *
  obtain ⟨uca, ucc, uba, ubc, ura, urc, una, unc⟩ := u
  simp only at *
  have a0 := HA0.out.cell (.head _) 0
  have a1 := HA0.out.cell (.head _) 1
  have a2 := HA0.out.cell (.head _) 2
  have a3 := HA0.out.cell (.head _) 3
  have b0 := HA0.out.cell (.tail _ (.head _)) 0
  have b1 := HA0.out.cell (.tail _ (.head _)) 1
  have b2 := HA0.out.cell (.tail _ (.head _)) 2
  have b3 := HA0.out.cell (.tail _ (.head _)) 3
  refine callsIn_wide.1 (callsIn_of_wp_marks (n := 0) Try.func50 rfl trivial ?_ rfl)
  simp only [Try.ntmps50, List.size_toArray, List.length_cons, List.length_nil, Nat.reduceAdd, Nat.reduceSub, Array.replicate_succ, Array.replicate_zero, List.push_toArray, List.append_toArray, List.nil_append, List.cons_append]
  refine wpIn_wide.2 ?_
  go_wp2_with (first | (go_at_call 48; refine (HP.out _ HA0.out.fr).mono ?_; rintro _ w1 ⟨v1, rfl, hr1, hb1⟩; obtain ⟨va, vc, rfl⟩ := hr1.slice; have HR1 := Lib.hid hr1; have HA1 := Lib.hid ((HA0.out.below hb1).alloc #[.slice va (t.nb + 1) vc] 73); clear hb1 hr1 a0 a1 a2 a3 b0 b1 b2 b3; have a0 := HA1.out.cell (.tail _ (.head _)) 0; have a1 := HA1.out.cell (.tail _ (.head _)) 1; have a2 := HA1.out.cell (.tail _ (.head _)) 2; have a3 := HA1.out.cell (.tail _ (.head _)) 3) | (go_at_call 76; refine (cells_any _ _ _ _ _).mono ?_; rintro _ w3 ⟨rfl, rfl⟩))
  have HAB : Hid (BF w ((w1.alloc (.cells #[.slice va (t.nb + 1) vc] 73)).alloc (.cells #[.slice uca t.nc ucc, .slice uba t.nb ubc, .slice ura t.nr urc, .slice una t.nn unc] 36)) [(w1.heap.size + 1, #[.slice uca t.nc ucc, .slice uba t.nb ubc, .slice ura t.nr urc, .slice una t.nn unc], 36), (w1.heap.size, #[.slice va (t.nb + 1) vc], 73), (w.heap.size, #[.slice uca t.nc ucc, .slice uba t.nb ubc, .slice ura t.nr urc, .slice una t.nn unc], 36), (w.heap.size + 2, #[.bool false], 4)]) := by
    have h := HA1.out.alloc #[.slice uca t.nc ucc, .slice uba t.nb ubc, .slice ura t.nr urc, .slice una t.nn unc] 36
    rw [World.size_alloc] at h
    exact h.sub (List.forall_mem_cons.2 ⟨.head _, List.forall_mem_cons.2 ⟨.tail _ (.head _), List.forall_mem_cons.2 ⟨.tail _ (.tail _ (.head _)), List.forall_mem_cons.2 ⟨.tail _ (.tail _ (.tail _ (.tail _ (.head _)))), List.forall_mem_nil _⟩⟩⟩⟩)
  have HB1 : Hid (Below w1.heap.size w1 ((w1.alloc (.cells #[.slice va (t.nb + 1) vc] 73)).alloc (.cells #[.slice uca t.nc ucc, .slice uba t.nb ubc, .slice ura t.nr urc, .slice una t.nn unc] 36))) := below_step (below_alloc _ _) (below_alloc _ _)
  clear HA1 HA0 a0 a1 a2 a3 HP
  generalize ((w1.alloc (.cells #[.slice va (t.nb + 1) vc] 73)).alloc (.cells #[.slice uca t.nc ucc, .slice uba t.nb ubc, .slice ura t.nr urc, .slice una t.nn unc] 36)) = Wb at *
  have hTB : ∀ X, Kx Wb.heap.size (fun _ => False) Wb X → TBox X (w1.heap.size + 1) ⟨uca, ucc, uba, ubc, ura, urc, una, unc⟩ t := fun X hX => by
    have hl := HL.out.below HAB.out.fr
    exact ⟨(hX.block _ (HAB.out.lt (.head _)).2 (fun h => h)).trans (HAB.out.bk _ _ _ (.head _)).2, hl.blocks hX.size (fun b hb => hX.block b hb (fun h => h))⟩
  refine wpIn_wide.1 (stopped_range (n := 0) (gf := 106) (lb := #[.pointer (some ⟨w1.heap.size + 1, 0, none⟩)]) rfl (enters_of Try.func106 (by kernel_rfl) rfl)
    (cells_stopped (w1.heap.size + 1) Wb.heap.size (fun _ => False) ⟨uca, ucc, uba, ubc, ura, urc, una, unc⟩ t HS.out nc4 ng4 Wb (Nat.le_refl _) hTB) (fun _ => rfl) Kx.trans (fun W l o' h => Kx.put W l o' h)
    (LI Wb t x) (LQ Wb t x) (LI.own Wb t x) (LQ.own Wb t x) ⟨Below.refl _ _, fun _ h => absurd h (Nat.not_lt_zero _)⟩
    (fun k a' W' => LI Wb t x k W' ∧ ∃ Bx, W'.heap[Bx]? = some (.cells #[.int .i64 ((k / t.ng : Nat) : Int), .int .i64 ((k % t.ng : Nat) : Int)] 39 (0, 0)) ∧ Wb.heap.size ≤ Bx ∧ a' = { tmps := #[.agg #[.slice uca t.nc ucc, .slice uba t.nb ubc, .slice ura t.nr urc, .slice una t.nn unc], .agg #[.slice y.fa x.nf y.fc, .slice y.ba x.nb y.bc, .slice y.da x.nd y.dc, .slice y.ma x.nm y.mc], .pointer (some ⟨w.heap.size, 0, none⟩), .pointer (some ⟨w.heap.size + 1, 0, none⟩), .pointer (some ⟨w.heap.size + 1 + 1, 0, none⟩), .pointer (some ⟨w1.heap.size, 0, none⟩), .bool true, .int .i64 0, .pointer (some ⟨Bx, 0, none⟩), .tuple #[.slice va (t.nb + 1) vc, .bool true, .int .i64 0], .agg #[.slice uca t.nc ucc, .slice uba t.nb ubc, .slice ura t.nr urc, .slice una t.nn unc], .agg #[.slice y.fa x.nf y.fc, .slice y.ba x.nb y.bc, .slice y.da x.nd y.dc, .slice y.ma x.nm y.mc], .tuple #[.slice va (t.nb + 1) vc, .bool true, .int .i64 0], .slice va (t.nb + 1) vc, .bool true, .int .i64 0, .int .i64 0, .bool false, .bool false, .bool true, .bool false, .bool false, .agg #[.slice uca t.nc ucc, .slice uba t.nb ubc, .slice ura t.nr urc, .slice una t.nn unc], .func (.func 106) #[] #[.pointer (some ⟨w1.heap.size + 1, 0, none⟩)], .agg #[.int .i64 ((k / t.ng : Nat) : Int), .int .i64 ((k % t.ng : Nat) : Int)], undef, undef, undef, undef, undef, undef, undef, undef, undef, undef, undef, undef, undef, undef, undef, undef, undef, undef, undef, undef, undef], defers := [] })
    ?hA ?assign ?body ?done ?stop)
  case hA =>
    rintro k a' s X Y row ⟨hs, Bx, hbx, hle, rfl⟩ hg hr
    refine ⟨LI.own Wb t x _ X Y row hs hg hr, Bx, ?_, hle, rfl⟩
    rw [hg.block _ (Array.getElem?_eq_some_iff.1 hbx).1 (fun e => by obtain ⟨_, o, ho, hc⟩ := hr _ e.symm; rw [hbx] at ho; cases ho; cases hc)]
    exact hbx
  case assign =>
    rintro l1 k W1 hy hlen
    have HY := Lib.hid hy
    have hzz := hy.1.size
    clear hy
    simp only [encC]
    gi_wp2
    exact ⟨Kx.below hzz (below_alloc _ _), (KeepsOthers.alloc _ _).from _, OwnFrom.alloc (LI.own Wb t x) _ HY.out, W1.heap.size, heap_alloc_new _ _, hzz, rfl⟩
  case body =>
    rintro l1 k a' W1 hl ⟨hli, Bx, hbx, hle, rfl⟩ hlen
    have hng : 0 < t.ng := by omega
    obtain ⟨c0, hc0⟩ : ∃ c0, c0 = k / t.ng := ⟨_, rfl⟩
    obtain ⟨g0, hg0⟩ : ∃ g0, g0 = k % t.ng := ⟨_, rfl⟩
    have hg0l : g0 < t.ng := by rw [hg0]; exact Nat.mod_lt _ hng
    have hc0l : c0 < t.nc := by rw [hc0]; exact (Nat.div_lt_iff_lt_mul hng).2 hlen
    obtain ⟨p, q, hpq⟩ : ∃ p q, t.ct c0 g0 = (p, q) := ⟨_, _, rfl⟩
    obtain ⟨sz, hsz⟩ : ∃ sz, siz t.ng x c0 g0 = sz := ⟨_, rfl⟩
    obtain ⟨hh, hhh⟩ : ∃ hh, inB sz p q = hh := ⟨_, rfl⟩
    have HFK : Hid (fitK t x k = hh) := by
      unfold Hid fitK
      rw [← hc0, ← hg0, hpq, hsz]
      exact hhh
    rw [← hc0, ← hg0] at hbx ⊢
    have HLI := Lib.hid hli
    have HA2 := Lib.hid (HAB.out.below hli.1)
    have HBW := Lib.hid (below_step HB1.out hli.1)
    obtain ⟨cb, co, ra, rc, hca, hcb, x1, hrow⟩ := HL.out.1.at (k := c0) hc0l
    rw [HOK.out.rl c0 hc0l] at x1 hrow
    obtain ⟨rb, ro, rfl, hrb, x2, x3⟩ := hrow.at (k := g0) hg0l
    rw [hpq] at x2 x3
    obtain ⟨vb, vo, sa, sc, rfl, hvb, x4, hsr⟩ := HR1.out.at (k := c0) (by have := HNB.out; omega)
    obtain ⟨sb, so, rfl, hsb, x5⟩ := hsr.at (k := g0) hg0l
    rw [hsz] at x5
    simp only at hca
    subst hca
    have HC6 : Hid (∀ X, Below W1.heap.size W1 X → (X.cell? ⟨w.heap.size, 0, none⟩ = some (.slice (some ⟨cb, co, none⟩) t.nc ucc) ∧ X.cell? ⟨cb, co + c0, none⟩ = some (.slice (some ⟨rb, ro, none⟩) t.ng rc) ∧ X.cell? ⟨rb, ro + g0 * 2, none⟩ = some (.int .i64 p) ∧ X.cell? ⟨rb, ro + g0 * 2 + 1, none⟩ = some (.int .i64 q) ∧ X.cell? ⟨Bx, 0, none⟩ = some (.int .i64 (c0 : Int)) ∧ X.cell? ⟨Bx, 1, none⟩ = some (.int .i64 (g0 : Int)) ∧ X.cell? ⟨w1.heap.size, 0, none⟩ = some (.slice (some ⟨vb, vo, none⟩) (t.nb + 1) vc) ∧ X.cell? ⟨vb, vo + c0, none⟩ = some (.slice (some ⟨sb, so, none⟩) t.ng sc) ∧ X.cell? ⟨sb, so + g0, none⟩ = some (.int .i64 sz))) := fun X hX => by
      have hA := HA2.out.below hX
      have hB := below_step HBW.out hX
      have hb := (hX.block Bx (Array.getElem?_eq_some_iff.1 hbx).1).trans hbx
      exact ⟨hA.cell (.tail _ (.tail _ (.head _))) 0, kept hA.fr hcb x1, kept hA.fr hrb x2, kept hA.fr hrb x3, cell_of_row _ _ 0 _ _ _ hb, cell_of_row _ _ 1 _ _ _ hb, hA.cell (.tail _ (.head _)) 0, kept hB hvb x4, kept hB hsb x5⟩
    have HHA : Hid (∀ X, Calls Try.prog 89 #[.agg #[.int .i64 p, .int .i64 q], .int .i64 sz] X fun e w' => e = .returned (.bool hh) ∧ Below X.heap.size X w') := fun X => by
      have h := has_any p q sz X
      rw [hhh] at h
      exact h
    have ci : (0 : Int) ≤ (c0 : Int) := by omega
    have cj : (c0 : Int) < (t.nc : Int) := by omega
    have ck : (c0 : Int) < (t.nb : Int) + 1 := by have := HNB.out; omega
    have gi : (0 : Int) ≤ (g0 : Int) := by omega
    have gj : (g0 : Int) < (t.ng : Int) := by omega
    clear x1 x2 x3 x4 x5 hrow hsr hcb hrb hvb hsb hbx hli hc0 hg0 hpq hsz hhh
    gi_wp2_with fail
    have HAX : Hid (Below W1.heap.size W1 W1.drew) := (Below.refl _ _).drew
    cases hh
    · refine region_wide (fun X => X.cell? ⟨w.heap.size, 0, none⟩ = some (.slice (some ⟨cb, co, none⟩) t.nc ucc) ∧ X.cell? ⟨cb, co + c0, none⟩ = some (.slice (some ⟨rb, ro, none⟩) t.ng rc) ∧ X.cell? ⟨rb, ro + g0 * 2, none⟩ = some (.int .i64 p) ∧ X.cell? ⟨rb, ro + g0 * 2 + 1, none⟩ = some (.int .i64 q) ∧ X.cell? ⟨Bx, 0, none⟩ = some (.int .i64 (c0 : Int)) ∧ X.cell? ⟨Bx, 1, none⟩ = some (.int .i64 (g0 : Int)) ∧ X.cell? ⟨w1.heap.size, 0, none⟩ = some (.slice (some ⟨vb, vo, none⟩) (t.nb + 1) vc) ∧ X.cell? ⟨vb, vo + c0, none⟩ = some (.slice (some ⟨sb, so, none⟩) t.ng sc) ∧ X.cell? ⟨sb, so + g0, none⟩ = some (.int .i64 sz)) (by kernel_rfl) (no_defer (by kernel_rfl)) (HC6.out _ HAX.out) (fun hS => ?_)
      generalize W1.drew = X at *
      refine tk [0, 1, 2, 3, 4, 5, 6, 7, 8, 9, 10, 11, 12, 13, 14, 15, 16, 17, 18] ?_
      repeat (refine tkH (oi := ⟨_, _, _, _, _, _⟩) (v := ?_) rfl (by kernel_rfl) (by rfl) (fun _ _ _ h => h) hS ?_ ?_; rotate_left; (· rintro W' ⟨z0, z1, z2, z3, z4, z5, z6, z7, z8⟩; go_simp; try with_reducible rfl); try simp only [Act.put, putA, putZ, putS])
      refine tk0 ?_
      refine wpAnyH_ready (rs := [19]) (by kernel_rfl) (by simp) ?_
      refine AllReadyH.cons (o := ⟨some 44, _, _, _, _, _⟩) rfl (fun K hK => ?_) AllReadyH.nil
      go_simp
      refine (HHA.out _).mono ?_
      rintro _ X0 ⟨rfl, hb0⟩
      (try go_wp2_with fail)
      have HA0 := Lib.hid (below_step HAX.out hb0)
      refine hK.out _ _ (HC6.out X0 HA0.out) (fun hS => ?_)
      clear hK K
      try simp only [Act.put, putA, putZ, putS]
      clear hb0
      refine tH 20 (oi := ⟨_, _, _, _, _, _⟩) (v := ?_) rfl (by kernel_rfl) (by rfl) (fun _ _ _ h => h) hS ?_ ?_
      rotate_left
      · rintro W' ⟨z0, z1, z2, z3, z4, z5, z6, z7, z8⟩; go_simp; try with_reducible rfl
      try simp only [Act.put, putA, putZ, putS]
      refine wpAnyH_done (by kernel_rfl) ?_ _
      have HAN := Lib.hid (HA2.out.below HA0.out)
      have e0 : X0.cell? ⟨w.heap.size + 1 + 1, 0, none⟩ = some (.bool false) := HAN.out.cell (.tail _ (.tail _ (.tail _ (.head _)))) 0
      have f0 : X0.frozen? ⟨w.heap.size + 1 + 1, 0, none⟩ = false := HAN.out.thaw (.tail _ (.tail _ (.tail _ (.head _)))) 0
      have hz := set_same (HAN.out.bk _ _ _ (.tail _ (.tail _ (.tail _ (.head _))))).2
      have HZ := Lib.hid (below_step HA0.out hz)
      clear hz
      gi_wp2
      exact ⟨keeps_below HZ.out, HLI.out.1.trans (HZ.out.mono HLI.out.1.size), HFK.out⟩
    · refine region_wide (fun X => X.cell? ⟨w.heap.size, 0, none⟩ = some (.slice (some ⟨cb, co, none⟩) t.nc ucc) ∧ X.cell? ⟨cb, co + c0, none⟩ = some (.slice (some ⟨rb, ro, none⟩) t.ng rc) ∧ X.cell? ⟨rb, ro + g0 * 2, none⟩ = some (.int .i64 p) ∧ X.cell? ⟨rb, ro + g0 * 2 + 1, none⟩ = some (.int .i64 q) ∧ X.cell? ⟨Bx, 0, none⟩ = some (.int .i64 (c0 : Int)) ∧ X.cell? ⟨Bx, 1, none⟩ = some (.int .i64 (g0 : Int)) ∧ X.cell? ⟨w1.heap.size, 0, none⟩ = some (.slice (some ⟨vb, vo, none⟩) (t.nb + 1) vc) ∧ X.cell? ⟨vb, vo + c0, none⟩ = some (.slice (some ⟨sb, so, none⟩) t.ng sc) ∧ X.cell? ⟨sb, so + g0, none⟩ = some (.int .i64 sz)) (by kernel_rfl) (no_defer (by kernel_rfl)) (HC6.out _ HAX.out) (fun hS => ?_)
      generalize W1.drew = X at *
      refine tk [0, 1, 2, 3, 4, 5, 6, 7, 8, 9, 10, 11, 12, 13, 14, 15, 16, 17, 18] ?_
      repeat (refine tkH (oi := ⟨_, _, _, _, _, _⟩) (v := ?_) rfl (by kernel_rfl) (by rfl) (fun _ _ _ h => h) hS ?_ ?_; rotate_left; (· rintro W' ⟨z0, z1, z2, z3, z4, z5, z6, z7, z8⟩; go_simp; try with_reducible rfl); try simp only [Act.put, putA, putZ, putS])
      refine tk0 ?_
      refine wpAnyH_ready (rs := [19]) (by kernel_rfl) (by simp) ?_
      refine AllReadyH.cons (o := ⟨some 44, _, _, _, _, _⟩) rfl (fun K hK => ?_) AllReadyH.nil
      go_simp
      refine (HHA.out _).mono ?_
      rintro _ X0 ⟨rfl, hb0⟩
      (try go_wp2_with fail)
      have HA0 := Lib.hid (below_step HAX.out hb0)
      refine hK.out _ _ (HC6.out X0 HA0.out) (fun hS => ?_)
      clear hK K
      try simp only [Act.put, putA, putZ, putS]
      clear hb0
      refine tH 20 (oi := ⟨_, _, _, _, _, _⟩) (v := ?_) rfl (by kernel_rfl) (by rfl) (fun _ _ _ h => h) hS ?_ ?_
      rotate_left
      · rintro W' ⟨z0, z1, z2, z3, z4, z5, z6, z7, z8⟩; go_simp; try with_reducible rfl
      try simp only [Act.put, putA, putZ, putS]
      refine wpAnyH_done (by kernel_rfl) ?_ _
      gi_wp2
      exact ⟨keeps_below HA0.out, Kx.below HLI.out.1.size HA0.out, HLI.out.1.trans (HA0.out.mono HLI.out.1.size), fun q hq => by
        rcases Nat.lt_succ_iff_lt_or_eq.1 hq with h | rfl
        · exact HLI.out.2 q h
        · exact HFK.out⟩
  case done =>
    rintro D W5 hD hli hK
    obtain ⟨hb5, hall⟩ := hli
    have HALL := Lib.hid hall
    have HA5 := Lib.hid (HAB.out.below hb5)
    have hlt := (HAB.out.lt (.tail _ (.tail _ (.tail _ (.head _))))).2
    have e0 : W5.cell? ⟨w.heap.size + 1 + 1, 0, none⟩ = some (.bool false) := HA5.out.cell (.tail _ (.tail _ (.tail _ (.head _)))) 0
    have f0 : W5.frozen? ⟨w.heap.size + 1 + 1, 0, none⟩ = false := HA5.out.thaw (.tail _ (.tail _ (.tail _ (.head _)))) 0
    have hK2 := ((Fr.set W5 (w.heap.size + 2) 0 (.bool true)).block D (Array.getElem?_eq_some_iff.1 hK).1 (by omega)).trans hK
    have HK := Lib.hid hK2
    have hset := (Go.Proofs.Ytjaoflfophcibaa.BF.set1 (i := 0) (cs' := #[.bool true]) HA5.out (.tail _ (.tail _ (.tail _ (.head _)))) (.bool true) (by simp) rfl (L' := []) (List.forall_mem_nil _))
    have hc0 := hset.cell (.head _) 0
    have HS5 := Lib.hid hset.fr
    have z0 : ∀ o, ((W5.setCell ⟨w.heap.size + 1 + 1, 0, none⟩ (.bool true)).putObj D o).cell? ⟨w.heap.size + 1 + 1, 0, none⟩ = some (.bool true) := fun o => (Fr.put (W5.setCell ⟨w.heap.size + 1 + 1, 0, none⟩ (.bool true)) D o).cell hc0 (by omega)
    have hsz : D < W5.heap.size := (Array.getElem?_eq_some_iff.1 hK).1
    have hbw := HAB.out.fr.size
    clear hK hK2 hall hset hc0
    go_wp2
    refine ⟨by simp, .inl ⟨_, _, rfl, run_takeDeferred HK.out, ?_⟩⟩
    refine ⟨.bool true, by simp [results, Try.results50, go_sem, z0], ?_⟩
    refine ⟨by unfold Tb.fits; rw [allB_true HALL.out], ?_⟩
    exact HS5.out.trans ((Fr.put _ D _).low (by simp; omega) (fun q hq e => by omega))
  case stop =>
    rintro D k W5 hD hk hlx hK
    obtain ⟨hb5, hfk⟩ := hlx
    have HFK := Lib.hid hfk
    have HK := Lib.hid hK
    have HA5 := Lib.hid (HAB.out.below hb5)
    have hlt := (HAB.out.lt (.tail _ (.tail _ (.tail _ (.head _))))).2
    have e0 : W5.cell? ⟨w.heap.size + 1 + 1, 0, none⟩ = some (.bool false) := HA5.out.cell (.tail _ (.tail _ (.tail _ (.head _)))) 0
    have z0 : ∀ o, (W5.putObj D o).cell? ⟨w.heap.size + 1 + 1, 0, none⟩ = some (.bool false) := fun o => (Fr.put W5 D o).cell e0 (by omega)
    have hbw := HAB.out.fr.size
    have hsz : D < W5.heap.size := (Array.getElem?_eq_some_iff.1 hK).1
    clear hK hfk
    refine wpIn_wide.2 ?_
    go_wp2
    refine ⟨by simp, .inl ⟨_, _, rfl, run_takeDeferred HK.out, ?_⟩⟩
    refine ⟨.bool false, by simp [results, Try.results50, go_sem, z0], ?_⟩
    refine ⟨by unfold Tb.fits; rw [allB_false hk HFK.out], ?_⟩
    exact HA5.out.fr.trans ((Fr.put W5 D _).low (by omega) (fun q hq e => by omega))
end
end Go.Proofs.Ytjaoflfophcibaa
