/- The reference's Up, by its Free. Printed by gen_kk.py. -/
import Derived.Test.YtjaoflfophcibaaKJ
import Derived.Test.YtjaoflfophcibaaPF
import Derived.Deep.MidRow
namespace Go.Proofs.Ytjaoflfophcibaa
open Go.RowKit Go.Shelf

theorem row_range {W : World} {b : Nat} {L : List Value} {T : TypeId} (h : W.heap[b]? = some (.cells L.toArray T (0, 0))) : W.rangeAt b 0 L := fun j v hv => by
  rw [Nat.zero_add, cell_of_row _ _ _ _ _ _ h]; simpa using hv
theorem Try.sizeOffR : (Try.prog.info? 46).map (·.size) = some 16 := by kernel_rfl
theorem ld_off {ops : Array Oper} {S : World → Prop} {op : Oper} {a : Act} (out : Nat → Nat → Bool) (hw : Region.wanted op (yielded ops a.tmps) = true) (x : Operand) (ho : op.op = .load 46 x) (b : Nat) (hx : a.eval x = .pointer (some ⟨b, 0, none⟩)) (hS : ∀ w, S w → w.rangeAt b 0 (outL out)) : YieldsIf Try.prog ops S op (.agg (outL out).toArray) a :=
  yieldsIf_load_mid hw 46 x ho b 0 hx (outL out) _ hS Try.underlying46 rfl (by rw [outL_length]; exact Try.sizeOffR)
theorem ld_set {ops : Array Oper} {S : World → Prop} {op : Oper} {a : Act} (q : Nat → Bool) (hw : Region.wanted op (yielded ops a.tmps) = true) (x : Operand) (ho : op.op = .load 54 x) (b : Nat) (hx : a.eval x = .pointer (some ⟨b, 0, none⟩)) (hS : ∀ w, S w → w.rangeAt b 0 (stL q)) : YieldsIf Try.prog ops S op (.agg (stA q)) a :=
  yieldsIf_load_mid hw 54 x ho b 0 hx (stL q) _ hS Try.underlying54 rfl (by have h := stA_info q; rw [h]; unfold stA; rw [List.size_toArray])
theorem step_store_row {ops : Array Oper} {o : Oper} {a : Act} {w : World} {K : Act → World → Prop} {Q : Exit → Act → World → Prop} {E : Prop} (hgd : o.guard = none) (ty : TypeId) (x y : Operand) (ho : o.op = .store ty x y)
    (g : Nat) (cells : Array Value) (hx : a.eval x = .pointer (some ⟨g, 0, none⟩)) (hy : a.eval y = .agg cells) (t : TypeId) (old : Array Value) (hg : w.heap[g]? = some (.cells old t (0, 0))) (hi : (Try.prog.info? ty).map (·.size) = some cells.size)
    (hold : old.size = cells.size) (h1 : cells.all (·.oneCell') = true) (h : K (a.put o.dst undef) (w.setRow g cells)) :
    if Region.wanted o (yielded ops a.tmps) = true then Oper.wp Try.prog o a w K Q else E := by
  have hw : Region.wanted o (yielded ops a.tmps) = true := by simp [Region.wanted, hgd]
  rw [if_pos hw]
  exact wp_store_row ty x y ho g cells hx hy t old hg hi hold h1 h
def FreeC (t : Tb) (out : Nat → Nat → Bool) (c : Nat) : Prop := ∀ (u : WV) (g : Nat) (w : World), WLi w u t → g < t.ng →
  Calls Try.prog 28 #[.agg #[u.cv t, u.bv t, u.rv t, u.nv t], .int .i64 c, .int .i64 g, .agg (outL out).toArray] w fun e w' => ∃ q, e = .returned (.agg (stA q)) ∧ IvS q (t.before out c g) ∧ Below w.heap.size w w'
def UpC (t : Tb) (out : Nat → Nat → Bool) (c : Nat) : Prop := ∀ (u : WV) (g : Nat) (w : World), WLi w u t → g < t.ng →
  Calls Try.prog 44 #[.agg #[u.cv t, u.bv t, u.rv t, u.nv t], .int .i64 c, .int .i64 g, .agg (outL out).toArray] w fun e w' => ∃ q, e = .returned (.agg (stA q)) ∧ IvS q (t.up out c g) ∧ Below w.heap.size w w'
set_option maxRecDepth 100000 in
set_option maxHeartbeats 4000000 in
theorem up_of_free {t : Tb} {out : Nat → Nat → Bool} {c : Nat} (ht : OkR t) (hc : c < t.nc) (HF : FreeC t out c) : UpC t out c := by
  intro u g w hl hg
  have HFR : Hid (∀ X, Below w.heap.size w X → Calls Try.prog 28 #[.agg #[u.cv t, u.bv t, u.rv t, u.nv t], .int .i64 c, .int .i64 g, .agg (outL out).toArray] X fun e w' => ∃ q, e = .returned (.agg (stA q)) ∧ IvS q (t.before out c g) ∧ Below X.heap.size X w') := fun X hX => HF u g X (hl.below hX) hg
  have HOW : Hid (∀ X, Below w.heap.size w X → Calls Try.prog 68 #[.agg #[u.cv t, u.bv t, u.rv t, u.nv t], .int .i64 c, .int .i64 g, .agg (outL out).toArray] X fun e w' => ∃ q, e = .returned (.agg (stA q)) ∧ IvS q (t.own out c g) ∧ Below X.heap.size X w') := fun X hX => rown_any u t out c g X (hl.below hX) ht hc hg
  clear hl ht HF
  obtain ⟨uca, ucc, uba, ubc, ura, urc, una, unc⟩ := u
  simp only [WV.cv, WV.bv, WV.rv, WV.nv] at HFR HOW ⊢
  have HA0 : Hid (BF w (((w.alloc (.cells #[.slice uca t.nc ucc, .slice uba t.nb ubc, .slice ura t.nr urc, .slice una t.nn unc] 25)).alloc (.cells (outL out).toArray 46)).alloc (.cells Try.zeroCells54 54)) [(w.heap.size, #[.slice uca t.nc ucc, .slice uba t.nb ubc, .slice ura t.nr urc, .slice una t.nn unc], 25), (w.heap.size + 1, (outL out).toArray, 46), (w.heap.size + 1 + 1, stA fun _ => false, 54)]) := by
    have h := BF.made3 w #[.slice uca t.nc ucc, .slice uba t.nb ubc, .slice ura t.nr urc, .slice una t.nn unc] (outL out).toArray Try.zeroCells54 25 46 54
    rw [stA_zero] at h ⊢
    exact h
  go_enter Try.func44, Try.ntmps44
  go_upto_region 1 with (refine wpList_box_row (o := ⟨some 7, .box 46 (.tmp 3), _, _, _, _⟩) rfl 46 (.tmp 3) rfl (outL out).toArray rfl ?_)
  generalize (((w.alloc (.cells #[.slice uca t.nc ucc, .slice uba t.nb ubc, .slice ura t.nr urc, .slice una t.nn unc] 25)).alloc (.cells (outL out).toArray 46)).alloc (.cells Try.zeroCells54 54)) = w1 at *
  have HCS : Hid (∀ X, BF w X [(w.heap.size, #[.slice uca t.nc ucc, .slice uba t.nb ubc, .slice ura t.nr urc, .slice una t.nn unc], 25), (w.heap.size + 1, (outL out).toArray, 46), (w.heap.size + 1 + 1, stA fun _ => false, 54)] → (X.cell? ⟨w.heap.size, 0, none⟩ = some (.slice uca t.nc ucc) ∧ X.cell? ⟨w.heap.size, 1, none⟩ = some (.slice uba t.nb ubc) ∧ X.cell? ⟨w.heap.size, 2, none⟩ = some (.slice ura t.nr urc) ∧ X.cell? ⟨w.heap.size, 3, none⟩ = some (.slice una t.nn unc) ∧ X.rangeAt (w.heap.size + 1) 0 (outL out))) := fun X h => ⟨h.cell (.head _) 0, h.cell (.head _) 1, h.cell (.head _) 2, h.cell (.head _) 3, row_range (h.bk _ _ _ (.tail _ (.head _))).2⟩
  have HAX := Lib.hid (HA0.out.below (Below.refl _ w1).drew)
  refine wp_region_Z (S := fun X => X.cell? ⟨w.heap.size, 0, none⟩ = some (.slice uca t.nc ucc) ∧ X.cell? ⟨w.heap.size, 1, none⟩ = some (.slice uba t.nb ubc) ∧ X.cell? ⟨w.heap.size, 2, none⟩ = some (.slice ura t.nr urc) ∧ X.cell? ⟨w.heap.size, 3, none⟩ = some (.slice una t.nn unc) ∧ X.rangeAt (w.heap.size + 1) 0 (outL out)) (by kernel_rfl) (HCS.out _ HAX.out) (fun hS => ?_)
  generalize w1.drew = X at *
  refine tk [0, 1, 2] ?_
  repeat (refine tkZ (oi := ⟨_, _, _, _, _, _⟩) (v := ?_) rfl (by kernel_rfl) (by rfl) (fun _ _ _ h => h) hS ?_ ?_; rotate_left; (· rintro W' ⟨z0, z1, z2, z3, z4⟩; go_simp; try with_reducible rfl); try simp only [Act.put, putA, putZ, putS])
  refine tk0 ?_
  refine wpAnyZ_take (i := 3) (oi := ⟨some 12, _, _, _, _, _⟩) (v := .agg (outL out).toArray) rfl (by kernel_rfl) (by kernel_rfl) (by kernel_rfl) (fun _ _ _ h => h) (ld_off out (by rfl) (.tmp 7) rfl (w.heap.size + 1) rfl (fun _ h => h.2.2.2.2)) hS ?_
  try simp only [Act.put, putA, putZ, putS]
  refine tk [5, 6, 7] ?_
  repeat (refine tkZ (oi := ⟨_, _, _, _, _, _⟩) (v := ?_) rfl (by kernel_rfl) (by rfl) (fun _ _ _ h => h) hS ?_ ?_; rotate_left; (· rintro W' ⟨z0, z1, z2, z3, z4⟩; go_simp; try with_reducible rfl); try simp only [Act.put, putA, putZ, putS])
  refine tk0 ?_
  refine wpAnyZ_take (i := 8) (oi := ⟨some 17, _, _, _, _, _⟩) (v := .agg (outL out).toArray) rfl (by kernel_rfl) (by kernel_rfl) (by kernel_rfl) (fun _ _ _ h => h) (ld_off out (by rfl) (.tmp 7) rfl (w.heap.size + 1) rfl (fun _ h => h.2.2.2.2)) hS ?_
  try simp only [Act.put, putA, putZ, putS]
  refine wpAnyZ_next (rs := [4]) (by kernel_rfl) (by simp) ?_
  refine NextZ.cons (o := ⟨some 13, _, _, _, _, _⟩) rfl (fun K hK => ?_) NextZ.nil
  go_simp
  refine (HFR.out _ HAX.out.fr).mono ?_
  rintro _ X0 ⟨q1, rfl, hi1, hb0⟩
  (try go_wp2_with fail)
  have HA0 := Lib.hid (HAX.out.below hb0)
  have HI1 := Lib.hid hi1
  clear hi1
  refine hK.out _ _ (HCS.out X0 HA0.out) (fun hS => ?_)
  clear hK K
  try simp only [Act.put, putA, putZ, putS]
  clear hb0
  refine wpAnyZ_next (rs := [9]) (by kernel_rfl) (by simp) ?_
  refine NextZ.cons (o := ⟨some 18, _, _, _, _, _⟩) rfl (fun K hK => ?_) NextZ.nil
  go_simp
  refine (HOW.out _ HA0.out.fr).mono ?_
  rintro _ X1 ⟨q2, rfl, hi2, hb1⟩
  (try go_wp2_with fail)
  have HA1 := Lib.hid (HA0.out.below hb1)
  have HI2 := Lib.hid hi2
  clear hi2
  refine hK.out _ _ (HCS.out X1 HA1.out) (fun hS => ?_)
  clear hK K
  try simp only [Act.put, putA, putZ, putS]
  clear hb1
  refine wpAnyZ_next (rs := [10]) (by kernel_rfl) (by simp) ?_
  refine NextZ.cons (o := ⟨some 19, _, _, _, _, _⟩) rfl (fun K hK => ?_) NextZ.nil
  go_simp
  refine (both_any q1 q2 _).mono ?_
  rintro _ X2 ⟨rfl, hb2⟩
  (try go_wp2_with fail)
  have HA2 := Lib.hid (HA1.out.below hb2)
  refine hK.out _ _ (HCS.out X2 HA2.out) (fun hS => ?_)
  clear hK K
  try simp only [Act.put, putA, putZ, putS]
  clear hb2
  refine wpAnyZ_next (rs := [11]) (by kernel_rfl) (by simp) ?_
  refine NextZ.last (o := ⟨none, _, _, _, _, _⟩) rfl (by kernel_rfl) (fun K hK => ?_)
  have HRX : Hid (X2.heap[w.heap.size + 1 + 1]? = some (.cells (stA fun _ => false) 54 (0, 0))) := (HA2.out.bk _ _ _ (.tail _ (.tail _ (.head _)))).2
  have HSZ := Lib.hid (stA_info (fun m => q1 m && q2 m))
  refine step_store_row (by rfl) 54 (.tmp 8) (.tmp 19) (by rfl) (w.heap.size + 1 + 1) (stA fun m => q1 m && q2 m) (by rfl) (by rfl) 54 (stA fun _ => false) HRX.out HSZ.out rfl (stA_one _) ?_
  refine hK.out _ _ ?_
  clear hK K
  (try simp only [Act.put])
  refine wpAnyZ_done (by kernel_rfl) ?_ _
  go_wp2_with fail
  refine bodyPost_ret (v := .agg (stA fun m => q1 m && q2 m)) (results_cell_row rfl _ _ (w.heap.size + 1 + 1) 54 _ (0, 0) _ rfl (setRow_heap _ _ _ _ _ _ HRX.out) Try.underlying54 rfl HSZ.out) rfl ⟨_, rfl, HI1.out.both HI2.out, HA2.out.fr.trans ⟨rfl, rfl, rfl, by simp, fun q hq => setRow_other _ _ _ _ (by omega)⟩⟩
end Go.Proofs.Ytjaoflfophcibaa
