/- AgeMore: the walk. -/
import Derived.Test.YtagfcfojfjkmbaaI1
import Derived.OrdersHeld
import Derived.Deep.DeepCutAuto
namespace Go.Proofs.Ytagfcfojfjkmbaa
open Go.RowKit Go.Shelf

/-- The three blocks that AgeMore lays first. -/
def MB (w : World) (o0 o1 o2 : Obj) (X : World) : Prop :=
  X.heap[w.heap.size]? = some o0 ∧ X.heap[w.heap.size + 1]? = some o1 ∧ X.heap[w.heap.size + 2]? = some o2 ∧ Below w.heap.size w X
theorem MB.fr {w : World} {o0 o1 o2 : Obj} {ex : Nat → Prop} {W W' : World} (h : MB w o0 o1 o2 W) (hf : Fr ex W W') (hx : ∀ q, ex q → w.heap.size + 3 ≤ q) : MB w o0 o1 o2 W' := by
  obtain ⟨h0, h1, h2, h3⟩ := h
  have go : ∀ (q : Nat) (o : Obj), q < w.heap.size + 3 → W.heap[q]? = some o → W'.heap[q]? = some o := fun q o hq ho => (hf.block _ (Array.getElem?_eq_some_iff.1 ho).1 (fun e => by have := hx q e; omega)).trans ho
  exact ⟨go _ _ (by omega) h0, go _ _ (by omega) h1, go _ _ (by omega) h2, h3.trans (hf.low h3.size (fun q hq e => by have := hx q e; omega))⟩
theorem MB.low {w : World} {o0 o1 o2 : Obj} {W : World} (h : MB w o0 o1 o2 W) : w.heap.size + 3 ≤ W.heap.size := by
  have := (Array.getElem?_eq_some_iff.1 h.2.2.1).1; omega
theorem MB.low3 {w : World} {o0 o1 o2 : Obj} {W : World} (h : MB w o0 o1 o2 W) : w.heap.size + 3 ≤ W.heap.size := h.low
theorem MB.set {w : World} {o0 o1 : Obj} {a b c d : Value} {t : TypeId} {W : World} (h : MB w o0 o1 (.cells #[a, b, c, d] t (0, 0)) W) (v : Value) : MB w o0 o1 (.cells #[a, b, c, v] t (0, 0)) (W.setCell ⟨w.heap.size + 1 + 1, 3, none⟩ v) := by
  obtain ⟨h0, h1, h2, h3⟩ := h
  have hf := Fr.set W (w.heap.size + 1 + 1) 3 v
  have l2 := (Array.getElem?_eq_some_iff.1 h2).1
  refine ⟨(hf.block _ (by omega) (by omega)).trans h0, (hf.block _ (by omega) (by omega)).trans h1, ?_, h3.trans (hf.low h3.size (fun q hq e => by omega))⟩
  show (W.setCell ⟨w.heap.size + 2, 3, none⟩ v).heap[w.heap.size + 2]? = _
  simp [World.setCell, Array.getElem?_modify, h2]
theorem MB.c23 {w : World} {o0 o1 : Obj} {a b c d : Value} {t : TypeId} {W : World} (h : MB w o0 o1 (.cells #[a, b, c, d] t (0, 0)) W) : W.cell? ⟨w.heap.size + 1 + 1, 3, none⟩ = some d := cell_of_row _ _ 3 _ _ _ h.2.2.1
theorem MB.f23 {w : World} {o0 o1 : Obj} {a b c d : Value} {t : TypeId} {W : World} (h : MB w o0 o1 (.cells #[a, b, c, d] t (0, 0)) W) : W.frozen? ⟨w.heap.size + 1 + 1, 3, none⟩ = false := frozen_of_row _ _ 3 _ _ h.2.2.1
theorem own_empty (X : World) (E size base : Nat) (hb : base ≤ X.heap.size) : (X.alloc (.cells #[] E)).ownsRow base E size (.slice (some ⟨X.heap.size, 0, none⟩) 0 0) 0 [] :=
  ⟨by simp, .inr ⟨X.heap.size, 0, _, rfl, hb, heap_alloc_new _ _, Nat.le_refl _, Nat.zero_le _, by simp, by simp⟩⟩
theorem own_empty_ne {X : World} {base E size g B : Nat} {cs : Array Value} {t : TypeId} {fr : Nat × Nat} (h : X.ownsRow base E size (.slice (some ⟨g, 0, none⟩) 0 0) 0 []) (hb : X.heap[B]? = some (.cells cs t fr)) (hs : cs.size ≠ 0) : ¬ (Value.slice (some ⟨g, 0, none⟩) 0 0).ownBlock = some B := by
  intro e
  cases e
  rcases h.2 with ⟨e, _⟩ | ⟨g', cap, cur, e, _, hc, _, _, hcs, _⟩
  · cases e
  · cases e
    rw [hb] at hc
    cases hc
    simp at hcs
    exact hs (by simp [hcs])
theorem own_low {X : World} {base E size n : Nat} {v : Value} {xs : List Value} (h : X.ownsRow base E size v n xs) {q : Nat} (e : v.ownBlock = some q) : base ≤ q := by
  rcases h.2 with ⟨rfl, _⟩ | ⟨g, cap, cur, rfl, hg, _⟩
  · cases e
  · cases e; exact hg
theorem own_cast {X : World} {base E size n n' : Nat} {v : Value} {xs xs' : List Value} (h : X.ownsRow base E size v n xs) (hn : n = n') (hx : xs = xs') : X.ownsRow base E size v n' xs' := by subst hn hx; exact h
theorem flatC_append (a b : List Rc) : flatC (a ++ b) = flatC a ++ flatC b := by simp [flatC]

theorem own_slice {X : World} {base E size n : Nat} {v : Value} {xs : List Value} (h : X.ownsRow base E size v (n + 1) xs) : ∃ a c, v = .slice a (n + 1) c := by
  obtain ⟨g, cap, rfl, _⟩ := h.form (by omega)
  exact ⟨_, _, rfl⟩
theorem more_person {W : World} {p : Pers} {r : Rc} {base cc : Nat} {rv v2 : Value} {ca : Option Addr} (h : PersIn W (.agg #[.int .i64 p.lo, .int .i64 p.hi, rv, .slice ca p.nc cc]) p) (ho : W.ownsRow base 59 3 v2 (p.nc + 1) (flatC (rcTo p.C p.nc ++ [r]))) :
    ∃ x : Pers, Hid (x.MoreOf p) ∧ Hid (PersIn W (.agg #[.int .i64 p.lo, .int .i64 p.hi, rv, v2]) x) := by
  obtain ⟨rv', cv', e, h1, h2⟩ := h
  simp only [Value.agg.injEq, Array.mk.injEq, List.cons.injEq, and_true, true_and] at e
  obtain ⟨rfl, rfl⟩ := e
  have hl : (rcTo p.C p.nc ++ [r]).length = p.nc + 1 := by rw [List.length_append, rcTo_length]; rfl
  have hc : CR W base v2 (rcTo p.C p.nc ++ [r]) := by unfold CR; rw [hl]; exact ho
  have hin := hc.in
  rw [hl] at hin
  refine ⟨⟨p.lo, p.hi, p.nr, p.R, p.nc + 1, fun j => (rcTo p.C p.nc ++ [r]).getD j ⟨0, 0, 0⟩⟩, ⟨rfl, rfl, rfl, rfl, rfl, fun j hj => ?_⟩, ⟨rv, v2, rfl, h1, hin⟩⟩
  show (rcTo p.C p.nc ++ [r]).getD j ⟨0, 0, 0⟩ = p.C j
  rw [List.getD_eq_getElem?_getD, List.getElem?_append_left (by rw [rcTo_length]; exact hj)]
  simp [rcTo, hj]
theorem MB.cells {w : World} {a0 b0 c0 d0 a b c d : Value} {t0 t : TypeId} {o1 : Obj} {W : World} (h : MB w (.cells #[a0, b0, c0, d0] t0 (0, 0)) o1 (.cells #[a, b, c, d] t (0, 0)) W) :
    W.cell? ⟨w.heap.size, 0, none⟩ = some a0 ∧ W.cell? ⟨w.heap.size, 1, none⟩ = some b0 ∧ W.cell? ⟨w.heap.size, 2, none⟩ = some c0 ∧ W.cell? ⟨w.heap.size, 3, none⟩ = some d0 ∧
    W.cell? ⟨w.heap.size + 1 + 1, 0, none⟩ = some a ∧ W.cell? ⟨w.heap.size + 1 + 1, 1, none⟩ = some b ∧ W.cell? ⟨w.heap.size + 1 + 1, 2, none⟩ = some c ∧ W.cell? ⟨w.heap.size + 1 + 1, 3, none⟩ = some d :=
  ⟨cell_of_row _ _ 0 _ _ _ h.1, cell_of_row _ _ 1 _ _ _ h.1, cell_of_row _ _ 2 _ _ _ h.1, cell_of_row _ _ 3 _ _ _ h.1, cell_of_row _ _ 0 _ _ _ h.2.2.1, cell_of_row _ _ 1 _ _ _ h.2.2.1, cell_of_row _ _ 2 _ _ _ h.2.2.1, cell_of_row _ _ 3 _ _ _ h.2.2.1⟩
theorem MB.below {w : World} {o0 o1 o2 : Obj} {W W' : World} (h : MB w o0 o1 o2 W) (hb : Below W.heap.size W W') : MB w o0 o1 o2 W' := h.fr (Fr.below hb (fun _ => False)) (fun _ (e : False) => e.elim)
theorem asc_len {nc : Nat} {ks : List Nat} (ha : Asc nc 0 ks) : ks.length ≤ nc := by
  rw [asc_iff] at ha
  have hnd : ks.Nodup := ha.1.imp (fun h => Nat.ne_of_lt h)
  have := List.Nodup.length_le_of_subset hnd (l₂ := List.range nc) (fun k hk => by simpa using (ha.2 k hk).2)
  simpa using this
theorem leave_le {p : Pers} (h : p.fault = 0) : p.leave.length ≤ 8 := by
  obtain ⟨ks, e, ha, _⟩ := leave_min h
  obtain ⟨_, n8, _⟩ := Pers.ok_facts h
  rw [e, castL_length]
  have := asc_len ha
  omega
theorem bErr_of {p : Pers} (h : p.fault = 0) : p.bErr = if p.born = [] then 9 else 0 := by
  rw [p.bErr_eq, h]; simp

attribute [local go_sem ↓] Go.wp_at_zero Go.wp_at_succ
set_option maxRecDepth 100000 in
set_option maxHeartbeats 8000000 in
theorem ageMore_walk (v : Value) (p : Pers) (r : Rc) (w : World) (h : PersIn w v p) (hreach : p.nc * 24 ≤ 140737488351232) :
    Calls Try.prog 6 #[v, .agg #[.int .i64 r.day, .int .i64 r.rule, .int .i64 r.num]] w fun e w' => e = .returned (.bool true) ∧ Below w.heap.size w w' := by
  have HP := Lib.hid h
  obtain ⟨rv, cv, rfl, h1, h2⟩ := h
  obtain ⟨ra, rc, rfl⟩ := h1.slice
  obtain ⟨ca, cc, rfl⟩ := h2.slice
  have HC := Lib.hid h2; clear h1 h2
  obtain ⟨i0, hi0, hz0, hz1, hz2⟩ := info_parts Try.infoRec
  have HSRC : Hid (∀ X : World, Below w.heap.size w X → Src X ca 3 p.nc (flatC (rcTo p.C p.nc))) := fun X hX => (HC.out.below hX).src
  obtain ⟨_, hb3, q0, q1, q2⟩ := alloc3 w (.cells #[.int .i64 p.lo, .int .i64 p.hi, .slice ra p.nr rc, .slice ca p.nc cc] 36) (.cells #[.int .i64 r.day, .int .i64 r.rule, .int .i64 r.num] 59) (.cells #[.int .i64 p.lo, .int .i64 p.hi, .slice ra p.nr rc, .slice ca p.nc cc] 36)
  have HM0 : Hid (MB w (.cells #[.int .i64 p.lo, .int .i64 p.hi, .slice ra p.nr rc, .slice ca p.nc cc] 36 (0, 0)) (.cells #[.int .i64 r.day, .int .i64 r.rule, .int .i64 r.num] 59 (0, 0)) (.cells #[.int .i64 p.lo, .int .i64 p.hi, .slice ra p.nr rc, .slice ca p.nc cc] 36 (0, 0)) (((w.alloc (.cells #[.int .i64 p.lo, .int .i64 p.hi, .slice ra p.nr rc, .slice ca p.nc cc] 36)).alloc (.cells #[.int .i64 r.day, .int .i64 r.rule, .int .i64 r.num] 59)).alloc (.cells #[.int .i64 p.lo, .int .i64 p.hi, .slice ra p.nr rc, .slice ca p.nc cc] 36))) := ⟨q0, q1, q2, hb3⟩
  clear q0 q1 q2 hb3
  go_enter Try.func6, Try.ntmps6
  go_upto_region 2 with fail
  go_cut [] (fun wx => ∃ v2 : Value, MB w (.cells #[.int .i64 p.lo, .int .i64 p.hi, .slice ra p.nr rc, .slice ca p.nc cc] 36 (0, 0)) (.cells #[.int .i64 r.day, .int .i64 r.rule, .int .i64 r.num] 59 (0, 0)) (.cells #[.int .i64 p.lo, .int .i64 p.hi, .slice ra p.nr rc, v2] 36 (0, 0)) wx ∧ wx.ownsRow (w.heap.size + 3) 59 3 v2 (p.nc + 1) (flatC (rcTo p.C p.nc ++ [r])))
  case first =>
    have HM := Lib.hid (HM0.out.fr (Fr.below ((Below.refl _ _).drew) (fun _ => False)) (fun _ (e : False) => e.elim))
    clear HM0
    refine wp_region_held_drew (S := fun X => X.heap[w.heap.size]? = some (.cells #[.int .i64 p.lo, .int .i64 p.hi, .slice ra p.nr rc, .slice ca p.nc cc] 36 (0, 0)) ∧ X.heap[w.heap.size + 1]? = some (.cells #[.int .i64 r.day, .int .i64 r.rule, .int .i64 r.num] 59 (0, 0))) (by kernel_rfl) ⟨HM.out.1, HM.out.2.1⟩ (fun hS => ?_)
    generalize World.drew (((w.alloc (.cells #[.int .i64 p.lo, .int .i64 p.hi, .slice ra p.nr rc, .slice ca p.nc cc] 36)).alloc (.cells #[.int .i64 r.day, .int .i64 r.rule, .int .i64 r.num] 59)).alloc (.cells #[.int .i64 p.lo, .int .i64 p.hi, .slice ra p.nr rc, .slice ca p.nc cc] 36)) = X at *
    refine wpAnyH_take (i := 1) (oi := ⟨some 16, Op.fieldAddr 36 (Operand.tmp 2) 2, _, _, _, _⟩) (v := .pointer (some ⟨w.heap.size, 3, none⟩)) rfl (by kernel_rfl) (by kernel_rfl) (by kernel_rfl) (fun _ _ _ h => h) (Or.inl ⟨by rfl, ?_⟩) hS ?_
    · intro W' hSw; have s0 := cell_of_row _ _ 3 _ _ _ hSw.1; have s1 := cell_of_row _ _ 0 _ _ _ hSw.2; have s2 := cell_of_row _ _ 1 _ _ _ hSw.2; have s3 := cell_of_row _ _ 2 _ _ _ hSw.2; go_simp
    try simp only [Act.put, List.setIfInBounds_toArray, List.set_cons_zero, List.set_cons_succ]
    refine wpAnyH_take (i := 2) (oi := ⟨some 17, Op.load 34 (Operand.tmp 16), _, _, _, _⟩) (v := .slice ca p.nc cc) rfl (by kernel_rfl) (by kernel_rfl) (by kernel_rfl) (fun _ _ _ h => h) (Or.inl ⟨by rfl, ?_⟩) hS ?_
    · intro W' hSw; have s0 := cell_of_row _ _ 3 _ _ _ hSw.1; have s1 := cell_of_row _ _ 0 _ _ _ hSw.2; have s2 := cell_of_row _ _ 1 _ _ _ hSw.2; have s3 := cell_of_row _ _ 2 _ _ _ hSw.2; go_simp
    try simp only [Act.put, List.setIfInBounds_toArray, List.set_cons_zero, List.set_cons_succ]
    refine wpAnyH_take (i := 4) (oi := ⟨some 19, Op.load 59 (Operand.tmp 3), _, _, _, _⟩) (v := .agg #[.int .i64 r.day, .int .i64 r.rule, .int .i64 r.num]) rfl (by kernel_rfl) (by kernel_rfl) (by kernel_rfl) (fun _ _ _ h => h) (Or.inl ⟨by rfl, ?_⟩) hS ?_
    · intro W' hSw; have s0 := cell_of_row _ _ 3 _ _ _ hSw.1; have s1 := cell_of_row _ _ 0 _ _ _ hSw.2; have s2 := cell_of_row _ _ 1 _ _ _ hSw.2; have s3 := cell_of_row _ _ 2 _ _ _ hSw.2; go_simp
    try simp only [Act.put, List.setIfInBounds_toArray, List.set_cons_zero, List.set_cons_succ]
    refine wpAnyH_ready (rs := [0, 5]) (by kernel_rfl) (by simp) ?_
    refine AllReadyH.cons (o := ⟨some 15, Op.buildSlice 34 0 #[], _, _, _, _⟩) rfl (fun K hK => ?_) ?_
    ·
      go_simp
      have HF0 : Hid (Fr (fun _ => False) X (X.alloc (.cells #[] 59))) := Fr.below (below_alloc X (.cells #[] 59)) _
      have HM0 := Lib.hid (HM.out.fr HF0.out (fun _ (e : False) => e.elim))
      have HE0 := Lib.hid (own_empty X 59 3 (w.heap.size + 3) HM.out.low)
      refine hK.out _ _ (⟨HM0.out.1, HM0.out.2.1⟩) (fun hS => ?_)
      clear hK K
      try simp only [Act.put, List.setIfInBounds_toArray, List.set_cons_zero, List.set_cons_succ]
      clear HF0
      generalize X.heap.size = BE0 at *
      generalize X.alloc (.cells #[] 59) = X0 at *
      refine wpAnyH_ready (rs := [3, 5]) (by kernel_rfl) (by simp) ?_
      refine AllReadyH.cons (o := ⟨some 18, Op.call { callee := Callee.builtin Builtin.append, args := #[Operand.tmp 15, Operand.tmp 17], argTypes := #[34, 34] }, _, _, _, _⟩) rfl (fun K hK => ?_) ?_
      ·
        refine step_append_src X0 (by rfl) (.tmp 15) (.tmp 17) 34 (by rfl) (w.heap.size + 3) 59 i0 (.agg #[.int .i64 0, .int .i64 0, .int .i64 0]) 3 24 Try.underlying34 hi0 hz0 hz1 hz2 rfl (by decide) (.slice (some ⟨BE0, 0, none⟩) 0 0) 0 [] (by rfl) HE0.out ca p.nc cc (flatC (rcTo p.C p.nc)) (by rfl) (HSRC.out X0 HM0.out.2.2.2) (flatC_one _) (by unfold maxLen; omega) (by omega) HM0.out.low3 ?_
        intro v1 X1 hown hgrow hat
        have hown' := own_cast hown (Nat.zero_add _) (List.nil_append _)
        have HA1 := Lib.hid hown'
        have HF1 := Lib.hid (Fr.grown hgrow)
        have HM1 := Lib.hid (HM0.out.fr HF1.out (fun q e => own_low HE0.out e))
        clear hown hown' hgrow hat HF1
        refine hK.out _ _ (⟨HM1.out.1, HM1.out.2.1⟩) (fun hS => ?_)
        clear hK K
        try simp only [Act.put, List.setIfInBounds_toArray, List.set_cons_zero, List.set_cons_succ]
        refine wpAnyH_ready (rs := [5]) (by kernel_rfl) (by simp) ?_
        refine AllReadyH.cons (o := ⟨some 20, Op.buildSlice 34 1 #[(0, Operand.tmp 19)], _, _, _, _⟩) rfl (fun K hK => ?_) ?_
        ·
          go_simp
          have HF2 : Hid (Fr (fun _ => False) X1 (X1.alloc (.cells #[.int .i64 r.day, .int .i64 r.rule, .int .i64 r.num] 59))) := Fr.below (below_alloc X1 (.cells #[.int .i64 r.day, .int .i64 r.rule, .int .i64 r.num] 59)) _
          have HM2 := Lib.hid (HM1.out.fr HF2.out (fun _ (e : False) => e.elim))
          have HA2 := Lib.hid (own_fr HA1.out HF2.out (fun _ _ _ _ _ e => e))
          have HN2 : Hid ((X1.alloc (.cells #[.int .i64 r.day, .int .i64 r.rule, .int .i64 r.num] 59)).heap[X1.heap.size]? = some (.cells #[.int .i64 r.day, .int .i64 r.rule, .int .i64 r.num] 59 (0, 0))) := heap_alloc_new X1 _
          refine hK.out _ _ (⟨HM2.out.1, HM2.out.2.1⟩) (fun hS => ?_)
          clear hK K
          try simp only [Act.put, List.setIfInBounds_toArray, List.set_cons_zero, List.set_cons_succ]
          clear HF2
          generalize X1.heap.size = BN2 at *
          generalize X1.alloc (.cells #[.int .i64 r.day, .int .i64 r.rule, .int .i64 r.num] 59) = X2 at *
          refine wpAnyH_ready (rs := [6]) (by kernel_rfl) (by simp) ?_
          refine AllReadyH.cons (o := ⟨some 21, Op.call { callee := Callee.builtin Builtin.append, args := #[Operand.tmp 18, Operand.tmp 20], argTypes := #[34, 34] }, _, _, _, _⟩) rfl (fun K hK => ?_) ?_
          ·
            refine step_append_src X2 (by rfl) (.tmp 18) (.tmp 20) 34 (by rfl) (w.heap.size + 3) 59 i0 (.agg #[.int .i64 0, .int .i64 0, .int .i64 0]) 3 24 Try.underlying34 hi0 hz0 hz1 hz2 rfl (by decide) v1 p.nc (flatC (rcTo p.C p.nc)) (by rfl) HA2.out (some ⟨BN2, 0, none⟩) 1 1 (flatC [r]) (by rfl) ⟨rfl, fun j u hu => ⟨_, rfl, World.news_of_block HN2.out j u hu⟩⟩ (flatC_one _) (by unfold maxLen; omega) (by omega) HM2.out.low3 ?_
            intro v3 X3 hown hgrow hat
            obtain ⟨a3, c3, rfl⟩ := own_slice hown
            have HA3 := Lib.hid hown
            have HM3 := Lib.hid (HM2.out.fr (Fr.grown hgrow) (fun q e => own_low HA2.out e))
            clear hown hgrow hat
            refine hK.out _ _ (⟨HM3.out.1, HM3.out.2.1⟩) (fun hS => ?_)
            clear hK K
            try simp only [Act.put, List.setIfInBounds_toArray, List.set_cons_zero, List.set_cons_succ]
            refine wpAnyH_take (i := 7) (oi := ⟨some 22, Op.fieldAddr 36 (Operand.tmp 5) 2, _, _, _, _⟩) (v := .pointer (some ⟨w.heap.size + 1 + 1, 3, none⟩)) rfl (by kernel_rfl) (by kernel_rfl) (by kernel_rfl) (fun _ _ _ h => h) (Or.inl ⟨by rfl, ?_⟩) hS ?_
            · intro W' hSw; have s0 := cell_of_row _ _ 3 _ _ _ hSw.1; have s1 := cell_of_row _ _ 0 _ _ _ hSw.2; have s2 := cell_of_row _ _ 1 _ _ _ hSw.2; have s3 := cell_of_row _ _ 2 _ _ _ hSw.2; go_simp
            try simp only [Act.put, List.setIfInBounds_toArray, List.set_cons_zero, List.set_cons_succ]
            refine wpAnyH_ready (rs := [8]) (by kernel_rfl) (by simp) ?_
            refine AllReadyH.cons (o := ⟨none, Op.store 34 (Operand.tmp 22) (Operand.tmp 21), _, _, _, _⟩) rfl (fun K hK => ?_) ?_
            ·
              have e4 := HM3.out.c23
              have e5 := HM3.out.f23
              go_simp
              have HM4 := Lib.hid (HM3.out.set (.slice a3 (p.nc + 1) c3))
              have HA4 := Lib.hid (own_fr HA3.out (Fr.set X3 (w.heap.size + 1 + 1) 3 (.slice a3 (p.nc + 1) c3)) (fun g _ _ hg _ e => by omega))
              refine hK.out _ _ (⟨HM4.out.1, HM4.out.2.1⟩) (fun hS => ?_)
              clear hK K
              try simp only [Act.put, List.setIfInBounds_toArray, List.set_cons_zero, List.set_cons_succ]
              clear e4 e5
              refine wpAnyH_done (by kernel_rfl) ?_ _
              go_wp2_with fail
              go_meet
              exact ⟨(.slice a3 (p.nc + 1) c3), HM4.out, by have := HA4.out; rw [flatC_append]; exact this⟩
            exact AllReadyH.nil
          exact AllReadyH.nil
        exact AllReadyH.nil
      refine AllReadyH.cons (o := ⟨some 20, Op.buildSlice 34 1 #[(0, Operand.tmp 19)], _, _, _, _⟩) rfl (fun K hK => ?_) ?_
      ·
        go_simp
        have HF5 : Hid (Fr (fun _ => False) X0 (X0.alloc (.cells #[.int .i64 r.day, .int .i64 r.rule, .int .i64 r.num] 59))) := Fr.below (below_alloc X0 (.cells #[.int .i64 r.day, .int .i64 r.rule, .int .i64 r.num] 59)) _
        have HM5 := Lib.hid (HM0.out.fr HF5.out (fun _ (e : False) => e.elim))
        have HE5 := Lib.hid (own_fr HE0.out HF5.out (fun _ _ _ _ _ e => e))
        have HN5 : Hid ((X0.alloc (.cells #[.int .i64 r.day, .int .i64 r.rule, .int .i64 r.num] 59)).heap[X0.heap.size]? = some (.cells #[.int .i64 r.day, .int .i64 r.rule, .int .i64 r.num] 59 (0, 0))) := heap_alloc_new X0 _
        refine hK.out _ _ (⟨HM5.out.1, HM5.out.2.1⟩) (fun hS => ?_)
        clear hK K
        try simp only [Act.put, List.setIfInBounds_toArray, List.set_cons_zero, List.set_cons_succ]
        clear HF5
        generalize X0.heap.size = BN5 at *
        generalize X0.alloc (.cells #[.int .i64 r.day, .int .i64 r.rule, .int .i64 r.num] 59) = X5 at *
        refine wpAnyH_ready (rs := [3]) (by kernel_rfl) (by simp) ?_
        refine AllReadyH.cons (o := ⟨some 18, Op.call { callee := Callee.builtin Builtin.append, args := #[Operand.tmp 15, Operand.tmp 17], argTypes := #[34, 34] }, _, _, _, _⟩) rfl (fun K hK => ?_) ?_
        ·
          refine step_append_src X5 (by rfl) (.tmp 15) (.tmp 17) 34 (by rfl) (w.heap.size + 3) 59 i0 (.agg #[.int .i64 0, .int .i64 0, .int .i64 0]) 3 24 Try.underlying34 hi0 hz0 hz1 hz2 rfl (by decide) (.slice (some ⟨BE0, 0, none⟩) 0 0) 0 [] (by rfl) HE5.out ca p.nc cc (flatC (rcTo p.C p.nc)) (by rfl) (HSRC.out X5 HM5.out.2.2.2) (flatC_one _) (by unfold maxLen; omega) (by omega) HM5.out.low3 ?_
          intro v6 X6 hown hgrow hat
          have hown' := own_cast hown (Nat.zero_add _) (List.nil_append _)
          have HA6 := Lib.hid hown'
          have HF6 := Lib.hid (Fr.grown hgrow)
          have HM6 := Lib.hid (HM5.out.fr HF6.out (fun q e => own_low HE5.out e))
          have HN6 : Hid (X6.heap[BN5]? = some (.cells #[.int .i64 r.day, .int .i64 r.rule, .int .i64 r.num] 59 (0, 0))) := (HF6.out.block _ (Array.getElem?_eq_some_iff.1 HN5.out).1 (own_empty_ne HE5.out HN5.out (by simp))).trans HN5.out
          clear hown hown' hgrow hat HF6
          refine hK.out _ _ (⟨HM6.out.1, HM6.out.2.1⟩) (fun hS => ?_)
          clear hK K
          try simp only [Act.put, List.setIfInBounds_toArray, List.set_cons_zero, List.set_cons_succ]
          refine wpAnyH_ready (rs := [6]) (by kernel_rfl) (by simp) ?_
          refine AllReadyH.cons (o := ⟨some 21, Op.call { callee := Callee.builtin Builtin.append, args := #[Operand.tmp 18, Operand.tmp 20], argTypes := #[34, 34] }, _, _, _, _⟩) rfl (fun K hK => ?_) ?_
          ·
            refine step_append_src X6 (by rfl) (.tmp 18) (.tmp 20) 34 (by rfl) (w.heap.size + 3) 59 i0 (.agg #[.int .i64 0, .int .i64 0, .int .i64 0]) 3 24 Try.underlying34 hi0 hz0 hz1 hz2 rfl (by decide) v6 p.nc (flatC (rcTo p.C p.nc)) (by rfl) HA6.out (some ⟨BN5, 0, none⟩) 1 1 (flatC [r]) (by rfl) ⟨rfl, fun j u hu => ⟨_, rfl, World.news_of_block HN6.out j u hu⟩⟩ (flatC_one _) (by unfold maxLen; omega) (by omega) HM6.out.low3 ?_
            intro v7 X7 hown hgrow hat
            obtain ⟨a7, c7, rfl⟩ := own_slice hown
            have HA7 := Lib.hid hown
            have HM7 := Lib.hid (HM6.out.fr (Fr.grown hgrow) (fun q e => own_low HA6.out e))
            clear hown hgrow hat
            refine hK.out _ _ (⟨HM7.out.1, HM7.out.2.1⟩) (fun hS => ?_)
            clear hK K
            try simp only [Act.put, List.setIfInBounds_toArray, List.set_cons_zero, List.set_cons_succ]
            refine wpAnyH_take (i := 7) (oi := ⟨some 22, Op.fieldAddr 36 (Operand.tmp 5) 2, _, _, _, _⟩) (v := .pointer (some ⟨w.heap.size + 1 + 1, 3, none⟩)) rfl (by kernel_rfl) (by kernel_rfl) (by kernel_rfl) (fun _ _ _ h => h) (Or.inl ⟨by rfl, ?_⟩) hS ?_
            · intro W' hSw; have s0 := cell_of_row _ _ 3 _ _ _ hSw.1; have s1 := cell_of_row _ _ 0 _ _ _ hSw.2; have s2 := cell_of_row _ _ 1 _ _ _ hSw.2; have s3 := cell_of_row _ _ 2 _ _ _ hSw.2; go_simp
            try simp only [Act.put, List.setIfInBounds_toArray, List.set_cons_zero, List.set_cons_succ]
            refine wpAnyH_ready (rs := [8]) (by kernel_rfl) (by simp) ?_
            refine AllReadyH.cons (o := ⟨none, Op.store 34 (Operand.tmp 22) (Operand.tmp 21), _, _, _, _⟩) rfl (fun K hK => ?_) ?_
            ·
              have e4 := HM7.out.c23
              have e5 := HM7.out.f23
              go_simp
              have HM8 := Lib.hid (HM7.out.set (.slice a7 (p.nc + 1) c7))
              have HA8 := Lib.hid (own_fr HA7.out (Fr.set X7 (w.heap.size + 1 + 1) 3 (.slice a7 (p.nc + 1) c7)) (fun g _ _ hg _ e => by omega))
              refine hK.out _ _ (⟨HM8.out.1, HM8.out.2.1⟩) (fun hS => ?_)
              clear hK K
              try simp only [Act.put, List.setIfInBounds_toArray, List.set_cons_zero, List.set_cons_succ]
              clear e4 e5
              refine wpAnyH_done (by kernel_rfl) ?_ _
              go_wp2_with fail
              go_meet
              exact ⟨(.slice a7 (p.nc + 1) c7), HM8.out, by have := HA8.out; rw [flatC_append]; exact this⟩
            exact AllReadyH.nil
          exact AllReadyH.nil
        exact AllReadyH.nil
      exact AllReadyH.nil
    refine AllReadyH.cons (o := ⟨some 20, Op.buildSlice 34 1 #[(0, Operand.tmp 19)], _, _, _, _⟩) rfl (fun K hK => ?_) ?_
    ·
      go_simp
      have HF9 : Hid (Fr (fun _ => False) X (X.alloc (.cells #[.int .i64 r.day, .int .i64 r.rule, .int .i64 r.num] 59))) := Fr.below (below_alloc X (.cells #[.int .i64 r.day, .int .i64 r.rule, .int .i64 r.num] 59)) _
      have HM9 := Lib.hid (HM.out.fr HF9.out (fun _ (e : False) => e.elim))
      have HN9 : Hid ((X.alloc (.cells #[.int .i64 r.day, .int .i64 r.rule, .int .i64 r.num] 59)).heap[X.heap.size]? = some (.cells #[.int .i64 r.day, .int .i64 r.rule, .int .i64 r.num] 59 (0, 0))) := heap_alloc_new X _
      refine hK.out _ _ (⟨HM9.out.1, HM9.out.2.1⟩) (fun hS => ?_)
      clear hK K
      try simp only [Act.put, List.setIfInBounds_toArray, List.set_cons_zero, List.set_cons_succ]
      clear HF9
      generalize X.heap.size = BN9 at *
      generalize X.alloc (.cells #[.int .i64 r.day, .int .i64 r.rule, .int .i64 r.num] 59) = X9 at *
      refine wpAnyH_ready (rs := [0]) (by kernel_rfl) (by simp) ?_
      refine AllReadyH.cons (o := ⟨some 15, Op.buildSlice 34 0 #[], _, _, _, _⟩) rfl (fun K hK => ?_) ?_
      ·
        go_simp
        have HF10 : Hid (Fr (fun _ => False) X9 (X9.alloc (.cells #[] 59))) := Fr.below (below_alloc X9 (.cells #[] 59)) _
        have HM10 := Lib.hid (HM9.out.fr HF10.out (fun _ (e : False) => e.elim))
        have HE10 := Lib.hid (own_empty X9 59 3 (w.heap.size + 3) HM9.out.low)
        have HN10 : Hid ((X9.alloc (.cells #[] 59)).heap[BN9]? = some (.cells #[.int .i64 r.day, .int .i64 r.rule, .int .i64 r.num] 59 (0, 0))) := (HF10.out.block _ (Array.getElem?_eq_some_iff.1 HN9.out).1 (fun e => e)).trans HN9.out
        refine hK.out _ _ (⟨HM10.out.1, HM10.out.2.1⟩) (fun hS => ?_)
        clear hK K
        try simp only [Act.put, List.setIfInBounds_toArray, List.set_cons_zero, List.set_cons_succ]
        clear HF10
        generalize X9.heap.size = BE10 at *
        generalize X9.alloc (.cells #[] 59) = X10 at *
        refine wpAnyH_ready (rs := [3]) (by kernel_rfl) (by simp) ?_
        refine AllReadyH.cons (o := ⟨some 18, Op.call { callee := Callee.builtin Builtin.append, args := #[Operand.tmp 15, Operand.tmp 17], argTypes := #[34, 34] }, _, _, _, _⟩) rfl (fun K hK => ?_) ?_
        ·
          refine step_append_src X10 (by rfl) (.tmp 15) (.tmp 17) 34 (by rfl) (w.heap.size + 3) 59 i0 (.agg #[.int .i64 0, .int .i64 0, .int .i64 0]) 3 24 Try.underlying34 hi0 hz0 hz1 hz2 rfl (by decide) (.slice (some ⟨BE10, 0, none⟩) 0 0) 0 [] (by rfl) HE10.out ca p.nc cc (flatC (rcTo p.C p.nc)) (by rfl) (HSRC.out X10 HM10.out.2.2.2) (flatC_one _) (by unfold maxLen; omega) (by omega) HM10.out.low3 ?_
          intro v11 X11 hown hgrow hat
          have hown' := own_cast hown (Nat.zero_add _) (List.nil_append _)
          have HA11 := Lib.hid hown'
          have HF11 := Lib.hid (Fr.grown hgrow)
          have HM11 := Lib.hid (HM10.out.fr HF11.out (fun q e => own_low HE10.out e))
          have HN11 : Hid (X11.heap[BN9]? = some (.cells #[.int .i64 r.day, .int .i64 r.rule, .int .i64 r.num] 59 (0, 0))) := (HF11.out.block _ (Array.getElem?_eq_some_iff.1 HN10.out).1 (own_empty_ne HE10.out HN10.out (by simp))).trans HN10.out
          clear hown hown' hgrow hat HF11
          refine hK.out _ _ (⟨HM11.out.1, HM11.out.2.1⟩) (fun hS => ?_)
          clear hK K
          try simp only [Act.put, List.setIfInBounds_toArray, List.set_cons_zero, List.set_cons_succ]
          refine wpAnyH_ready (rs := [6]) (by kernel_rfl) (by simp) ?_
          refine AllReadyH.cons (o := ⟨some 21, Op.call { callee := Callee.builtin Builtin.append, args := #[Operand.tmp 18, Operand.tmp 20], argTypes := #[34, 34] }, _, _, _, _⟩) rfl (fun K hK => ?_) ?_
          ·
            refine step_append_src X11 (by rfl) (.tmp 18) (.tmp 20) 34 (by rfl) (w.heap.size + 3) 59 i0 (.agg #[.int .i64 0, .int .i64 0, .int .i64 0]) 3 24 Try.underlying34 hi0 hz0 hz1 hz2 rfl (by decide) v11 p.nc (flatC (rcTo p.C p.nc)) (by rfl) HA11.out (some ⟨BN9, 0, none⟩) 1 1 (flatC [r]) (by rfl) ⟨rfl, fun j u hu => ⟨_, rfl, World.news_of_block HN11.out j u hu⟩⟩ (flatC_one _) (by unfold maxLen; omega) (by omega) HM11.out.low3 ?_
            intro v12 X12 hown hgrow hat
            obtain ⟨a12, c12, rfl⟩ := own_slice hown
            have HA12 := Lib.hid hown
            have HM12 := Lib.hid (HM11.out.fr (Fr.grown hgrow) (fun q e => own_low HA11.out e))
            clear hown hgrow hat
            refine hK.out _ _ (⟨HM12.out.1, HM12.out.2.1⟩) (fun hS => ?_)
            clear hK K
            try simp only [Act.put, List.setIfInBounds_toArray, List.set_cons_zero, List.set_cons_succ]
            refine wpAnyH_take (i := 7) (oi := ⟨some 22, Op.fieldAddr 36 (Operand.tmp 5) 2, _, _, _, _⟩) (v := .pointer (some ⟨w.heap.size + 1 + 1, 3, none⟩)) rfl (by kernel_rfl) (by kernel_rfl) (by kernel_rfl) (fun _ _ _ h => h) (Or.inl ⟨by rfl, ?_⟩) hS ?_
            · intro W' hSw; have s0 := cell_of_row _ _ 3 _ _ _ hSw.1; have s1 := cell_of_row _ _ 0 _ _ _ hSw.2; have s2 := cell_of_row _ _ 1 _ _ _ hSw.2; have s3 := cell_of_row _ _ 2 _ _ _ hSw.2; go_simp
            try simp only [Act.put, List.setIfInBounds_toArray, List.set_cons_zero, List.set_cons_succ]
            refine wpAnyH_ready (rs := [8]) (by kernel_rfl) (by simp) ?_
            refine AllReadyH.cons (o := ⟨none, Op.store 34 (Operand.tmp 22) (Operand.tmp 21), _, _, _, _⟩) rfl (fun K hK => ?_) ?_
            ·
              have e4 := HM12.out.c23
              have e5 := HM12.out.f23
              go_simp
              have HM13 := Lib.hid (HM12.out.set (.slice a12 (p.nc + 1) c12))
              have HA13 := Lib.hid (own_fr HA12.out (Fr.set X12 (w.heap.size + 1 + 1) 3 (.slice a12 (p.nc + 1) c12)) (fun g _ _ hg _ e => by omega))
              refine hK.out _ _ (⟨HM13.out.1, HM13.out.2.1⟩) (fun hS => ?_)
              clear hK K
              try simp only [Act.put, List.setIfInBounds_toArray, List.set_cons_zero, List.set_cons_succ]
              clear e4 e5
              refine wpAnyH_done (by kernel_rfl) ?_ _
              go_wp2_with fail
              go_meet
              exact ⟨(.slice a12 (p.nc + 1) c12), HM13.out, by have := HA13.out; rw [flatC_append]; exact this⟩
            exact AllReadyH.nil
          exact AllReadyH.nil
        exact AllReadyH.nil
      exact AllReadyH.nil
    exact AllReadyH.nil
  case rest =>
    obtain ⟨v2, hm, hown⟩ := hcut
    clear HM0 HSRC hi0 hz0 hz1 hz2
    obtain ⟨xa, xc, rfl⟩ := own_slice hown
    obtain ⟨x, HMO, HPX⟩ : ∃ x : Pers, Hid (x.MoreOf p) ∧ Hid (PersIn wc (.agg #[.int .i64 p.lo, .int .i64 p.hi, .slice ra p.nr rc, .slice xa (p.nc + 1) xc]) x) := more_person (HP.out.below hm.2.2.2) hown
    have hb0 := Below.refl wc.heap.size wc
    have HM := Lib.hid hm; have HPC := Lib.hid (HP.out.below hm.2.2.2)
    have HBW := Lib.hid hm.2.2.2
    have hsz := hm.low
    obtain ⟨d0, d1, d2, d3, e0, e1, e2, e3⟩ := hm.cells
    clear hm hown
    have HAW := Lib.hid awake_any
    cases hp : (p.fault == 0)
    · go_wp2_with (first | (go_at_call 36; refine (ready_any _ p _ (HP.out.below HBW.out)).mono ?_; rintro _ w1 ⟨rfl, hb1⟩) | (go_at_call 20; refine (HAW.out _).mono ?_; rintro _ w3 ⟨rfl, hb3⟩))
      go_ret
      exact ⟨rfl, below_step (below_step HBW.out hb1) hb3⟩
    go_wp2_with fail
    refine (ready_any _ p _ (HP.out.below HBW.out)).mono ?_
    rintro _ w1 ⟨rfl, hb1⟩
    have HM1 : Hid (MB w (.cells #[.int .i64 p.lo, .int .i64 p.hi, .slice ra p.nr rc, .slice ca p.nc cc] 36 (0, 0)) (.cells #[.int .i64 r.day, .int .i64 r.rule, .int .i64 r.num] 59 (0, 0)) (.cells #[.int .i64 p.lo, .int .i64 p.hi, .slice ra p.nr rc, .slice xa (p.nc + 1) xc] 36 (0, 0)) w1) := HM.out.below hb1
    have HB1 : Hid (Below wc.heap.size wc w1) := hb1
    clear d0 d1 d2 d3 e0 e1 e2 e3
    obtain ⟨d0, d1, d2, d3, e0, e1, e2, e3⟩ := HM1.out.cells
    clear hb1
    cases hx : (x.fault != 0)
    rotate_left
    · go_wp2_with (first | (go_at_call 28; refine (fault_any _ x _ (HPX.out.below HB1.out)).mono ?_; rintro _ w2 ⟨rfl, hb2⟩) | (go_at_call 20; refine (HAW.out _).mono ?_; rintro _ w3 ⟨rfl, hb3⟩))
      go_ret
      exact ⟨rfl, below_step (below_step (below_step HBW.out HB1.out) hb2) hb3⟩
    go_wp2_with fail
    refine (fault_any _ x _ (HPX.out.below HB1.out)).mono ?_
    rintro _ w2 ⟨rfl, hb2⟩
    have HM2 : Hid (MB w (.cells #[.int .i64 p.lo, .int .i64 p.hi, .slice ra p.nr rc, .slice ca p.nc cc] 36 (0, 0)) (.cells #[.int .i64 r.day, .int .i64 r.rule, .int .i64 r.num] 59 (0, 0)) (.cells #[.int .i64 p.lo, .int .i64 p.hi, .slice ra p.nr rc, .slice xa (p.nc + 1) xc] 36 (0, 0)) w2) := HM1.out.below hb2
    have HB2 : Hid (Below wc.heap.size wc w2) := below_step HB1.out hb2
    clear d0 d1 d2 d3 e0 e1 e2 e3
    obtain ⟨d0, d1, d2, d3, e0, e1, e2, e3⟩ := HM2.out.cells
    have hpf : p.fault = 0 := by simpa using hp
    have hxf : x.fault = 0 := by simpa using hx
    have HPF := Lib.hid hpf; have HXF := Lib.hid hxf
    obtain ⟨pn1, pn2, _⟩ := Pers.ok_facts hpf
    obtain ⟨xn1, xn2, _⟩ := Pers.ok_facts hxf
    clear hb2 hp hpf hxf
    go_wp2_with fail
    refine (person_any _ p _ (HPC.out.below HB2.out) (by omega) (by omega)).mono ?_
    rintro _ w3 ⟨u3, rfl, hu3, hb3⟩
    have HU3 := Lib.hid hu3
    have HM3 : Hid (MB w (.cells #[.int .i64 p.lo, .int .i64 p.hi, .slice ra p.nr rc, .slice ca p.nc cc] 36 (0, 0)) (.cells #[.int .i64 r.day, .int .i64 r.rule, .int .i64 r.num] 59 (0, 0)) (.cells #[.int .i64 p.lo, .int .i64 p.hi, .slice ra p.nr rc, .slice xa (p.nc + 1) xc] 36 (0, 0)) w3) := HM2.out.below hb3
    have HB3 : Hid (Below wc.heap.size wc w3) := below_step HB2.out hb3
    clear d0 d1 d2 d3 e0 e1 e2 e3
    obtain ⟨d0, d1, d2, d3, e0, e1, e2, e3⟩ := HM3.out.cells
    clear hb3 hu3
    go_wp2_with fail
    refine (Births_any _ p _ HU3.out (by omega) (by omega)).mono ?_
    rintro _ w4 ⟨v4, rfl, hr4, hb4⟩
    have HR4 := Lib.hid hr4
    have HM4 : Hid (MB w (.cells #[.int .i64 p.lo, .int .i64 p.hi, .slice ra p.nr rc, .slice ca p.nc cc] 36 (0, 0)) (.cells #[.int .i64 r.day, .int .i64 r.rule, .int .i64 r.num] 59 (0, 0)) (.cells #[.int .i64 p.lo, .int .i64 p.hi, .slice ra p.nr rc, .slice xa (p.nc + 1) xc] 36 (0, 0)) w4) := HM3.out.below hb4
    have HB4 : Hid (Below wc.heap.size wc w4) := below_step HB3.out hb4
    clear d0 d1 d2 d3 e0 e1 e2 e3
    obtain ⟨d0, d1, d2, d3, e0, e1, e2, e3⟩ := HM4.out.cells
    clear hb4 hr4
    go_wp2_with fail
    refine (person_any _ x _ (HPX.out.below HB4.out) (by omega) (by omega)).mono ?_
    rintro _ w5 ⟨u5, rfl, hu5, hb5⟩
    have HU5 := Lib.hid hu5; have HB45 := Lib.hid hb5
    have HM5 : Hid (MB w (.cells #[.int .i64 p.lo, .int .i64 p.hi, .slice ra p.nr rc, .slice ca p.nc cc] 36 (0, 0)) (.cells #[.int .i64 r.day, .int .i64 r.rule, .int .i64 r.num] 59 (0, 0)) (.cells #[.int .i64 p.lo, .int .i64 p.hi, .slice ra p.nr rc, .slice xa (p.nc + 1) xc] 36 (0, 0)) w5) := HM4.out.below hb5
    have HB5 : Hid (Below wc.heap.size wc w5) := below_step HB4.out hb5
    clear d0 d1 d2 d3 e0 e1 e2 e3
    obtain ⟨d0, d1, d2, d3, e0, e1, e2, e3⟩ := HM5.out.cells
    clear hb5 hu5
    go_wp2_with fail
    refine (Births_any _ x _ HU5.out (by omega) (by omega)).mono ?_
    rintro _ w6 ⟨v6, rfl, hr6, hb6⟩
    have HR6 := Lib.hid hr6; have HR46 := Lib.hid (HR4.out.bel ((below_step (show Below w4.heap.size w4 w5 from HB45.out) hb6)))
    have HM6 : Hid (MB w (.cells #[.int .i64 p.lo, .int .i64 p.hi, .slice ra p.nr rc, .slice ca p.nc cc] 36 (0, 0)) (.cells #[.int .i64 r.day, .int .i64 r.rule, .int .i64 r.num] 59 (0, 0)) (.cells #[.int .i64 p.lo, .int .i64 p.hi, .slice ra p.nr rc, .slice xa (p.nc + 1) xc] 36 (0, 0)) w6) := HM5.out.below hb6
    have HB6 : Hid (Below wc.heap.size wc w6) := below_step HB5.out hb6
    clear d0 d1 d2 d3 e0 e1 e2 e3
    obtain ⟨d0, d1, d2, d3, e0, e1, e2, e3⟩ := HM6.out.cells
    clear hb6 hr6
    go_wp2_with fail
    refine (person_any _ p _ (HPC.out.below HB6.out) (by omega) (by omega)).mono ?_
    rintro _ w7 ⟨u7, rfl, hu7, hb7⟩
    have HU7 := Lib.hid hu7; have HB67 := Lib.hid hb7
    have HM7 : Hid (MB w (.cells #[.int .i64 p.lo, .int .i64 p.hi, .slice ra p.nr rc, .slice ca p.nc cc] 36 (0, 0)) (.cells #[.int .i64 r.day, .int .i64 r.rule, .int .i64 r.num] 59 (0, 0)) (.cells #[.int .i64 p.lo, .int .i64 p.hi, .slice ra p.nr rc, .slice xa (p.nc + 1) xc] 36 (0, 0)) w7) := HM6.out.below hb7
    have HB7 : Hid (Below wc.heap.size wc w7) := below_step HB6.out hb7
    clear d0 d1 d2 d3 e0 e1 e2 e3
    obtain ⟨d0, d1, d2, d3, e0, e1, e2, e3⟩ := HM7.out.cells
    clear hb7 hu7
    go_wp2_with fail
    refine (leave_any _ p _ HU7.out (by omega) (by omega)).mono ?_
    rintro _ w8 ⟨v8, rfl, hi8, hb8⟩
    obtain ⟨a8, c8, rfl⟩ := hi8.ints.len
    have HB68 := Lib.hid (below_step HB67.out hb8)
    have HM8 : Hid (MB w (.cells #[.int .i64 p.lo, .int .i64 p.hi, .slice ra p.nr rc, .slice ca p.nc cc] 36 (0, 0)) (.cells #[.int .i64 r.day, .int .i64 r.rule, .int .i64 r.num] 59 (0, 0)) (.cells #[.int .i64 p.lo, .int .i64 p.hi, .slice ra p.nr rc, .slice xa (p.nc + 1) xc] 36 (0, 0)) w8) := HM7.out.below hb8
    have HB8 : Hid (Below wc.heap.size wc w8) := below_step HB7.out hb8
    clear d0 d1 d2 d3 e0 e1 e2 e3
    obtain ⟨d0, d1, d2, d3, e0, e1, e2, e3⟩ := HM8.out.cells
    clear hb8 hi8
    go_wp2_with fail
    refine (person_any _ x _ (HPX.out.below HB8.out) (by omega) (by omega)).mono ?_
    rintro _ w9 ⟨u9, rfl, hu9, hb9⟩
    have HU9 := Lib.hid hu9; have HB69 := Lib.hid (below_step HB68.out hb9)
    have HM9 : Hid (MB w (.cells #[.int .i64 p.lo, .int .i64 p.hi, .slice ra p.nr rc, .slice ca p.nc cc] 36 (0, 0)) (.cells #[.int .i64 r.day, .int .i64 r.rule, .int .i64 r.num] 59 (0, 0)) (.cells #[.int .i64 p.lo, .int .i64 p.hi, .slice ra p.nr rc, .slice xa (p.nc + 1) xc] 36 (0, 0)) w9) := HM8.out.below hb9
    have HB9 : Hid (Below wc.heap.size wc w9) := below_step HB8.out hb9
    clear d0 d1 d2 d3 e0 e1 e2 e3
    obtain ⟨d0, d1, d2, d3, e0, e1, e2, e3⟩ := HM9.out.cells
    clear hb9 hu9
    go_wp2_with fail
    refine (leave_any _ x _ HU9.out (by omega) (by omega)).mono ?_
    rintro _ w10 ⟨v10, rfl, hi10, hb10⟩
    obtain ⟨a10, c10, rfl⟩ := hi10.ints.len
    have HB610 := Lib.hid (below_step HB69.out hb10)
    have HM10 : Hid (MB w (.cells #[.int .i64 p.lo, .int .i64 p.hi, .slice ra p.nr rc, .slice ca p.nc cc] 36 (0, 0)) (.cells #[.int .i64 r.day, .int .i64 r.rule, .int .i64 r.num] 59 (0, 0)) (.cells #[.int .i64 p.lo, .int .i64 p.hi, .slice ra p.nr rc, .slice xa (p.nc + 1) xc] 36 (0, 0)) w10) := HM9.out.below hb10
    have HB10 : Hid (Below wc.heap.size wc w10) := below_step HB9.out hb10
    clear d0 d1 d2 d3 e0 e1 e2 e3
    obtain ⟨d0, d1, d2, d3, e0, e1, e2, e3⟩ := HM10.out.cells
    clear hb10 hi10
    have HRB := Lib.hid (HR6.out.bel HB610.out).rg; have HRA := Lib.hid (HR46.out.bel HB610.out).rg
    clear d0 d1 d2 d3 e0 e1 e2 e3
    obtain ⟨l1, l2⟩ := more_leave HMO.out HPF.out HXF.out
    have HIN : Hid (insB x.born p.born = true) := more_born HMO.out HPF.out HXF.out
    have hl1 := leave_le HPF.out
    have HE1 : Hid (p.bErr = if p.born = [] then 9 else 0) := bErr_of HPF.out
    have HE2 : Hid (x.bErr = if x.born = [] then 9 else 0) := bErr_of HXF.out
    have HNN : Hid (p.born = [] → x.born = []) := more_none HMO.out HPF.out HXF.out
    have hlb := born_length p; have hlx := born_length x
    rw [HPF.out, HXF.out]
    generalize hlp : p.leave.length = lp at *
    generalize hlx : x.leave.length = lx at *
    clear hlp
    by_cases b1 : p.born = [] <;> by_cases b2 : x.born = []
    rotate_left
    · exact absurd (HNN.out b1) b2
    all_goals
      rw [HE1.out, HE2.out]
      first | rw [if_pos b1] | rw [if_neg b1]
      first | rw [if_pos b2] | rw [if_neg b2]
      clear b1 b2
      go_wp2_with fail
      refine (inside_any _ _ _ _ _ (by omega) (by omega) HRB.out HRA.out).mono ?_
      rintro _ w11 ⟨rfl, hb11⟩
      rw [HIN.out]
      go_wp2_with (go_at_call 20; refine (HAW.out _).mono ?_; rintro _ w12 ⟨rfl, hb12⟩)
      go_ret
      exact ⟨rfl, below_step (below_step (below_step HBW.out HB10.out) hb11) hb12⟩
end Go.Proofs.Ytagfcfojfjkmbaa
