/- Reference: With. Printed by gen_s1.py. -/
import Derived.Test.YtagfcfojfjkmbaaR7
namespace Go.Proofs.Ytagfcfojfjkmbaa
open Go.RowKit Go.Shelf

section
variable {P : Program} (w : World)
theorem wpList_append_src {ops : Array Oper} {rest : List Oper} {o : Oper} {a : Act} {Q : Exit → Act → World → Prop} (hgd : o.guard = none) (s x : Operand) (t : TypeId)
    (ho : o.op = .call { callee := .builtin .append, args := #[s, x], argTypes := #[t, t] })
    (base : Nat) (e : TypeId) (i : TypeInfo) (z : Value) (size bytes : Nat) (ht : P.underlying t = some (.slice e)) (hi : P.info? e = some i) (hz : i.zero = some z)
    (hsize : i.size = size) (hby : i.bytes = bytes) (hzs : z.cells.size = size) (hsz : 0 < size)
    (v : Value) (n : Nat) (xs : List Value) (hs : a.eval s = v) (hown : w.ownsRow base e size v n xs)
    (src : Option Addr) (m c : Nat) (news : List Value) (hx : a.eval x = .slice src m c) (hsrc : Src w src size m news) (h1 : ∀ u ∈ news, u.oneCell' = true)
    (h63 : n + m ≤ maxLen) (hbytes : (n + m) * bytes ≤ 140737488355328) (hbase : base ≤ w.heap.size)
    (h : ∀ v' w', w'.ownsRow base e size v' (n + m) (xs ++ news) → w.grownBy w' v.ownBlock → (v'.ownBlock = v.ownBlock ∨ v'.ownBlock = some w.heap.size) → wpList P ops Q rest (a.put o.dst v') w') : wpList P ops Q (o :: rest) a w :=
  wpList_plain hgd fun _ hK => by
    obtain ⟨v', w', hr, h2, h3, h4⟩ := run_append_src (P := P) w base t o.type e i z size bytes ht hi hz hsize hby hzs hsz v n xs hown src m c news hsrc h1 h63 hbytes hbase
    unfold Oper.wp execOp
    simp only [ho, resolve, invoke, builtin, Sem.run_bind, Sem.run_pure, Result.andThen_ok, List.map_toArray, List.map_cons, List.map_nil, hs, hx, hr]
    exact hK _ _ (h v' w' h2 h3 h4)
end
theorem RgAt.srcP {W : World} {b : Option Addr} {c : Nat} {l r : RL} (h : RgAt W (.slice b (l ++ r).length c) (l ++ r)) : Src W b 2 l.length (flat l) := by
  refine ⟨flat_length l, fun j u hu => ?_⟩
  have hj : j < l.length * 2 := by rw [← flat_length]; exact (List.getElem?_eq_some_iff.1 hu).1
  have hk : j / 2 < l.length := by omega
  obtain ⟨f0, f1⟩ := flat_get l (j / 2) hk
  obtain ⟨b', off, rfl, c0, c1⟩ := h.get (k := j / 2) (by rw [List.length_append]; omega)
  rw [List.getElem_append_left hk] at c0 c1
  refine ⟨_, rfl, ?_⟩
  rcases (by omega : j % 2 = 0 ∨ j % 2 = 1) with e | e
  · have ej : j = j / 2 * 2 := by omega
    rw [ej, f0] at hu
    rw [ej, ← Option.some.inj hu]; by_cases e0 : j / 2 * 2 = 0
    · rw [e0] at c0 ⊢; simpa [Addr.add] using c0
    · simpa [Addr.add, e0] using c0
  · have ej : j = j / 2 * 2 + 1 := by omega
    rw [ej, f1] at hu
    rw [ej, ← Option.some.inj hu]; simpa [Addr.add, Nat.add_assoc] using c1
theorem own_snoc {W : World} {base m : Nat} {v : Value} {l : RL} {r : Int × Int} (hm : l.length = m) (h : W.ownsRow base 32 2 v (m + 1) (flat l ++ flat [r])) : QS W base v (l ++ [r]) := by
  unfold QS; rw [List.length_append, hm, flat_append]; exact h

attribute [local go_sem ↓] Go.wp_at_zero Go.wp_at_succ
set_option maxRecDepth 100000 in
set_option maxHeartbeats 8000000 in
theorem with_any (v : Value) (l : RL) (n : Int) (w : World) (h : RgAt w v l) (hl : l.length ≤ 1000) (hlow : ∀ r ∈ l, r.2 < n) (hn : -100000 ≤ n ∧ n ≤ 100000) :
    Calls Try.prog 55 #[v, .int .i64 n] w (GivesQ w (ext l n n)) := by
  obtain ⟨sa, sc, rfl⟩ := h.slice
  obtain ⟨i0, hi0, hz0, hz1, hz2⟩ := info_parts Try.infoRng
  rcases List.eq_nil_or_concat l with rfl | ⟨l0, ⟨a, hh⟩, rfl⟩
  · have HX : Hid (ext [] n n = [] ++ [(n, n)]) := rfl
    have HSRL : Hid (∀ X : World, Below w.heap.size w X → Src X sa 2 0 (flat [])) := fun X hX => (RgAt.srcP (l := []) (r := []) (h.kept hX))
    have hz : decide ((0 : Int) < (([] : RL).length : Int)) = false := by simp
    have hz' : decide ((0 : Int) < ((0 : Nat) : Int)) = false := by simp
    clear h hlow
    go_enter Try.func55, Try.ntmps55
    go_wp2_with (at_builtin; refine wpList_append_src _ rfl (.tmp 37) (.tmp 38) 49 rfl w.heap.size 32 i0 (.agg #[.int .i64 0, .int .i64 0]) 2 16 Try.underlying49 hi0 hz0 hz1 hz2 rfl (by omega) (.slice (some ⟨w.heap.size, 0, none⟩) 0 0) 0 [] rfl (own_empty w 32 2 w.heap.size (Nat.le_refl _)) sa 0 sc (flat []) rfl (HSRL.out _ (below_alloc _ _)) (flat_one _) (by unfold maxLen; omega) (by omega) ?p1 ?_)
    case p1 => simp
    intro v1 X1 hown hgrow hat
    have hown' := own_cast (n' := 0) hown (by simp) (List.nil_append _)
    have HA1 := Lib.hid hown'
    have HM1 : Hid (Below w.heap.size w X1) := (below_alloc w (.cells #[] 32)).trans ((Fr.grown hgrow).low (by simp) (fun q hq e => by have := own_low (own_empty w 32 2 w.heap.size (Nat.le_refl _)) e; omega))
    have hs1 := HM1.out.size
    obtain ⟨a1, c1, rfl⟩ := own_slice' hown'
    clear hown hown' hgrow hat
    go_wp2_with (at_builtin; refine wpList_append_src _ rfl (.tmp 39) (.tmp 43) 49 rfl w.heap.size 32 i0 (.agg #[.int .i64 0, .int .i64 0]) 2 16 Try.underlying49 hi0 hz0 hz1 hz2 rfl (by omega) (.slice a1 (0) c1) (0) (flat []) rfl (World.ownsRow.alloc HA1.out _) (some ⟨X1.heap.size, 0, none⟩) 1 1 (flat [(n, n)]) rfl ⟨rfl, fun j u hu => ⟨_, rfl, World.news_of_block (heap_alloc_new X1 (.cells #[.int .i64 n, .int .i64 n] 32)) j u hu⟩⟩ (flat_one _) (by unfold maxLen; omega) (by omega) ?p2 ?_)
    case p2 => simp; omega
    intro v2 X2 hown hgrow hat
    have HA2 := Lib.hid hown
    have HM2 : Hid (Below w.heap.size w X2) := (HM1.out.alloc hs1 (.cells #[.int .i64 n, .int .i64 n] 32)).trans ((Fr.grown hgrow).low (by simp; omega) (fun q hq e => by have := own_low HA1.out e; omega))
    clear hown hgrow hat
    go_wp2
    go_ret
    exact ⟨_, rfl, by rw [HX.out]; exact QS.rg (own_snoc (m := 0) rfl HA2.out), HM2.out⟩
  · rw [List.concat_eq_append] at *
    have hll : (l0 ++ [(a, hh)]).length = l0.length + 1 := by simp
    have hlo : hh < n := hlow (a, hh) (by simp)
    have HX0 : Hid (ext (l0 ++ [(a, hh)]) n n = if n ≤ hh + 1 then l0 ++ [(a, max hh n)] else (l0 ++ [(a, hh)]) ++ [(n, n)]) := ext_snoc _ _ _ _ _
    have HSRC : Hid (∀ X : World, Below w.heap.size w X → Src X sa 2 l0.length (flat l0)) := fun X hX => RgAt.srcP (h.kept hX)
    have HSRL : Hid (∀ X : World, Below w.heap.size w X → Src X sa 2 (l0.length + 1) (flat (l0 ++ [(a, hh)]))) := fun X hX => by
      have := RgAt.srcP (l := l0 ++ [(a, hh)]) (r := []) (by rw [List.append_nil]; exact h.kept hX)
      rw [hll] at this; exact this
    obtain ⟨bs, so, rfl, x0, x1⟩ := h.get (k := l0.length) (by omega)
    have hcap : l0.length + 1 ≤ sc := by
      rcases h with ⟨h, _⟩ | ⟨b', o', c', e, hc, _⟩
      · simp at h
      · cases e; omega
    have HG := Lib.hid (fun X (hX : Below w.heap.size w X) => (h.kept hX).get (k := l0.length) (by omega))
    simp only [List.getElem_append_right (Nat.le_refl _), Nat.sub_self, List.getElem_cons_zero] at x0 x1 HG
    rw [hll] at hl ⊢
    clear h hlow
    have HML : Hid (l0.length = l0.length) := rfl
    have HLL : Hid ((l0 ++ [(a, hh)]).length = l0.length + 1) := hll
    clear hll
    generalize hm : l0.length = m at hl hcap x0 x1 HG HSRC HSRL HML HLL ⊢
    clear HML
    have HML := Lib.hid hm; clear hm
    have hz : decide ((0 : Int) < (m : Int) + 1) = true := decide_eq_true (by omega)
    have e1 : IntKind.i64.wrap ((m : Int) + 1 - 1) = m := (by rw [show (m : Int) + 1 - 1 = m by omega]; exact IntWalk.i64_in _ (by omega))
    have e2 : IntKind.i64.wrap (m : Int) = m := IntWalk.i64_in _ (by omega)
    have ki : (0 : Int) ≤ (m : Int) := by omega
    have kj : (m : Int) < (m : Int) + 1 := by omega
    have kc : (m : Int) ≤ (sc : Int) := by omega
    by_cases hj : hh = n - 1
    · have hj' : (hh == n - 1) = true := by simpa using hj
      have HX : Hid (ext (l0 ++ [(a, hh)]) n n = l0 ++ [(a, n)]) := by unfold Hid; rw [HX0.out, if_pos (by omega), show max hh n = n by omega]
      clear hj HX0 HSRL HLL
      go_enter Try.func55, Try.ntmps55
      go_upto_region 3 with fail
      have HM : Hid (Below w.heap.size w w.drew) := (Below.refl _ _).drew
      have HSC : Hid (∀ X : World, Below w.heap.size w X → X.cell? ⟨bs, so + m * 2, none⟩ = some (.int .i64 a)) := fun X hX => by
        obtain ⟨_, _, e, h0, _⟩ := HG.out X hX
        cases e; exact h0
      refine wp_region_held_drew (S := fun X => X.cell? ⟨bs, so + m * 2, none⟩ = some (.int .i64 a)) (by kernel_rfl) (HSC.out _ HM.out) (fun hS => ?_)
      generalize World.drew w = X at *
      refine wpAnyH_take (i := 1) (oi := ⟨some 22, Op.move (Operand.tmp 0), _, _, _, _⟩) (v := .slice (some ⟨bs, so, none⟩) (m + 1) sc) rfl (by kernel_rfl) (by kernel_rfl) (by kernel_rfl) (fun _ _ _ h => h) (Or.inl ⟨by rfl, ?_⟩) hS ?_
      · intro W' hSw; (try dsimp only at hSw); go_simp; (try exact e2)
      try simp only [Act.put, List.setIfInBounds_toArray, List.set_cons_zero, List.set_cons_succ]
      refine wpAnyH_take (i := 2) (oi := ⟨some 23, Op.move (Operand.tmp 5), _, _, _, _⟩) (v := .int .i64 (↑m + 1)) rfl (by kernel_rfl) (by kernel_rfl) (by kernel_rfl) (fun _ _ _ h => h) (Or.inl ⟨by rfl, ?_⟩) hS ?_
      · intro W' hSw; (try dsimp only at hSw); go_simp; (try exact e2)
      try simp only [Act.put, List.setIfInBounds_toArray, List.set_cons_zero, List.set_cons_succ]
      refine wpAnyH_take (i := 3) (oi := ⟨some 24, Op.binOp BinOp.sub 3 (Operand.tmp 23) (Operand.const (Value.int IntKind.i64 1)) 3, _, _, _, _⟩) (v := .int .i64 ↑m) rfl (by kernel_rfl) (by kernel_rfl) (by kernel_rfl) (fun _ _ _ h => h) (Or.inl ⟨by rfl, ?_⟩) hS ?_
      · intro W' hSw; (try dsimp only at hSw); go_simp; (try exact e2)
      try simp only [Act.put, List.setIfInBounds_toArray, List.set_cons_zero, List.set_cons_succ]
      refine wpAnyH_take (i := 4) (oi := ⟨some 25, Op.slice 49 (Operand.tmp 22) none (some (Operand.tmp 24)) none, _, _, _, _⟩) (v := .slice (some ⟨bs, so, none⟩) m sc) rfl (by kernel_rfl) (by kernel_rfl) (by kernel_rfl) (fun _ _ _ h => h) (Or.inl ⟨by rfl, ?_⟩) hS ?_
      · intro W' hSw; (try dsimp only at hSw); go_simp; (try exact e2)
      try simp only [Act.put, List.setIfInBounds_toArray, List.set_cons_zero, List.set_cons_succ]
      refine wpAnyH_take (i := 6) (oi := ⟨some 27, Op.move (Operand.tmp 0), _, _, _, _⟩) (v := .slice (some ⟨bs, so, none⟩) (m + 1) sc) rfl (by kernel_rfl) (by kernel_rfl) (by kernel_rfl) (fun _ _ _ h => h) (Or.inl ⟨by rfl, ?_⟩) hS ?_
      · intro W' hSw; (try dsimp only at hSw); go_simp; (try exact e2)
      try simp only [Act.put, List.setIfInBounds_toArray, List.set_cons_zero, List.set_cons_succ]
      refine wpAnyH_take (i := 7) (oi := ⟨some 28, Op.move (Operand.tmp 5), _, _, _, _⟩) (v := .int .i64 (↑m + 1)) rfl (by kernel_rfl) (by kernel_rfl) (by kernel_rfl) (fun _ _ _ h => h) (Or.inl ⟨by rfl, ?_⟩) hS ?_
      · intro W' hSw; (try dsimp only at hSw); go_simp; (try exact e2)
      try simp only [Act.put, List.setIfInBounds_toArray, List.set_cons_zero, List.set_cons_succ]
      refine wpAnyH_take (i := 8) (oi := ⟨some 29, Op.binOp BinOp.sub 3 (Operand.tmp 28) (Operand.const (Value.int IntKind.i64 1)) 3, _, _, _, _⟩) (v := .int .i64 ↑m) rfl (by kernel_rfl) (by kernel_rfl) (by kernel_rfl) (fun _ _ _ h => h) (Or.inl ⟨by rfl, ?_⟩) hS ?_
      · intro W' hSw; (try dsimp only at hSw); go_simp; (try exact e2)
      try simp only [Act.put, List.setIfInBounds_toArray, List.set_cons_zero, List.set_cons_succ]
      refine wpAnyH_take (i := 9) (oi := ⟨some 30, Op.indexAddr 49 (Operand.tmp 27) (Operand.tmp 29), _, _, _, _⟩) (v := .pointer (some ⟨bs, so + m * 2, none⟩)) rfl (by kernel_rfl) (by kernel_rfl) (by kernel_rfl) (fun _ _ _ h => h) (Or.inl ⟨by rfl, ?_⟩) hS ?_
      · intro W' hSw; (try dsimp only at hSw); go_simp; (try exact e2)
      try simp only [Act.put, List.setIfInBounds_toArray, List.set_cons_zero, List.set_cons_succ]
      refine wpAnyH_take (i := 10) (oi := ⟨some 31, Op.fieldAddr 32 (Operand.tmp 30) 0, _, _, _, _⟩) (v := .pointer (some ⟨bs, so + m * 2, none⟩)) rfl (by kernel_rfl) (by kernel_rfl) (by kernel_rfl) (fun _ _ _ h => h) (Or.inl ⟨by rfl, ?_⟩) hS ?_
      · intro W' hSw; (try dsimp only at hSw); go_simp; (try exact e2)
      try simp only [Act.put, List.setIfInBounds_toArray, List.set_cons_zero, List.set_cons_succ]
      refine wpAnyH_take (i := 11) (oi := ⟨some 32, Op.load 3 (Operand.tmp 31), _, _, _, _⟩) (v := .int .i64 a) rfl (by kernel_rfl) (by kernel_rfl) (by kernel_rfl) (fun _ _ _ h => h) (Or.inl ⟨by rfl, ?_⟩) hS ?_
      · intro W' hSw; (try dsimp only at hSw); go_simp; (try exact e2)
      try simp only [Act.put, List.setIfInBounds_toArray, List.set_cons_zero, List.set_cons_succ]
      refine wpAnyH_take (i := 12) (oi := ⟨some 33, Op.move (Operand.tmp 1), _, _, _, _⟩) (v := .int .i64 n) rfl (by kernel_rfl) (by kernel_rfl) (by kernel_rfl) (fun _ _ _ h => h) (Or.inl ⟨by rfl, ?_⟩) hS ?_
      · intro W' hSw; (try dsimp only at hSw); go_simp; (try exact e2)
      try simp only [Act.put, List.setIfInBounds_toArray, List.set_cons_zero, List.set_cons_succ]
      refine wpAnyH_take (i := 13) (oi := ⟨some 34, Op.build 32 #[(0, Operand.tmp 32), (1, Operand.tmp 33)], _, _, _, _⟩) (v := .agg #[.int .i64 a, .int .i64 n]) rfl (by kernel_rfl) (by kernel_rfl) (by kernel_rfl) (fun _ _ _ h => h) (Or.inl ⟨by rfl, ?_⟩) hS ?_
      · intro W' hSw; (try dsimp only at hSw); go_simp; (try exact e2)
      try simp only [Act.put, List.setIfInBounds_toArray, List.set_cons_zero, List.set_cons_succ]
      refine wpAnyH_ready (rs := [0, 14]) (by kernel_rfl) (by simp) ?_
      refine AllReadyH.cons (o := ⟨some 21, Op.buildSlice 49 0 #[], _, _, _, _⟩) rfl (fun K hK => ?_) ?_
      ·
        go_simp
        have HF0 : Hid (Fr (fun _ => False) X (X.alloc (.cells #[] 32))) := Fr.below (below_alloc X (.cells #[] 32)) _
        have HM0 := Lib.hid (HM.out.trans ((below_alloc X (.cells #[] 32)).mono HM.out.size))
        have HE0 := Lib.hid (own_empty X 32 2 w.heap.size HM.out.size)
        refine hK.out _ _ (HSC.out _ HM0.out) (fun hS => ?_)
        clear hK K
        try simp only [Act.put, List.setIfInBounds_toArray, List.set_cons_zero, List.set_cons_succ]
        clear HF0
        generalize X.heap.size = BE0 at *
        generalize X.alloc (.cells #[] 32) = X0 at *
        refine wpAnyH_ready (rs := [5, 14]) (by kernel_rfl) (by simp) ?_
        refine AllReadyH.cons (o := ⟨some 26, Op.call { callee := Callee.builtin Builtin.append, args := #[Operand.tmp 21, Operand.tmp 25], argTypes := #[49, 49] }, _, _, _, _⟩) rfl (fun K hK => ?_) ?_
        ·
          refine step_append_src X0 (by rfl) (.tmp 21) (.tmp 25) 49 (by rfl) w.heap.size 32 i0 (.agg #[.int .i64 0, .int .i64 0]) 2 16 Try.underlying49 hi0 hz0 hz1 hz2 rfl (by decide) (.slice (some ⟨BE0, 0, none⟩) 0 0) 0 [] (by rfl) HE0.out (some ⟨bs, so, none⟩) m sc (flat l0) (by rfl) (HSRC.out X0 HM0.out) (flat_one _) (by unfold maxLen; omega) (by omega) HM0.out.size ?_
          intro v1 X1 hown hgrow hat
          have hown' := own_cast hown (Nat.zero_add _) (List.nil_append _)
          have HA1 := Lib.hid hown'
          have HF1 := Lib.hid (Fr.grown hgrow)
          have HM1 := Lib.hid (HM0.out.trans (HF1.out.low HM0.out.size (fun q hq e => by have := own_low HE0.out e; omega)))
          clear hown hown' hgrow hat HF1
          refine hK.out _ _ (HSC.out _ HM1.out) (fun hS => ?_)
          clear hK K
          try simp only [Act.put, List.setIfInBounds_toArray, List.set_cons_zero, List.set_cons_succ]
          refine wpAnyH_ready (rs := [14]) (by kernel_rfl) (by simp) ?_
          refine AllReadyH.cons (o := ⟨some 35, Op.buildSlice 49 1 #[(0, Operand.tmp 34)], _, _, _, _⟩) rfl (fun K hK => ?_) ?_
          ·
            go_simp
            have HF2 : Hid (Fr (fun _ => False) X1 (X1.alloc (.cells #[.int .i64 a, .int .i64 n] 32))) := Fr.below (below_alloc X1 (.cells #[.int .i64 a, .int .i64 n] 32)) _
            have HM2 := Lib.hid (HM1.out.trans ((below_alloc X1 (.cells #[.int .i64 a, .int .i64 n] 32)).mono HM1.out.size))
            have HA2 := Lib.hid (own_fr HA1.out HF2.out (fun _ _ _ _ _ e => e))
            have HN2 : Hid ((X1.alloc (.cells #[.int .i64 a, .int .i64 n] 32)).heap[X1.heap.size]? = some (.cells #[.int .i64 a, .int .i64 n] 32 (0, 0))) := heap_alloc_new X1 _
            refine hK.out _ _ (HSC.out _ HM2.out) (fun hS => ?_)
            clear hK K
            try simp only [Act.put, List.setIfInBounds_toArray, List.set_cons_zero, List.set_cons_succ]
            clear HF2
            generalize X1.heap.size = BN2 at *
            generalize X1.alloc (.cells #[.int .i64 a, .int .i64 n] 32) = X2 at *
            refine wpAnyH_ready (rs := [15]) (by kernel_rfl) (by simp) ?_
            refine AllReadyH.cons (o := ⟨some 36, Op.call { callee := Callee.builtin Builtin.append, args := #[Operand.tmp 26, Operand.tmp 35], argTypes := #[49, 49] }, _, _, _, _⟩) rfl (fun K hK => ?_) ?_
            ·
              refine step_append_src X2 (by rfl) (.tmp 26) (.tmp 35) 49 (by rfl) w.heap.size 32 i0 (.agg #[.int .i64 0, .int .i64 0]) 2 16 Try.underlying49 hi0 hz0 hz1 hz2 rfl (by decide) v1 m (flat l0) (by rfl) HA2.out (some ⟨BN2, 0, none⟩) 1 1 (flat [(a, n)]) (by rfl) ⟨rfl, fun j u hu => ⟨_, rfl, World.news_of_block HN2.out j u hu⟩⟩ (flat_one _) (by unfold maxLen; omega) (by omega) HM2.out.size ?_
              intro v3 X3 hown hgrow hat
              have HA3 := Lib.hid hown
              have HM3 := Lib.hid (HM2.out.trans ((Fr.grown hgrow).low HM2.out.size (fun q hq e => by have := own_low HA2.out e; omega)))
              clear hown hgrow hat
              refine hK.out _ _ (HSC.out _ HM3.out) (fun hS => ?_)
              clear hK K
              try simp only [Act.put, List.setIfInBounds_toArray, List.set_cons_zero, List.set_cons_succ]
              refine wpAnyH_take (i := 16) (oi := ⟨some 4, Op.assign (Operand.tmp 36), _, _, _, _⟩) (v := v3) rfl (by kernel_rfl) (by kernel_rfl) (by kernel_rfl) (fun _ _ _ h => h) (Or.inl ⟨by rfl, ?_⟩) hS ?_
              · intro W' hSw; (try dsimp only at hSw); go_simp; (try exact e2)
              try simp only [Act.put, List.setIfInBounds_toArray, List.set_cons_zero, List.set_cons_succ]
              refine wpAnyH_done (by kernel_rfl) ?_ _
              go_wp2
              go_ret
              exact ⟨_, rfl, by rw [HX.out]; exact QS.rg (own_snoc HML.out HA3.out), HM3.out⟩
            exact AllReadyH.nil
          exact AllReadyH.nil
        refine AllReadyH.cons (o := ⟨some 35, Op.buildSlice 49 1 #[(0, Operand.tmp 34)], _, _, _, _⟩) rfl (fun K hK => ?_) ?_
        ·
          go_simp
          have HF4 : Hid (Fr (fun _ => False) X0 (X0.alloc (.cells #[.int .i64 a, .int .i64 n] 32))) := Fr.below (below_alloc X0 (.cells #[.int .i64 a, .int .i64 n] 32)) _
          have HM4 := Lib.hid (HM0.out.trans ((below_alloc X0 (.cells #[.int .i64 a, .int .i64 n] 32)).mono HM0.out.size))
          have HE4 := Lib.hid (own_fr HE0.out HF4.out (fun _ _ _ _ _ e => e))
          have HN4 : Hid ((X0.alloc (.cells #[.int .i64 a, .int .i64 n] 32)).heap[X0.heap.size]? = some (.cells #[.int .i64 a, .int .i64 n] 32 (0, 0))) := heap_alloc_new X0 _
          refine hK.out _ _ (HSC.out _ HM4.out) (fun hS => ?_)
          clear hK K
          try simp only [Act.put, List.setIfInBounds_toArray, List.set_cons_zero, List.set_cons_succ]
          clear HF4
          generalize X0.heap.size = BN4 at *
          generalize X0.alloc (.cells #[.int .i64 a, .int .i64 n] 32) = X4 at *
          refine wpAnyH_ready (rs := [5]) (by kernel_rfl) (by simp) ?_
          refine AllReadyH.cons (o := ⟨some 26, Op.call { callee := Callee.builtin Builtin.append, args := #[Operand.tmp 21, Operand.tmp 25], argTypes := #[49, 49] }, _, _, _, _⟩) rfl (fun K hK => ?_) ?_
          ·
            refine step_append_src X4 (by rfl) (.tmp 21) (.tmp 25) 49 (by rfl) w.heap.size 32 i0 (.agg #[.int .i64 0, .int .i64 0]) 2 16 Try.underlying49 hi0 hz0 hz1 hz2 rfl (by decide) (.slice (some ⟨BE0, 0, none⟩) 0 0) 0 [] (by rfl) HE4.out (some ⟨bs, so, none⟩) m sc (flat l0) (by rfl) (HSRC.out X4 HM4.out) (flat_one _) (by unfold maxLen; omega) (by omega) HM4.out.size ?_
            intro v5 X5 hown hgrow hat
            have hown' := own_cast hown (Nat.zero_add _) (List.nil_append _)
            have HA5 := Lib.hid hown'
            have HF5 := Lib.hid (Fr.grown hgrow)
            have HM5 := Lib.hid (HM4.out.trans (HF5.out.low HM4.out.size (fun q hq e => by have := own_low HE4.out e; omega)))
            have HN5 : Hid (X5.heap[BN4]? = some (.cells #[.int .i64 a, .int .i64 n] 32 (0, 0))) := (HF5.out.block _ (Array.getElem?_eq_some_iff.1 HN4.out).1 (own_empty_ne HE4.out HN4.out (by simp))).trans HN4.out
            clear hown hown' hgrow hat HF5
            refine hK.out _ _ (HSC.out _ HM5.out) (fun hS => ?_)
            clear hK K
            try simp only [Act.put, List.setIfInBounds_toArray, List.set_cons_zero, List.set_cons_succ]
            refine wpAnyH_ready (rs := [15]) (by kernel_rfl) (by simp) ?_
            refine AllReadyH.cons (o := ⟨some 36, Op.call { callee := Callee.builtin Builtin.append, args := #[Operand.tmp 26, Operand.tmp 35], argTypes := #[49, 49] }, _, _, _, _⟩) rfl (fun K hK => ?_) ?_
            ·
              refine step_append_src X5 (by rfl) (.tmp 26) (.tmp 35) 49 (by rfl) w.heap.size 32 i0 (.agg #[.int .i64 0, .int .i64 0]) 2 16 Try.underlying49 hi0 hz0 hz1 hz2 rfl (by decide) v5 m (flat l0) (by rfl) HA5.out (some ⟨BN4, 0, none⟩) 1 1 (flat [(a, n)]) (by rfl) ⟨rfl, fun j u hu => ⟨_, rfl, World.news_of_block HN5.out j u hu⟩⟩ (flat_one _) (by unfold maxLen; omega) (by omega) HM5.out.size ?_
              intro v6 X6 hown hgrow hat
              have HA6 := Lib.hid hown
              have HM6 := Lib.hid (HM5.out.trans ((Fr.grown hgrow).low HM5.out.size (fun q hq e => by have := own_low HA5.out e; omega)))
              clear hown hgrow hat
              refine hK.out _ _ (HSC.out _ HM6.out) (fun hS => ?_)
              clear hK K
              try simp only [Act.put, List.setIfInBounds_toArray, List.set_cons_zero, List.set_cons_succ]
              refine wpAnyH_take (i := 16) (oi := ⟨some 4, Op.assign (Operand.tmp 36), _, _, _, _⟩) (v := v6) rfl (by kernel_rfl) (by kernel_rfl) (by kernel_rfl) (fun _ _ _ h => h) (Or.inl ⟨by rfl, ?_⟩) hS ?_
              · intro W' hSw; (try dsimp only at hSw); go_simp; (try exact e2)
              try simp only [Act.put, List.setIfInBounds_toArray, List.set_cons_zero, List.set_cons_succ]
              refine wpAnyH_done (by kernel_rfl) ?_ _
              go_wp2
              go_ret
              exact ⟨_, rfl, by rw [HX.out]; exact QS.rg (own_snoc HML.out HA6.out), HM6.out⟩
            exact AllReadyH.nil
          exact AllReadyH.nil
        exact AllReadyH.nil
      refine AllReadyH.cons (o := ⟨some 35, Op.buildSlice 49 1 #[(0, Operand.tmp 34)], _, _, _, _⟩) rfl (fun K hK => ?_) ?_
      ·
        go_simp
        have HF7 : Hid (Fr (fun _ => False) X (X.alloc (.cells #[.int .i64 a, .int .i64 n] 32))) := Fr.below (below_alloc X (.cells #[.int .i64 a, .int .i64 n] 32)) _
        have HM7 := Lib.hid (HM.out.trans ((below_alloc X (.cells #[.int .i64 a, .int .i64 n] 32)).mono HM.out.size))
        have HN7 : Hid ((X.alloc (.cells #[.int .i64 a, .int .i64 n] 32)).heap[X.heap.size]? = some (.cells #[.int .i64 a, .int .i64 n] 32 (0, 0))) := heap_alloc_new X _
        refine hK.out _ _ (HSC.out _ HM7.out) (fun hS => ?_)
        clear hK K
        try simp only [Act.put, List.setIfInBounds_toArray, List.set_cons_zero, List.set_cons_succ]
        clear HF7
        generalize X.heap.size = BN7 at *
        generalize X.alloc (.cells #[.int .i64 a, .int .i64 n] 32) = X7 at *
        refine wpAnyH_ready (rs := [0]) (by kernel_rfl) (by simp) ?_
        refine AllReadyH.cons (o := ⟨some 21, Op.buildSlice 49 0 #[], _, _, _, _⟩) rfl (fun K hK => ?_) ?_
        ·
          go_simp
          have HF8 : Hid (Fr (fun _ => False) X7 (X7.alloc (.cells #[] 32))) := Fr.below (below_alloc X7 (.cells #[] 32)) _
          have HM8 := Lib.hid (HM7.out.trans ((below_alloc X7 (.cells #[] 32)).mono HM7.out.size))
          have HE8 := Lib.hid (own_empty X7 32 2 w.heap.size HM7.out.size)
          have HN8 : Hid ((X7.alloc (.cells #[] 32)).heap[BN7]? = some (.cells #[.int .i64 a, .int .i64 n] 32 (0, 0))) := (HF8.out.block _ (Array.getElem?_eq_some_iff.1 HN7.out).1 (fun e => e)).trans HN7.out
          refine hK.out _ _ (HSC.out _ HM8.out) (fun hS => ?_)
          clear hK K
          try simp only [Act.put, List.setIfInBounds_toArray, List.set_cons_zero, List.set_cons_succ]
          clear HF8
          generalize X7.heap.size = BE8 at *
          generalize X7.alloc (.cells #[] 32) = X8 at *
          refine wpAnyH_ready (rs := [5]) (by kernel_rfl) (by simp) ?_
          refine AllReadyH.cons (o := ⟨some 26, Op.call { callee := Callee.builtin Builtin.append, args := #[Operand.tmp 21, Operand.tmp 25], argTypes := #[49, 49] }, _, _, _, _⟩) rfl (fun K hK => ?_) ?_
          ·
            refine step_append_src X8 (by rfl) (.tmp 21) (.tmp 25) 49 (by rfl) w.heap.size 32 i0 (.agg #[.int .i64 0, .int .i64 0]) 2 16 Try.underlying49 hi0 hz0 hz1 hz2 rfl (by decide) (.slice (some ⟨BE8, 0, none⟩) 0 0) 0 [] (by rfl) HE8.out (some ⟨bs, so, none⟩) m sc (flat l0) (by rfl) (HSRC.out X8 HM8.out) (flat_one _) (by unfold maxLen; omega) (by omega) HM8.out.size ?_
            intro v9 X9 hown hgrow hat
            have hown' := own_cast hown (Nat.zero_add _) (List.nil_append _)
            have HA9 := Lib.hid hown'
            have HF9 := Lib.hid (Fr.grown hgrow)
            have HM9 := Lib.hid (HM8.out.trans (HF9.out.low HM8.out.size (fun q hq e => by have := own_low HE8.out e; omega)))
            have HN9 : Hid (X9.heap[BN7]? = some (.cells #[.int .i64 a, .int .i64 n] 32 (0, 0))) := (HF9.out.block _ (Array.getElem?_eq_some_iff.1 HN8.out).1 (own_empty_ne HE8.out HN8.out (by simp))).trans HN8.out
            clear hown hown' hgrow hat HF9
            refine hK.out _ _ (HSC.out _ HM9.out) (fun hS => ?_)
            clear hK K
            try simp only [Act.put, List.setIfInBounds_toArray, List.set_cons_zero, List.set_cons_succ]
            refine wpAnyH_ready (rs := [15]) (by kernel_rfl) (by simp) ?_
            refine AllReadyH.cons (o := ⟨some 36, Op.call { callee := Callee.builtin Builtin.append, args := #[Operand.tmp 26, Operand.tmp 35], argTypes := #[49, 49] }, _, _, _, _⟩) rfl (fun K hK => ?_) ?_
            ·
              refine step_append_src X9 (by rfl) (.tmp 26) (.tmp 35) 49 (by rfl) w.heap.size 32 i0 (.agg #[.int .i64 0, .int .i64 0]) 2 16 Try.underlying49 hi0 hz0 hz1 hz2 rfl (by decide) v9 m (flat l0) (by rfl) HA9.out (some ⟨BN7, 0, none⟩) 1 1 (flat [(a, n)]) (by rfl) ⟨rfl, fun j u hu => ⟨_, rfl, World.news_of_block HN9.out j u hu⟩⟩ (flat_one _) (by unfold maxLen; omega) (by omega) HM9.out.size ?_
              intro v10 X10 hown hgrow hat
              have HA10 := Lib.hid hown
              have HM10 := Lib.hid (HM9.out.trans ((Fr.grown hgrow).low HM9.out.size (fun q hq e => by have := own_low HA9.out e; omega)))
              clear hown hgrow hat
              refine hK.out _ _ (HSC.out _ HM10.out) (fun hS => ?_)
              clear hK K
              try simp only [Act.put, List.setIfInBounds_toArray, List.set_cons_zero, List.set_cons_succ]
              refine wpAnyH_take (i := 16) (oi := ⟨some 4, Op.assign (Operand.tmp 36), _, _, _, _⟩) (v := v10) rfl (by kernel_rfl) (by kernel_rfl) (by kernel_rfl) (fun _ _ _ h => h) (Or.inl ⟨by rfl, ?_⟩) hS ?_
              · intro W' hSw; (try dsimp only at hSw); go_simp; (try exact e2)
              try simp only [Act.put, List.setIfInBounds_toArray, List.set_cons_zero, List.set_cons_succ]
              refine wpAnyH_done (by kernel_rfl) ?_ _
              go_wp2
              go_ret
              exact ⟨_, rfl, by rw [HX.out]; exact QS.rg (own_snoc HML.out HA10.out), HM10.out⟩
            exact AllReadyH.nil
          exact AllReadyH.nil
        exact AllReadyH.nil
      exact AllReadyH.nil

    · have hj' : (hh == n - 1) = false := by simpa using hj
      have HX : Hid (ext (l0 ++ [(a, hh)]) n n = (l0 ++ [(a, hh)]) ++ [(n, n)]) := by unfold Hid; rw [HX0.out, if_neg (by omega)]
      clear hj HX0 HSRC HG
      go_enter Try.func55, Try.ntmps55
      go_wp2_with (at_builtin; refine wpList_append_src _ rfl (.tmp 37) (.tmp 38) 49 rfl w.heap.size 32 i0 (.agg #[.int .i64 0, .int .i64 0]) 2 16 Try.underlying49 hi0 hz0 hz1 hz2 rfl (by omega) (.slice (some ⟨w.heap.size, 0, none⟩) 0 0) 0 [] rfl (own_empty w 32 2 w.heap.size (Nat.le_refl _)) (some ⟨bs, so, none⟩) (m + 1) sc (flat (l0 ++ [(a, hh)])) rfl (HSRL.out _ (below_alloc _ _)) (flat_one _) (by unfold maxLen; omega) (by omega) ?q1 ?_)
      case q1 => simp
      intro v1 X1 hown hgrow hat
      have hown' := own_cast (n' := m + 1) hown (by simp) (List.nil_append _)
      have HA1 := Lib.hid hown'
      have HM1 : Hid (Below w.heap.size w X1) := (below_alloc w (.cells #[] 32)).trans ((Fr.grown hgrow).low (by simp) (fun q hq e => by have := own_low (own_empty w 32 2 w.heap.size (Nat.le_refl _)) e; omega))
      have hs1 := HM1.out.size
      obtain ⟨a1, c1, rfl⟩ := own_slice' hown'
      clear hown hown' hgrow hat
      go_wp2_with (at_builtin; refine wpList_append_src _ rfl (.tmp 39) (.tmp 43) 49 rfl w.heap.size 32 i0 (.agg #[.int .i64 0, .int .i64 0]) 2 16 Try.underlying49 hi0 hz0 hz1 hz2 rfl (by omega) (.slice a1 (m + 1) c1) (m + 1) (flat (l0 ++ [(a, hh)])) rfl (World.ownsRow.alloc HA1.out _) (some ⟨X1.heap.size, 0, none⟩) 1 1 (flat [(n, n)]) rfl ⟨rfl, fun j u hu => ⟨_, rfl, World.news_of_block (heap_alloc_new X1 (.cells #[.int .i64 n, .int .i64 n] 32)) j u hu⟩⟩ (flat_one _) (by unfold maxLen; omega) (by omega) ?q2 ?_)
      case q2 => simp; omega
      intro v2 X2 hown hgrow hat
      have HA2 := Lib.hid hown
      have HM2 : Hid (Below w.heap.size w X2) := (HM1.out.alloc hs1 (.cells #[.int .i64 n, .int .i64 n] 32)).trans ((Fr.grown hgrow).low (by simp; omega) (fun q hq e => by have := own_low HA1.out e; omega))
      clear hown hgrow hat
      go_wp2
      go_ret
      exact ⟨_, rfl, by rw [HX.out]; exact QS.rg (own_snoc HLL.out HA2.out), HM2.out⟩
end Go.Proofs.Ytagfcfojfjkmbaa
