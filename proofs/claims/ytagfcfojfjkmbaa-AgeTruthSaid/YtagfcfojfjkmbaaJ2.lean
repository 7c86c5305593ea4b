/- Contract: without. -/
import Derived.Test.YtagfcfojfjkmbaaJ1
namespace Go.Proofs.Ytagfcfojfjkmbaa
open Go.RowKit Go.Shelf

/-- While a person is built in the third block of a call: its records v so far. -/
def WI (w : World) (o0 o1 : Obj) (a b c : Value) (v : Value) (l : List Rc) (W : World) : Prop :=
  MB w o0 o1 (.cells #[a, b, c, v] 36 (0, 0)) W ∧ W.ownsRow (w.heap.size + 3) 59 3 v l.length (flatC l)
theorem WI.below {w : World} {o0 o1 : Obj} {a b c v : Value} {l : List Rc} {W W' : World} (h : WI w o0 o1 a b c v l W) (hb : Below W.heap.size W W') : WI w o0 o1 a b c v l W' :=
  ⟨h.1.below hb, own_fr h.2 (Fr.below hb (fun _ => False)) (fun _ _ _ _ _ e => e)⟩
theorem inL_succ (z : Nat → Int) (k : Nat) (i : Int) : inL z (k + 1) i = (inL z k i || (z k == i)) := by
  unfold inL
  rw [List.range_succ, List.any_append, show (z k == i) = (i == z k) from by rw [Bool.eq_iff_iff, beq_iff_eq, beq_iff_eq]; exact eq_comm]
  simp
theorem without_person {W : World} {p : Pers} {out : Nat → Bool} {base : Nat} {v0 v1 rv cv v2 : Value} (h : PersIn W (.agg #[v0, v1, rv, cv]) p) (ho : W.ownsRow base 59 3 v2 (p.kept out p.nc).length (flatC (p.kept out p.nc))) :
    ∃ x : Pers, Hid (PersIn W (.agg #[.int .i64 p.lo, .int .i64 p.hi, rv, v2]) x) ∧ Hid (x.WithoutOf p out) := by
  obtain ⟨rv', cv', e, h1, h2⟩ := h
  simp only [Value.agg.injEq, Array.mk.injEq, List.cons.injEq, and_true] at e
  obtain ⟨_, _, rfl, rfl⟩ := e
  have hc : CR W base v2 (p.kept out p.nc) := ho
  exact ⟨⟨p.lo, p.hi, p.nr, p.R, (p.kept out p.nc).length, fun j => (p.kept out p.nc).getD j ⟨0, 0, 0⟩⟩, ⟨rv, v2, rfl, h1, hc.in⟩, ⟨rfl, rfl, rfl, rfl, rfl, fun j _ => rfl⟩⟩
attribute [local go_sem ↓] Go.wp_at_zero Go.wp_at_succ
set_option maxRecDepth 100000 in
set_option maxHeartbeats 8000000 in
theorem without_any (v lv : Value) (p : Pers) (n : Nat) (z : Nat → Int) (w : World) (h : PersIn w v p) (hnc : p.nc ≤ 8) (hz : IntsIn w lv n z) (hn : n ≤ 100000) :
    Calls Try.prog 39 #[v, lv] w fun e w' => ∃ u x, e = .returned u ∧ Hid (PersIn w' u x) ∧ Hid (x.WithoutOf p (fun j => inL z n j)) ∧ Below w.heap.size w w' := by
  have HP := Lib.hid h
  obtain ⟨rv, cv, rfl, h1, h2⟩ := h
  obtain ⟨ra, rc, rfl⟩ := h1.slice
  obtain ⟨ca, cc, rfl⟩ := h2.slice
  have HC := Lib.hid h2; clear h1 h2
  obtain ⟨la, lc, rfl⟩ := hz.len
  have HZ := Lib.hid hz; clear hz
  obtain ⟨i0, hi0, hz0, hz1, hz2⟩ := info_parts Try.infoRec
  obtain ⟨_, hb3, q0, q1, q2⟩ := alloc3 w (.cells #[.int .i64 p.lo, .int .i64 p.hi, .slice ra p.nr rc, .slice ca p.nc cc] 36) (.cells #[.int .i64 0, .int .i64 0, .slice none 0 0, .slice none 0 0] 36) (.cells #[.int .i64 p.lo, .int .i64 p.hi, .slice ra p.nr rc, .slice none 0 0] 36)
  have HW0 : Hid (WI w (.cells #[.int .i64 p.lo, .int .i64 p.hi, .slice ra p.nr rc, .slice ca p.nc cc] 36 (0, 0)) (.cells #[.int .i64 0, .int .i64 0, .slice none 0 0, .slice none 0 0] 36 (0, 0)) (.int .i64 p.lo) (.int .i64 p.hi) (.slice ra p.nr rc) (.slice none 0 0) [] (((w.alloc (.cells #[.int .i64 p.lo, .int .i64 p.hi, .slice ra p.nr rc, .slice ca p.nc cc] 36)).alloc (.cells #[.int .i64 0, .int .i64 0, .slice none 0 0, .slice none 0 0] 36)).alloc (.cells #[.int .i64 p.lo, .int .i64 p.hi, .slice ra p.nr rc, .slice none 0 0] 36))) := ⟨⟨q0, q1, q2, hb3⟩, World.ownsRow_nil _ _ _ _⟩
  clear q0 q1 q2 hb3
  go_enter Try.func39, Try.ntmps39
  go_wp2_with fail
  go_loopw [6] (fun i wr => ∃ k : Nat, k ≤ p.nc ∧ i = .int .i64 k ∧ ∃ v, WI w (.cells #[.int .i64 p.lo, .int .i64 p.hi, .slice ra p.nr rc, .slice ca p.nc cc] 36 (0, 0)) (.cells #[.int .i64 0, .int .i64 0, .slice none 0 0, .slice none 0 0] 36 (0, 0)) (.int .i64 p.lo) (.int .i64 p.hi) (.slice ra p.nr rc) v (p.kept (fun j => inL z n j) k) wr) (fun i _ => p.nc - (intOf i).toNat)
  case atStart => exact ⟨0, Nat.zero_le _, rfl, _, HW0.out⟩
  case round =>
    clear HW0
    obtain ⟨k, hk, rfl, v, hwi⟩ := hrel
    obtain ⟨av, ac, rfl⟩ := own_slice' hwi.2
    have hlen := kept_length p (fun j => inL z n j) k
    generalize hkk : (p.kept (fun j => inL z n j) k).length = kk at *
    have HWI := Lib.hid hwi
    have HBW : Hid (Below w.heap.size w wr) := hwi.1.2.2.2
    obtain ⟨d0, d1, d2, d3, e0, e1, e2, e3⟩ := hwi.1.cells
    have HLEN := Lib.hid hkk; clear hkk
    clear hwi d0 d1 d2 e0 e1 e2 e3
    by_cases hlt : k < p.nc
    · go_wp2_with fail
      obtain ⟨wo, rfl⟩ : ∃ wo : World, wo = wr := ⟨_, rfl⟩
      go_loop [7, 8] (fun o i => ∃ j : Nat, j ≤ n ∧ i = .int .i64 j ∧ o = .bool (inL z j k)) (fun _ i => n - (intOf i).toNat)
      case atStart => exact ⟨0, Nat.zero_le _, rfl, rfl⟩
      case round =>
        obtain ⟨j, hj, rfl, rfl⟩ := hrel
        have HIS := Lib.hid (inL_succ z j k)
        by_cases hjl : j < n
        · obtain ⟨bz, oz, rfl, xz⟩ := (HZ.out.below HBW.out).at hjl
          generalize z j = y at *
          cases hin : inL z j k <;> cases hyk : (y == (k : Int))
          all_goals
            go_wp2_with fail
            go_round
            case rel => exact ⟨j + 1, by omega, by go_num, by rw [HIS.out, hin]; simp [hyk]⟩
            case measure => simp [intOf]; omega
        · obtain rfl : j = n := by omega
          have HKS := Lib.hid (kept_succ p (fun i => inL z j i) k)
          cases hin : inL z j k
          · have HRS : Hid (p.kept (fun i => inL z j i) (k + 1) = p.kept (fun i => inL z j i) k ++ [p.C k]) := by unfold Hid; rw [HKS.out, if_neg (by rw [hin]; decide)]
            obtain ⟨b, off, rfl, hbs, x0, x1, x2⟩ := HC.out.at HBW.out hlt
            have HAT := Lib.hid (fun (W : World) (hW : Below w.heap.size w W) => HC.out.at hW hlt)
            generalize p.kept (fun i => inL z j i) k = l at *
            have HCk : Hid (p.C k = ⟨(p.C k).day, (p.C k).rule, (p.C k).num⟩) := rfl
            rw [HCk.out] at HRS
            clear HCk
            generalize (p.C k).day = day at *
            generalize (p.C k).rule = rule at *
            generalize (p.C k).num = num at *
            have HOWN : Hid (∀ W : World, W.ownsRow (w.heap.size + 3) 59 3 (.slice av kk ac) l.length (flatC l) → W.ownsRow (w.heap.size + 3) 59 3 (.slice av kk ac) kk (flatC l)) := fun W h => by rw [HLEN.out] at h; exact h
            have ki : (0 : Int) ≤ (k : Int) := by omega
            have kj : (k : Int) < (p.nc : Int) := by omega
            have HSB : Hid (∀ {c : Value} (X : World), MB w (.cells #[.int .i64 p.lo, .int .i64 p.hi, .slice ra p.nr rc, .slice (some ⟨b, off, none⟩) p.nc cc] 36 (0, 0)) (.cells #[.int .i64 0, .int .i64 0, .slice none 0 0, .slice none 0 0] 36 (0, 0)) (.cells #[.int .i64 p.lo, .int .i64 p.hi, .slice ra p.nr rc, c] 36 (0, 0)) X → X.cell? ⟨w.heap.size, 3, none⟩ = some (.slice (some ⟨b, off, none⟩) p.nc cc) ∧ X.cell? ⟨b, off + k * 3, none⟩ = some (.int .i64 day) ∧ X.cell? ⟨b, off + k * 3 + 1, none⟩ = some (.int .i64 rule) ∧ X.cell? ⟨b, off + k * 3 + 2, none⟩ = some (.int .i64 num)) := fun X hX => by
              obtain ⟨_, _, e, _, x0, x1, x2⟩ := HAT.out X hX.2.2.2
              cases e
              exact ⟨hX.cells.2.2.2.1, x0, x1, x2⟩
            clear x0 x1 x2 d3
            go_wp2_with fail
            have HWD := Lib.hid (HWI.out.below ((Below.refl _ _).drew))
            refine wp_region_held_drew (S := fun X => X.cell? ⟨w.heap.size, 3, none⟩ = some (.slice (some ⟨b, off, none⟩) p.nc cc) ∧ X.cell? ⟨b, off + k * 3, none⟩ = some (.int .i64 day) ∧ X.cell? ⟨b, off + k * 3 + 1, none⟩ = some (.int .i64 rule) ∧ X.cell? ⟨b, off + k * 3 + 2, none⟩ = some (.int .i64 num)) (by kernel_rfl) (HSB.out _ HWD.out.1) (fun hS => ?_)
            generalize World.drew wo = X at *
            refine wpAnyH_take (i := 0) (oi := ⟨some 38, Op.fieldAddr 36 (Operand.tmp 5) 2, _, _, _, _⟩) (v := .pointer (some ⟨w.heap.size + 1 + 1, 3, none⟩)) rfl (by kernel_rfl) (by kernel_rfl) (by kernel_rfl) (fun _ _ _ h => h) (Or.inl ⟨by rfl, ?_⟩) hS ?_
            · intro W' hSw; (try dsimp only at hSw); obtain ⟨s0, s1, s2, s3⟩ := hSw; go_simp
            try simp only [Act.put, List.setIfInBounds_toArray, List.set_cons_zero, List.set_cons_succ]
            refine wpAnyH_take (i := 2) (oi := ⟨some 40, Op.fieldAddr 36 (Operand.tmp 2) 2, _, _, _, _⟩) (v := .pointer (some ⟨w.heap.size, 3, none⟩)) rfl (by kernel_rfl) (by kernel_rfl) (by kernel_rfl) (fun _ _ _ h => h) (Or.inl ⟨by rfl, ?_⟩) hS ?_
            · intro W' hSw; (try dsimp only at hSw); obtain ⟨s0, s1, s2, s3⟩ := hSw; go_simp
            try simp only [Act.put, List.setIfInBounds_toArray, List.set_cons_zero, List.set_cons_succ]
            refine wpAnyH_take (i := 3) (oi := ⟨some 41, Op.load 34 (Operand.tmp 40), _, _, _, _⟩) (v := .slice (some ⟨b, off, none⟩) p.nc cc) rfl (by kernel_rfl) (by kernel_rfl) (by kernel_rfl) (fun _ _ _ h => h) (Or.inl ⟨by rfl, ?_⟩) hS ?_
            · intro W' hSw; (try dsimp only at hSw); obtain ⟨s0, s1, s2, s3⟩ := hSw; go_simp
            try simp only [Act.put, List.setIfInBounds_toArray, List.set_cons_zero, List.set_cons_succ]
            refine wpAnyH_take (i := 4) (oi := ⟨some 42, Op.move (Operand.tmp 6), _, _, _, _⟩) (v := .int .i64 k) rfl (by kernel_rfl) (by kernel_rfl) (by kernel_rfl) (fun _ _ _ h => h) (Or.inl ⟨by rfl, ?_⟩) hS ?_
            · intro W' hSw; (try dsimp only at hSw); obtain ⟨s0, s1, s2, s3⟩ := hSw; go_simp
            try simp only [Act.put, List.setIfInBounds_toArray, List.set_cons_zero, List.set_cons_succ]
            refine wpAnyH_take (i := 5) (oi := ⟨some 43, Op.indexAddr 34 (Operand.tmp 41) (Operand.tmp 42), _, _, _, _⟩) (v := .pointer (some ⟨b, off + k * 3, none⟩)) rfl (by kernel_rfl) (by kernel_rfl) (by kernel_rfl) (fun _ _ _ h => h) (Or.inl ⟨by rfl, ?_⟩) hS ?_
            · intro W' hSw; (try dsimp only at hSw); obtain ⟨s0, s1, s2, s3⟩ := hSw; go_simp
            try simp only [Act.put, List.setIfInBounds_toArray, List.set_cons_zero, List.set_cons_succ]
            refine wpAnyH_take (i := 6) (oi := ⟨some 44, Op.load 59 (Operand.tmp 43), _, _, _, _⟩) (v := .agg #[.int .i64 day, .int .i64 rule, .int .i64 num]) rfl (by kernel_rfl) (by kernel_rfl) (by kernel_rfl) (fun _ _ _ h => h) (Or.inl ⟨by rfl, ?_⟩) hS ?_
            · intro W' hSw; (try dsimp only at hSw); obtain ⟨s0, s1, s2, s3⟩ := hSw; go_simp
            try simp only [Act.put, List.setIfInBounds_toArray, List.set_cons_zero, List.set_cons_succ]
            refine wpAnyH_ready (rs := [1, 7]) (by kernel_rfl) (by simp) ?_
            refine AllReadyH.cons (o := ⟨some 39, Op.load 34 (Operand.tmp 38), _, _, _, _⟩) rfl (fun K hK => ?_) ?_
            ·
              have e4 := HWD.out.1.c23
              go_simp
              clear e4
              refine hK.out _ _ (hS) (fun hS => ?_)
              clear hK K
              try simp only [Act.put, List.setIfInBounds_toArray, List.set_cons_zero, List.set_cons_succ]
              refine wpAnyH_ready (rs := [7]) (by kernel_rfl) (by simp) ?_
              refine AllReadyH.cons (o := ⟨some 45, Op.buildSlice 34 1 #[(0, Operand.tmp 44)], _, _, _, _⟩) rfl (fun K hK => ?_) ?_
              ·
                go_simp
                have HW1 := Lib.hid (HWD.out.below (below_alloc X (.cells #[.int .i64 day, .int .i64 rule, .int .i64 num] 59)))
                have HN1 : Hid ((X.alloc (.cells #[.int .i64 day, .int .i64 rule, .int .i64 num] 59)).heap[X.heap.size]? = some (.cells #[.int .i64 day, .int .i64 rule, .int .i64 num] 59 (0, 0))) := heap_alloc_new X _
                refine hK.out _ _ (HSB.out _ HW1.out.1) (fun hS => ?_)
                clear hK K
                try simp only [Act.put, List.setIfInBounds_toArray, List.set_cons_zero, List.set_cons_succ]
                generalize X.heap.size = BN1 at *
                generalize X.alloc (.cells #[.int .i64 day, .int .i64 rule, .int .i64 num] 59) = X1 at *
                refine wpAnyH_ready (rs := [8]) (by kernel_rfl) (by simp) ?_
                refine AllReadyH.cons (o := ⟨some 46, Op.call { callee := Callee.builtin Builtin.append, args := #[Operand.tmp 39, Operand.tmp 45], argTypes := #[34, 34] }, _, _, _, _⟩) rfl (fun K hK => ?_) ?_
                ·
                  refine step_append_src X1 (by rfl) (.tmp 39) (.tmp 45) 34 (by rfl) (w.heap.size + 3) 59 i0 (.agg #[.int .i64 0, .int .i64 0, .int .i64 0]) 3 24 Try.underlying34 hi0 hz0 hz1 hz2 rfl (by decide) (.slice av kk ac) kk (flatC l) (by rfl) (HOWN.out _ HW1.out.2) (some ⟨BN1, 0, none⟩) 1 1 (flatC [⟨day, rule, num⟩]) (by rfl) ⟨rfl, fun j u hu => ⟨_, rfl, World.news_of_block HN1.out j u hu⟩⟩ (flatC_one _) (by unfold maxLen; omega) (by omega) HW1.out.1.low3 ?_
                  intro v2 X2 hown hgrow hat
                  obtain ⟨a2, c2, rfl⟩ := own_slice hown
                  have HA2 := Lib.hid hown
                  have HM2 := Lib.hid (HW1.out.1.fr (Fr.grown hgrow) (fun q e => own_low HW1.out.2 e))
                  clear hown hgrow hat
                  refine hK.out _ _ (HSB.out _ HM2.out) (fun hS => ?_)
                  clear hK K
                  try simp only [Act.put, List.setIfInBounds_toArray, List.set_cons_zero, List.set_cons_succ]
                  refine wpAnyH_take (i := 9) (oi := ⟨some 47, Op.fieldAddr 36 (Operand.tmp 5) 2, _, _, _, _⟩) (v := .pointer (some ⟨w.heap.size + 1 + 1, 3, none⟩)) rfl (by kernel_rfl) (by kernel_rfl) (by kernel_rfl) (fun _ _ _ h => h) (Or.inl ⟨by rfl, ?_⟩) hS ?_
                  · intro W' hSw; (try dsimp only at hSw); obtain ⟨s0, s1, s2, s3⟩ := hSw; go_simp
                  try simp only [Act.put, List.setIfInBounds_toArray, List.set_cons_zero, List.set_cons_succ]
                  refine wpAnyH_ready (rs := [10]) (by kernel_rfl) (by simp) ?_
                  refine AllReadyH.cons (o := ⟨none, Op.store 34 (Operand.tmp 47) (Operand.tmp 46), _, _, _, _⟩) rfl (fun K hK => ?_) ?_
                  ·
                    have e4 := HM2.out.c23
                    have e5 := HM2.out.f23
                    go_simp
                    have HM3 := Lib.hid (HM2.out.set (.slice a2 (kk + 1) c2))
                    have HA3 := Lib.hid (own_fr HA2.out (Fr.set X2 (w.heap.size + 1 + 1) 3 (.slice a2 (kk + 1) c2)) (fun g _ _ hg _ e => by omega))
                    refine hK.out _ _ (HSB.out _ HM3.out) (fun hS => ?_)
                    clear hK K
                    try simp only [Act.put, List.setIfInBounds_toArray, List.set_cons_zero, List.set_cons_succ]
                    clear e4 e5
                    refine wpAnyH_done (by kernel_rfl) ?_ _
                    go_wp2
                    go_roundw
                    case rel => exact ⟨k + 1, by omega, by go_num, _, by rw [HRS.out]; exact ⟨HM3.out, by rw [flatC_append, List.length_append, HLEN.out]; exact HA3.out⟩⟩
                    case measure => simp [intOf]; omega
                  exact AllReadyH.nil
                exact AllReadyH.nil
              exact AllReadyH.nil
            refine AllReadyH.cons (o := ⟨some 45, Op.buildSlice 34 1 #[(0, Operand.tmp 44)], _, _, _, _⟩) rfl (fun K hK => ?_) ?_
            ·
              go_simp
              have HW4 := Lib.hid (HWD.out.below (below_alloc X (.cells #[.int .i64 day, .int .i64 rule, .int .i64 num] 59)))
              have HN4 : Hid ((X.alloc (.cells #[.int .i64 day, .int .i64 rule, .int .i64 num] 59)).heap[X.heap.size]? = some (.cells #[.int .i64 day, .int .i64 rule, .int .i64 num] 59 (0, 0))) := heap_alloc_new X _
              refine hK.out _ _ (HSB.out _ HW4.out.1) (fun hS => ?_)
              clear hK K
              try simp only [Act.put, List.setIfInBounds_toArray, List.set_cons_zero, List.set_cons_succ]
              generalize X.heap.size = BN4 at *
              generalize X.alloc (.cells #[.int .i64 day, .int .i64 rule, .int .i64 num] 59) = X4 at *
              refine wpAnyH_ready (rs := [1]) (by kernel_rfl) (by simp) ?_
              refine AllReadyH.cons (o := ⟨some 39, Op.load 34 (Operand.tmp 38), _, _, _, _⟩) rfl (fun K hK => ?_) ?_
              ·
                have e4 := HW4.out.1.c23
                go_simp
                clear e4
                refine hK.out _ _ (hS) (fun hS => ?_)
                clear hK K
                try simp only [Act.put, List.setIfInBounds_toArray, List.set_cons_zero, List.set_cons_succ]
                refine wpAnyH_ready (rs := [8]) (by kernel_rfl) (by simp) ?_
                refine AllReadyH.cons (o := ⟨some 46, Op.call { callee := Callee.builtin Builtin.append, args := #[Operand.tmp 39, Operand.tmp 45], argTypes := #[34, 34] }, _, _, _, _⟩) rfl (fun K hK => ?_) ?_
                ·
                  refine step_append_src X4 (by rfl) (.tmp 39) (.tmp 45) 34 (by rfl) (w.heap.size + 3) 59 i0 (.agg #[.int .i64 0, .int .i64 0, .int .i64 0]) 3 24 Try.underlying34 hi0 hz0 hz1 hz2 rfl (by decide) (.slice av kk ac) kk (flatC l) (by rfl) (HOWN.out _ HW4.out.2) (some ⟨BN4, 0, none⟩) 1 1 (flatC [⟨day, rule, num⟩]) (by rfl) ⟨rfl, fun j u hu => ⟨_, rfl, World.news_of_block HN4.out j u hu⟩⟩ (flatC_one _) (by unfold maxLen; omega) (by omega) HW4.out.1.low3 ?_
                  intro v6 X6 hown hgrow hat
                  obtain ⟨a6, c6, rfl⟩ := own_slice hown
                  have HA6 := Lib.hid hown
                  have HM6 := Lib.hid (HW4.out.1.fr (Fr.grown hgrow) (fun q e => own_low HW4.out.2 e))
                  clear hown hgrow hat
                  refine hK.out _ _ (HSB.out _ HM6.out) (fun hS => ?_)
                  clear hK K
                  try simp only [Act.put, List.setIfInBounds_toArray, List.set_cons_zero, List.set_cons_succ]
                  refine wpAnyH_take (i := 9) (oi := ⟨some 47, Op.fieldAddr 36 (Operand.tmp 5) 2, _, _, _, _⟩) (v := .pointer (some ⟨w.heap.size + 1 + 1, 3, none⟩)) rfl (by kernel_rfl) (by kernel_rfl) (by kernel_rfl) (fun _ _ _ h => h) (Or.inl ⟨by rfl, ?_⟩) hS ?_
                  · intro W' hSw; (try dsimp only at hSw); obtain ⟨s0, s1, s2, s3⟩ := hSw; go_simp
                  try simp only [Act.put, List.setIfInBounds_toArray, List.set_cons_zero, List.set_cons_succ]
                  refine wpAnyH_ready (rs := [10]) (by kernel_rfl) (by simp) ?_
                  refine AllReadyH.cons (o := ⟨none, Op.store 34 (Operand.tmp 47) (Operand.tmp 46), _, _, _, _⟩) rfl (fun K hK => ?_) ?_
                  ·
                    have e4 := HM6.out.c23
                    have e5 := HM6.out.f23
                    go_simp
                    have HM7 := Lib.hid (HM6.out.set (.slice a6 (kk + 1) c6))
                    have HA7 := Lib.hid (own_fr HA6.out (Fr.set X6 (w.heap.size + 1 + 1) 3 (.slice a6 (kk + 1) c6)) (fun g _ _ hg _ e => by omega))
                    refine hK.out _ _ (HSB.out _ HM7.out) (fun hS => ?_)
                    clear hK K
                    try simp only [Act.put, List.setIfInBounds_toArray, List.set_cons_zero, List.set_cons_succ]
                    clear e4 e5
                    refine wpAnyH_done (by kernel_rfl) ?_ _
                    go_wp2
                    go_roundw
                    case rel => exact ⟨k + 1, by omega, by go_num, _, by rw [HRS.out]; exact ⟨HM7.out, by rw [flatC_append, List.length_append, HLEN.out]; exact HA7.out⟩⟩
                    case measure => simp [intOf]; omega
                  exact AllReadyH.nil
                exact AllReadyH.nil
              exact AllReadyH.nil
            exact AllReadyH.nil
          · have HRS : Hid (p.kept (fun i => inL z j i) (k + 1) = p.kept (fun i => inL z j i) k) := by unfold Hid; rw [HKS.out, if_pos hin]
            go_wp2_with fail
            go_roundw
            case rel => exact ⟨k + 1, by omega, by go_num, _, by rw [HRS.out]; exact (by have := HWI.out; exact this)⟩
            case measure => simp [intOf]; omega
    · obtain rfl : k = p.nc := by omega
      have hpi := HWI.out.1
      obtain ⟨k0, k1, k2, k3⟩ := cells4 hpi.2.1
      have f0 : wr.frozen? ⟨w.heap.size + 1, 0, none⟩ = false := frozen_of_row _ _ 0 _ _ hpi.2.1
      have f1 : wr.frozen? ⟨w.heap.size + 1, 1, none⟩ = false := frozen_of_row _ _ 1 _ _ hpi.2.1
      have f2 : wr.frozen? ⟨w.heap.size + 1, 2, none⟩ = false := frozen_of_row _ _ 2 _ _ hpi.2.1
      have f3 : wr.frozen? ⟨w.heap.size + 1, 3, none⟩ = false := frozen_of_row _ _ 3 _ _ hpi.2.1
      obtain ⟨_, _, _, _, m0, m1, m2, m3⟩ := hpi.cells
      have HFR : Hid (∀ (a b c d : Value), Fr (fun q => q = w.heap.size + 1) wr ((((wr.setCell ⟨w.heap.size + 1, 0, none⟩ a).setCell ⟨w.heap.size + 1, 1, none⟩ b).setCell ⟨w.heap.size + 1, 2, none⟩ c).setCell ⟨w.heap.size + 1, 3, none⟩ d)) := fun a b c d => (((Fr.set _ _ _ _).trans (Fr.set _ _ _ _)).trans (Fr.set _ _ _ _)).trans (Fr.set _ _ _ _)
      have HXF : Hid (∀ W', Fr (fun q => q = w.heap.size + 1) wr W' → ∃ x : Pers, Hid (PersIn W' (.agg #[.int .i64 p.lo, .int .i64 p.hi, .slice ra p.nr rc, .slice av kk ac]) x) ∧ Hid (x.WithoutOf p (fun j => inL z n j))) := fun W' hf =>
        without_person (HP.out.below (HBW.out.trans (hf.low HBW.out.size (fun q hq e => by omega)))) (own_fr (by rw [HLEN.out]; have := HWI.out.2; rw [HLEN.out] at this; exact this) hf (fun g _ _ hg _ e => by omega))
      clear hpi
      go_wp2
      obtain ⟨x, HX, HXO⟩ := HXF.out _ (HFR.out (.int .i64 p.lo) (.int .i64 p.hi) (.slice ra p.nr rc) (.slice av kk ac))
      refine bodyPost_ret (v := .agg #[.int .i64 p.lo, .int .i64 p.hi, .slice ra p.nr rc, .slice av kk ac]) (by simp [results, Try.results39, go_sem, k0, k1, k2, k3]) rfl ⟨_, x, rfl, HX, HXO, ?_⟩
      exact HBW.out.trans ((HFR.out _ _ _ _).low HBW.out.size (fun q hq e => by omega))
end Go.Proofs.Ytagfcfojfjkmbaa
