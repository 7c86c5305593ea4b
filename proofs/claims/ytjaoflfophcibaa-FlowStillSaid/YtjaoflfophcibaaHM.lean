/- FlowStill: the walk. -/
import Derived.Test.YtjaoflfophcibaaHL
import Derived.Test.YtjaoflfophcibaaGO
namespace Go.Proofs.Ytjaoflfophcibaa
open Go.RowKit Go.Shelf

theorem flat_zero : ∀ n, flatR (fun _ => (0, 0)) n = List.replicate (n * 2) (Value.int .i64 0)
  | 0 => rfl
  | n + 1 => by
    rw [flatR_succ, flat_zero n, show (n + 1) * 2 = n * 2 + 2 by omega]
    exact List.replicate_append_replicate (m := 2)
theorem made_flat (n : Nat) : (madeCells (Value.agg #[.int .i64 0, .int .i64 0]).cells (n * 2)).toList = flatR (fun _ => (0, 0)) n := by
  rw [flat_zero, List.eq_replicate_iff]
  refine ⟨by simp [madeCells], fun b hb => ?_⟩
  simp only [madeCells, Array.toList_map, List.mem_map] at hb
  obtain ⟨k, _, rfl⟩ := hb
  show (#[Value.int .i64 0, Value.int .i64 0] : Array Value)[k % 2]! = _
  have h : k % 2 = 0 ∨ k % 2 = 1 := by omega
  rcases h with h | h <;> rw [h] <;> rfl
/-- Nobody dies, nobody moves. -/
def Tb.still (t : Tb) : Tb := { t with r := fun _ => (0, 0), n := fun _ => (0, 0) }
/-- What FlowStill needs of lives. -/
theorem LvR.still {W : World} {t : Tb} {nw : Nat} {z : Nat → Int} {T1 T2 T3 : Value} (h : LvR W t.still nw z 0 T1 T2 T3) : ∃ (y : Tb) (u : WV), T1 = .agg #[u.cv y, u.bv y, u.rv y, u.nv y] ∧ WLi W u y ∧ y.small ∧ y.fault = 0 ∧ y.agree off0 = true ∧ ∀ c g, c + 1 < y.nc → g + 1 < y.ng - 1 → bndR y off0 (c + 1) (g + 1) = bndR y off0 c g := by
  obtain ⟨u, y, x, sa, sc, rfl, _, _, hw, _, _, hf, hg, _, _, _, hc⟩ := h.ex
  have ht := Okt.of_fault h.ft
  have hl := Liv.of ht hg hc hf
  exact ⟨_, u, rfl, hw, cnted_small ht x nw z 0, hf, hl.agree, fun c g hc hg => still_bnd hl (fun _ _ => rfl) (fun _ _ => rfl) hc hg⟩
set_option maxRecDepth 100000 in
set_option maxHeartbeats 8000000 in
theorem flowStill_walk (u : WV) (t : Tb) (wv : Value) (nw : Nat) (z : Nat → Int) (w : World) (h0 : TbLaw w u t) (hw : WordsIn w wv nw z) (hn : nw ≤ maxLen) :
    Calls Try.prog 10 #[.agg #[u.cv t, u.bv t, u.rv t, u.nv t], wv] w fun e w' => e = .returned (.bool true) ∧ Below w.heap.size w w' := by
  have HTH : Hid (∀ X, Below w.heap.size w X → Calls Try.prog 17 #[.agg #[u.cv t, u.bv t, u.rv t, u.nv t]] X fun e w' => e = .returned (.bool t.thin) ∧ Below X.heap.size X w') := fun X hX => thin_big _ t h0.big X (h0.l.below hX)
  have HFT : Hid (t.small → ∀ X, Below w.heap.size w X → Calls Try.prog 21 #[.agg #[u.cv t, u.bv t, u.rv t, u.nv t]] X fun e w' => e = .returned (.int .i64 t.fault) ∧ Below X.heap.size X w') := fun hsm X hX => lfault_any _ t hsm X (h0.l.below hX)
  have HLV : Hid (∀ X ra rc na nc, Below w.heap.size w X → RsAt X (.slice ra t.nr rc) t.nr (fun _ => (0, 0)) → RsAt X (.slice na t.nn nc) t.nn (fun _ => (0, 0)) → Calls Try.prog 38 #[.agg #[u.cv t, u.bv t, .slice ra t.nr rc, .slice na t.nn nc], wv, .int .u16 0] X fun e w' => ∃ (A B : SV) (T3 : Value) (b : Bool), e = .returned (.tuple #[.agg #[.slice A.p0 A.l0 A.c0, .slice A.p1 A.l1 A.c1, .slice A.p2 A.l2 A.c2, .slice A.p3 A.l3 A.c3], .agg #[.slice B.p0 B.l0 B.c0, .slice B.p1 B.l1 B.c1, .slice B.p2 B.l2 B.c2, .slice B.p3 B.l3 B.c3], T3, .bool b]) ∧ Below X.heap.size X w' ∧ (b = true → LvR w' t.still nw z 0 (.agg #[.slice A.p0 A.l0 A.c0, .slice A.p1 A.l1 A.c1, .slice A.p2 A.l2 A.c2, .slice A.p3 A.l3 A.c3]) (.agg #[.slice B.p0 B.l0 B.c0, .slice B.p1 B.l1 B.c1, .slice B.p2 B.l2 B.c2, .slice B.p3 B.l3 B.c3]) T3)) := fun X ra rc na nc hX hr hn' =>
    lives_any { u with ra := ra, rc := rc, na := na, nc := nc } t.still wv nw z 0 h0.big h0.z X ⟨(h0.l.below hX).1, (h0.l.below hX).2.1, hr.toIn, hn'.toIn⟩ h0.cc h0.cb (hw.below hX) hn (by omega) (by omega)
  have HAW := Lib.hid awake_any
  obtain ⟨i0, hi0, hz0, hz1, hz2⟩ := info_parts Try.infoRangeR
  obtain ⟨wa, wc, rfl⟩ := hw.len
  have HSM : Hid (t.thin = true → t.small) := fun h => Tb.thin_small h h0.z
  clear h0 hw hn
  simp only [WV.cv, WV.bv, WV.rv, WV.nv] at HTH HFT HLV ⊢
  have HA0 : Hid (BF w (w.alloc (.cells #[.slice u.ca t.nc u.cc, .slice u.ba t.nb u.bc, .slice u.ra t.nr u.rc, .slice u.na t.nn u.nc] 25)) [(w.heap.size, #[.slice u.ca t.nc u.cc, .slice u.ba t.nb u.bc, .slice u.ra t.nr u.rc, .slice u.na t.nn u.nc], 25)]) := (BF.base w).alloc _ _
  go_enter Try.func10, Try.ntmps10
  cases hth : t.thin
  · go_wp2_with (first | (go_at_call 17; refine (HTH.out _ HA0.out.fr).mono ?_; rw [hth]; rintro _ w1 ⟨rfl, hb1⟩; have HA1 := Lib.hid (HA0.out.below hb1); clear hb1) | (go_at_call 18; refine (HAW.out _).mono ?_; rintro _ w9 ⟨rfl, hb9⟩; have HB9 := Lib.hid (HA1.out.below hb9).fr; clear hb9))
    go_ret
    exact ⟨rfl, HB9.out⟩
  have hsm := HSM.out hth
  by_cases hf : t.fault = 0
  · have HT := Lib.hid (Okt.of_fault hf)
    have hs4 := hsm.2.2.2.1; have hs5 := hsm.2.2.2.2
    go_wp2_with (first | (go_at_call 17; refine (HTH.out _ HA0.out.fr).mono ?_; rw [hth]; rintro _ w1 ⟨rfl, hb1⟩; have HA1 := Lib.hid (HA0.out.below hb1); clear hb1; have c0 := HA1.out.cell (.head _) 0; have c1 := HA1.out.cell (.head _) 1; have c2 := HA1.out.cell (.head _) 2; have c3 := HA1.out.cell (.head _) 3) | (go_at_call 21; refine (HFT.out hsm _ HA1.out.fr).mono ?_; rw [hf]; rintro _ w2 ⟨rfl, hb2⟩; have HA2 := Lib.hid (HA1.out.below hb2); clear hb2; have d0 := HA2.out.cell (.head _) 0; have d1 := HA2.out.cell (.head _) 1; have d2 := HA2.out.cell (.head _) 2; have d3 := HA2.out.cell (.head _) 3))
    clear c0 d0 c1 d1 c2 d2 c3 d3
    have HA3 := Lib.hid (HA2.out.alloc #[.slice u.ca t.nc u.cc, .slice u.ba t.nb u.bc, .slice u.ra t.nr u.rc, .slice u.na t.nn u.nc] 25)
    have hxb := (HA2.out.lt (.head _)).2
    clear HA0 HA1 HA2 HTH HFT HSM hf hth
    generalize w2.heap.size = xb at *
    generalize (w2.alloc (.cells #[.slice u.ca t.nc u.cc, .slice u.ba t.nb u.bc, .slice u.ra t.nr u.rc, .slice u.na t.nn u.nc] 25)) = w3 at *
    go_cut [] (fun wx => ∃ ra rc na nc', BF w wx [(xb, #[.slice u.ca t.nc u.cc, .slice u.ba t.nb u.bc, .slice ra t.nr rc, .slice na t.nn nc'], 25), (w.heap.size, #[.slice u.ca t.nc u.cc, .slice u.ba t.nb u.bc, .slice u.ra t.nr u.rc, .slice u.na t.nn u.nc], 25)] ∧ RsAt wx (.slice ra t.nr rc) t.nr (fun _ => (0, 0)) ∧ RsAt wx (.slice na t.nn nc') t.nn (fun _ => (0, 0)))
    case first =>
      have HAX := Lib.hid (HA3.out.below (Below.refl _ w3).drew)
      refine wp_region_held_drew (S := fun X => X.cell? ⟨w.heap.size, 2, none⟩ = some (.slice u.ra t.nr u.rc) ∧ X.cell? ⟨w.heap.size, 3, none⟩ = some (.slice u.na t.nn u.nc)) (by kernel_rfl) (⟨HAX.out.cell (.tail _ (.head _)) 2, HAX.out.cell (.tail _ (.head _)) 3⟩) (fun hS => ?_)
      generalize w3.drew = X at *
      refine wpAnyH_take (i := 0) (oi := ⟨some 24, Op.fieldAddr 25 (Operand.tmp 2) 2, _, _, _, _⟩) (v := ?_) rfl (by kernel_rfl) (by kernel_rfl) (by kernel_rfl) (fun _ _ _ h => h) (Or.inl ⟨by rfl, ?_⟩) hS ?_
      rotate_left
      · rintro W' ⟨z0, z1⟩; go_simp; try with_reducible rfl
      try simp only [Act.put, putA, putZ, putS]
      refine wpAnyH_take (i := 1) (oi := ⟨some 25, Op.load 23 (Operand.tmp 24), _, _, _, _⟩) (v := ?_) rfl (by kernel_rfl) (by kernel_rfl) (by kernel_rfl) (fun _ _ _ h => h) (Or.inl ⟨by rfl, ?_⟩) hS ?_
      rotate_left
      · rintro W' ⟨z0, z1⟩; go_simp; try with_reducible rfl
      try simp only [Act.put, putA, putZ, putS]
      refine wpAnyH_take (i := 2) (oi := ⟨some 26, Op.call { callee := Callee.builtin Builtin.len, args := #[Operand.tmp 25], argTypes := #[23] }, _, _, _, _⟩) (v := ?_) rfl (by kernel_rfl) (by kernel_rfl) (by kernel_rfl) (fun _ _ _ h => h) (Or.inl ⟨by rfl, ?_⟩) hS ?_
      rotate_left
      · rintro W' ⟨z0, z1⟩; go_simp; try with_reducible rfl
      try simp only [Act.put, putA, putZ, putS]
      refine wpAnyH_take (i := 4) (oi := ⟨some 28, Op.fieldAddr 25 (Operand.tmp 2) 3, _, _, _, _⟩) (v := ?_) rfl (by kernel_rfl) (by kernel_rfl) (by kernel_rfl) (fun _ _ _ h => h) (Or.inl ⟨by rfl, ?_⟩) hS ?_
      rotate_left
      · rintro W' ⟨z0, z1⟩; go_simp; try with_reducible rfl
      try simp only [Act.put, putA, putZ, putS]
      refine wpAnyH_take (i := 5) (oi := ⟨some 29, Op.load 23 (Operand.tmp 28), _, _, _, _⟩) (v := ?_) rfl (by kernel_rfl) (by kernel_rfl) (by kernel_rfl) (fun _ _ _ h => h) (Or.inl ⟨by rfl, ?_⟩) hS ?_
      rotate_left
      · rintro W' ⟨z0, z1⟩; go_simp; try with_reducible rfl
      try simp only [Act.put, putA, putZ, putS]
      refine wpAnyH_take (i := 6) (oi := ⟨some 30, Op.call { callee := Callee.builtin Builtin.len, args := #[Operand.tmp 29], argTypes := #[23] }, _, _, _, _⟩) (v := ?_) rfl (by kernel_rfl) (by kernel_rfl) (by kernel_rfl) (fun _ _ _ h => h) (Or.inl ⟨by rfl, ?_⟩) hS ?_
      rotate_left
      · rintro W' ⟨z0, z1⟩; go_simp; try with_reducible rfl
      try simp only [Act.put, putA, putZ, putS]
      refine wpAnyH_ready (rs := [3, 7]) (by kernel_rfl) (by simp) ?_
      refine AllReadyH.cons (o := ⟨some 27, Op.makeSlice 23 (Operand.tmp 26) (Operand.tmp 26), _, _, _, _⟩) rfl (fun K hK => ?_) ?_
      ·
        refine step_make_full X (by rfl) (.tmp 26) (.tmp 26) 23 (by rfl) X.heap.size 43 i0 (.agg #[.int .i64 0, .int .i64 0]) 2 Try.underlying23 hi0 hz0 hz1 .i64 .i64 (t.nr : Int) (t.nr : Int) t.nr (by rfl) (by rfl) rfl rfl (by rw [hz2]; omega) (by unfold maxLen; omega) (Nat.le_refl _) ?_
        intro X0 hob0 hg0
        rw [made_flat] at hob0
        have hb0 : Below X.heap.size X X0 := (Fr.grown hg0).low (Nat.le_refl _) (fun k _ e => by cases e)
        have hlx0 := (HAX.out.lt (.head _)).2
        have Hmr0 := Lib.hid (own_mono (base' := xb + 1) hob0 (by omega))
        have HA0 := Lib.hid (HAX.out.below hb0)
        obtain ⟨qmr, hq0⟩ : ∃ q, X.heap.size = q := ⟨_, rfl⟩
        rw [hq0] at Hmr0 ⊢
        clear hob0 hg0 hq0
        refine hK.out _ _ (⟨HA0.out.cell (.tail _ (.head _)) 2, HA0.out.cell (.tail _ (.head _)) 3⟩) (fun hS => ?_)
        clear hK K
        try simp only [Act.put, putA, putZ, putS]
        clear hb0 hlx0
        refine wpAnyH_take (i := 8) (oi := ⟨some 32, Op.fieldAddr 25 (Operand.tmp 5) 2, _, _, _, _⟩) (v := ?_) rfl (by kernel_rfl) (by kernel_rfl) (by kernel_rfl) (fun _ _ _ h => h) (Or.inl ⟨by rfl, ?_⟩) hS ?_
        rotate_left
        · rintro W' ⟨z0, z1⟩; go_simp; try with_reducible rfl
        try simp only [Act.put, putA, putZ, putS]
        refine wpAnyH_ready (rs := [7, 9]) (by kernel_rfl) (by simp) ?_
        refine AllReadyH.cons (o := ⟨some 31, Op.makeSlice 23 (Operand.tmp 30) (Operand.tmp 30), _, _, _, _⟩) rfl (fun K hK => ?_) ?_
        ·
          refine step_make_full X0 (by rfl) (.tmp 30) (.tmp 30) 23 (by rfl) X0.heap.size 43 i0 (.agg #[.int .i64 0, .int .i64 0]) 2 Try.underlying23 hi0 hz0 hz1 .i64 .i64 (t.nn : Int) (t.nn : Int) t.nn (by rfl) (by rfl) rfl rfl (by rw [hz2]; omega) (by unfold maxLen; omega) (Nat.le_refl _) ?_
          intro X1 hob1 hg1
          rw [made_flat] at hob1
          have hb1 : Below X0.heap.size X0 X1 := (Fr.grown hg1).low (Nat.le_refl _) (fun k _ e => by cases e)
          have hlx1 := (HA0.out.lt (.head _)).2
          have Hmr1 : Hid (X1.ownsRow (xb + 1) 43 2 (.slice (some ⟨qmr, 0, none⟩) t.nr t.nr) t.nr (flatR (fun _ => (0, 0)) t.nr)) := own_fr Hmr0.out (Fr.below hb1 (fun _ => False)) (fun _ _ _ _ _ h => h)
          have Hmn1 := Lib.hid (own_mono (base' := xb + 1) hob1 (by omega))
          have HA1 := Lib.hid (HA0.out.below hb1)
          obtain ⟨qmn, hq1⟩ : ∃ q, X0.heap.size = q := ⟨_, rfl⟩
          rw [hq1] at Hmn1 ⊢
          clear hob1 hg1 hq1
          refine hK.out _ _ (⟨HA1.out.cell (.tail _ (.head _)) 2, HA1.out.cell (.tail _ (.head _)) 3⟩) (fun hS => ?_)
          clear hK K
          try simp only [Act.put, putA, putZ, putS]
          clear hb1 hlx1
          refine wpAnyH_ready (rs := [9]) (by kernel_rfl) (by simp) ?_
          refine AllReadyH.cons (o := ⟨none, Op.store 23 (Operand.tmp 32) (Operand.tmp 27), _, _, _, _⟩) rfl (fun K hK => ?_) ?_
          ·
            have e0 := HA1.out.cell (.head _) 2
            have f0 := HA1.out.thaw (.head _) 2
            have hne : w.heap.size ≠ xb := by omega
            have Hmr2 : Hid ((X1.setCell ⟨xb, 2, none⟩ (.slice (some ⟨qmr, 0, none⟩) t.nr t.nr)).ownsRow (xb + 1) 43 2 (.slice (some ⟨qmr, 0, none⟩) t.nr t.nr) t.nr (flatR (fun _ => (0, 0)) t.nr)) := own_fr Hmr1.out (Fr.set X1 xb 2 (.slice (some ⟨qmr, 0, none⟩) t.nr t.nr)) (fun g cur _ hb _ e => by omega)
            have Hmn2 : Hid ((X1.setCell ⟨xb, 2, none⟩ (.slice (some ⟨qmr, 0, none⟩) t.nr t.nr)).ownsRow (xb + 1) 43 2 (.slice (some ⟨qmn, 0, none⟩) t.nn t.nn) t.nn (flatR (fun _ => (0, 0)) t.nn)) := own_fr Hmn1.out (Fr.set X1 xb 2 (.slice (some ⟨qmr, 0, none⟩) t.nr t.nr)) (fun g cur _ hb _ e => by omega)
            have HA2 := Lib.hid (BF.set1 (i := 2) (cs' := #[.slice u.ca t.nc u.cc, .slice u.ba t.nb u.bc, .slice (some ⟨qmr, 0, none⟩) t.nr t.nr, .slice u.na t.nn u.nc]) HA1.out (.head _) (.slice (some ⟨qmr, 0, none⟩) t.nr t.nr) (by simp) rfl (L' := [(w.heap.size, #[.slice u.ca t.nc u.cc, .slice u.ba t.nb u.bc, .slice u.ra t.nr u.rc, .slice u.na t.nn u.nc], 25)]) (List.forall_mem_cons.2 ⟨⟨show w.heap.size ≠ xb by omega, (.tail _ (.head _))⟩, List.forall_mem_nil _⟩))
            go_simp
            refine hK.out _ _ (⟨HA2.out.cell (.tail _ (.head _)) 2, HA2.out.cell (.tail _ (.head _)) 3⟩) (fun hS => ?_)
            clear hK K
            (try simp only [Act.put])
            clear e0 f0 hne
            refine wpAnyH_take (i := 10) (oi := ⟨some 33, Op.fieldAddr 25 (Operand.tmp 5) 3, _, _, _, _⟩) (v := ?_) rfl (by kernel_rfl) (by kernel_rfl) (by kernel_rfl) (fun _ _ _ h => h) (Or.inl ⟨by rfl, ?_⟩) hS ?_
            rotate_left
            · rintro W' ⟨z0, z1⟩; go_simp; try with_reducible rfl
            try simp only [Act.put, putA, putZ, putS]
            refine wpAnyH_ready (rs := [11]) (by kernel_rfl) (by simp) ?_
            refine AllReadyH.cons (o := ⟨none, Op.store 23 (Operand.tmp 33) (Operand.tmp 31), _, _, _, _⟩) rfl (fun K hK => ?_) ?_
            ·
              have e0 := HA2.out.cell (.head _) 3
              have f0 := HA2.out.thaw (.head _) 3
              have hne : w.heap.size ≠ xb := by omega
              have Hmr3 : Hid (((X1.setCell ⟨xb, 2, none⟩ (.slice (some ⟨qmr, 0, none⟩) t.nr t.nr)).setCell ⟨xb, 3, none⟩ (.slice (some ⟨qmn, 0, none⟩) t.nn t.nn)).ownsRow (xb + 1) 43 2 (.slice (some ⟨qmr, 0, none⟩) t.nr t.nr) t.nr (flatR (fun _ => (0, 0)) t.nr)) := own_fr Hmr2.out (Fr.set (X1.setCell ⟨xb, 2, none⟩ (.slice (some ⟨qmr, 0, none⟩) t.nr t.nr)) xb 3 (.slice (some ⟨qmn, 0, none⟩) t.nn t.nn)) (fun g cur _ hb _ e => by omega)
              have Hmn3 : Hid (((X1.setCell ⟨xb, 2, none⟩ (.slice (some ⟨qmr, 0, none⟩) t.nr t.nr)).setCell ⟨xb, 3, none⟩ (.slice (some ⟨qmn, 0, none⟩) t.nn t.nn)).ownsRow (xb + 1) 43 2 (.slice (some ⟨qmn, 0, none⟩) t.nn t.nn) t.nn (flatR (fun _ => (0, 0)) t.nn)) := own_fr Hmn2.out (Fr.set (X1.setCell ⟨xb, 2, none⟩ (.slice (some ⟨qmr, 0, none⟩) t.nr t.nr)) xb 3 (.slice (some ⟨qmn, 0, none⟩) t.nn t.nn)) (fun g cur _ hb _ e => by omega)
              have HA3 := Lib.hid (BF.set1 (i := 3) (cs' := #[.slice u.ca t.nc u.cc, .slice u.ba t.nb u.bc, .slice (some ⟨qmr, 0, none⟩) t.nr t.nr, .slice (some ⟨qmn, 0, none⟩) t.nn t.nn]) HA2.out (.head _) (.slice (some ⟨qmn, 0, none⟩) t.nn t.nn) (by simp) rfl (L' := [(w.heap.size, #[.slice u.ca t.nc u.cc, .slice u.ba t.nb u.bc, .slice u.ra t.nr u.rc, .slice u.na t.nn u.nc], 25)]) (List.forall_mem_cons.2 ⟨⟨show w.heap.size ≠ xb by omega, (.tail _ (.head _))⟩, List.forall_mem_nil _⟩))
              go_simp
              refine hK.out _ _ (⟨HA3.out.cell (.tail _ (.head _)) 2, HA3.out.cell (.tail _ (.head _)) 3⟩) (fun hS => ?_)
              clear hK K
              (try simp only [Act.put])
              clear e0 f0 hne
              refine wpAnyH_done (by kernel_rfl) ?_ _
              go_wp2_with fail
              go_meet
              exact ⟨_, _, _, _, HA3.out, RsAt.ownT Hmr3.out, RsAt.ownT Hmn3.out⟩
            exact AllReadyH.nil
          exact AllReadyH.nil
        refine AllReadyH.cons (o := ⟨none, Op.store 23 (Operand.tmp 32) (Operand.tmp 27), _, _, _, _⟩) rfl (fun K hK => ?_) ?_
        ·
          have e0 := HA0.out.cell (.head _) 2
          have f0 := HA0.out.thaw (.head _) 2
          have hne : w.heap.size ≠ xb := by omega
          have Hmr4 : Hid ((X0.setCell ⟨xb, 2, none⟩ (.slice (some ⟨qmr, 0, none⟩) t.nr t.nr)).ownsRow (xb + 1) 43 2 (.slice (some ⟨qmr, 0, none⟩) t.nr t.nr) t.nr (flatR (fun _ => (0, 0)) t.nr)) := own_fr Hmr0.out (Fr.set X0 xb 2 (.slice (some ⟨qmr, 0, none⟩) t.nr t.nr)) (fun g cur _ hb _ e => by omega)
          have HA4 := Lib.hid (BF.set1 (i := 2) (cs' := #[.slice u.ca t.nc u.cc, .slice u.ba t.nb u.bc, .slice (some ⟨qmr, 0, none⟩) t.nr t.nr, .slice u.na t.nn u.nc]) HA0.out (.head _) (.slice (some ⟨qmr, 0, none⟩) t.nr t.nr) (by simp) rfl (L' := [(w.heap.size, #[.slice u.ca t.nc u.cc, .slice u.ba t.nb u.bc, .slice u.ra t.nr u.rc, .slice u.na t.nn u.nc], 25)]) (List.forall_mem_cons.2 ⟨⟨show w.heap.size ≠ xb by omega, (.tail _ (.head _))⟩, List.forall_mem_nil _⟩))
          go_simp
          refine hK.out _ _ (⟨HA4.out.cell (.tail _ (.head _)) 2, HA4.out.cell (.tail _ (.head _)) 3⟩) (fun hS => ?_)
          clear hK K
          (try simp only [Act.put])
          clear e0 f0 hne
          refine wpAnyH_ready (rs := [7]) (by kernel_rfl) (by simp) ?_
          refine AllReadyH.cons (o := ⟨some 31, Op.makeSlice 23 (Operand.tmp 30) (Operand.tmp 30), _, _, _, _⟩) rfl (fun K hK => ?_) ?_
          ·
            refine step_make_full (X0.setCell ⟨xb, 2, none⟩ (.slice (some ⟨qmr, 0, none⟩) t.nr t.nr)) (by rfl) (.tmp 30) (.tmp 30) 23 (by rfl) (X0.setCell ⟨xb, 2, none⟩ (.slice (some ⟨qmr, 0, none⟩) t.nr t.nr)).heap.size 43 i0 (.agg #[.int .i64 0, .int .i64 0]) 2 Try.underlying23 hi0 hz0 hz1 .i64 .i64 (t.nn : Int) (t.nn : Int) t.nn (by rfl) (by rfl) rfl rfl (by rw [hz2]; omega) (by unfold maxLen; omega) (Nat.le_refl _) ?_
            intro X5 hob5 hg5
            rw [made_flat] at hob5
            have hb5 : Below (X0.setCell ⟨xb, 2, none⟩ (.slice (some ⟨qmr, 0, none⟩) t.nr t.nr)).heap.size (X0.setCell ⟨xb, 2, none⟩ (.slice (some ⟨qmr, 0, none⟩) t.nr t.nr)) X5 := (Fr.grown hg5).low (Nat.le_refl _) (fun k _ e => by cases e)
            have hlx5 := (HA4.out.lt (.head _)).2
            have Hmr5 : Hid (X5.ownsRow (xb + 1) 43 2 (.slice (some ⟨qmr, 0, none⟩) t.nr t.nr) t.nr (flatR (fun _ => (0, 0)) t.nr)) := own_fr Hmr4.out (Fr.below hb5 (fun _ => False)) (fun _ _ _ _ _ h => h)
            have Hmn5 := Lib.hid (own_mono (base' := xb + 1) hob5 (by omega))
            have HA5 := Lib.hid (HA4.out.below hb5)
            obtain ⟨qmn, hq5⟩ : ∃ q, (X0.setCell ⟨xb, 2, none⟩ (.slice (some ⟨qmr, 0, none⟩) t.nr t.nr)).heap.size = q := ⟨_, rfl⟩
            rw [hq5] at Hmn5 ⊢
            clear hob5 hg5 hq5
            refine hK.out _ _ (⟨HA5.out.cell (.tail _ (.head _)) 2, HA5.out.cell (.tail _ (.head _)) 3⟩) (fun hS => ?_)
            clear hK K
            try simp only [Act.put, putA, putZ, putS]
            clear hb5 hlx5
            refine wpAnyH_take (i := 10) (oi := ⟨some 33, Op.fieldAddr 25 (Operand.tmp 5) 3, _, _, _, _⟩) (v := ?_) rfl (by kernel_rfl) (by kernel_rfl) (by kernel_rfl) (fun _ _ _ h => h) (Or.inl ⟨by rfl, ?_⟩) hS ?_
            rotate_left
            · rintro W' ⟨z0, z1⟩; go_simp; try with_reducible rfl
            try simp only [Act.put, putA, putZ, putS]
            refine wpAnyH_ready (rs := [11]) (by kernel_rfl) (by simp) ?_
            refine AllReadyH.cons (o := ⟨none, Op.store 23 (Operand.tmp 33) (Operand.tmp 31), _, _, _, _⟩) rfl (fun K hK => ?_) ?_
            ·
              have e0 := HA5.out.cell (.head _) 3
              have f0 := HA5.out.thaw (.head _) 3
              have hne : w.heap.size ≠ xb := by omega
              have Hmr6 : Hid ((X5.setCell ⟨xb, 3, none⟩ (.slice (some ⟨qmn, 0, none⟩) t.nn t.nn)).ownsRow (xb + 1) 43 2 (.slice (some ⟨qmr, 0, none⟩) t.nr t.nr) t.nr (flatR (fun _ => (0, 0)) t.nr)) := own_fr Hmr5.out (Fr.set X5 xb 3 (.slice (some ⟨qmn, 0, none⟩) t.nn t.nn)) (fun g cur _ hb _ e => by omega)
              have Hmn6 : Hid ((X5.setCell ⟨xb, 3, none⟩ (.slice (some ⟨qmn, 0, none⟩) t.nn t.nn)).ownsRow (xb + 1) 43 2 (.slice (some ⟨qmn, 0, none⟩) t.nn t.nn) t.nn (flatR (fun _ => (0, 0)) t.nn)) := own_fr Hmn5.out (Fr.set X5 xb 3 (.slice (some ⟨qmn, 0, none⟩) t.nn t.nn)) (fun g cur _ hb _ e => by omega)
              have HA6 := Lib.hid (BF.set1 (i := 3) (cs' := #[.slice u.ca t.nc u.cc, .slice u.ba t.nb u.bc, .slice (some ⟨qmr, 0, none⟩) t.nr t.nr, .slice (some ⟨qmn, 0, none⟩) t.nn t.nn]) HA5.out (.head _) (.slice (some ⟨qmn, 0, none⟩) t.nn t.nn) (by simp) rfl (L' := [(w.heap.size, #[.slice u.ca t.nc u.cc, .slice u.ba t.nb u.bc, .slice u.ra t.nr u.rc, .slice u.na t.nn u.nc], 25)]) (List.forall_mem_cons.2 ⟨⟨show w.heap.size ≠ xb by omega, (.tail _ (.head _))⟩, List.forall_mem_nil _⟩))
              go_simp
              refine hK.out _ _ (⟨HA6.out.cell (.tail _ (.head _)) 2, HA6.out.cell (.tail _ (.head _)) 3⟩) (fun hS => ?_)
              clear hK K
              (try simp only [Act.put])
              clear e0 f0 hne
              refine wpAnyH_done (by kernel_rfl) ?_ _
              go_wp2_with fail
              go_meet
              exact ⟨_, _, _, _, HA6.out, RsAt.ownT Hmr6.out, RsAt.ownT Hmn6.out⟩
            exact AllReadyH.nil
          exact AllReadyH.nil
        exact AllReadyH.nil
      refine AllReadyH.cons (o := ⟨some 31, Op.makeSlice 23 (Operand.tmp 30) (Operand.tmp 30), _, _, _, _⟩) rfl (fun K hK => ?_) ?_
      ·
        refine step_make_full X (by rfl) (.tmp 30) (.tmp 30) 23 (by rfl) X.heap.size 43 i0 (.agg #[.int .i64 0, .int .i64 0]) 2 Try.underlying23 hi0 hz0 hz1 .i64 .i64 (t.nn : Int) (t.nn : Int) t.nn (by rfl) (by rfl) rfl rfl (by rw [hz2]; omega) (by unfold maxLen; omega) (Nat.le_refl _) ?_
        intro X7 hob7 hg7
        rw [made_flat] at hob7
        have hb7 : Below X.heap.size X X7 := (Fr.grown hg7).low (Nat.le_refl _) (fun k _ e => by cases e)
        have hlx7 := (HAX.out.lt (.head _)).2
        have Hmn7 := Lib.hid (own_mono (base' := xb + 1) hob7 (by omega))
        have HA7 := Lib.hid (HAX.out.below hb7)
        obtain ⟨qmn, hq7⟩ : ∃ q, X.heap.size = q := ⟨_, rfl⟩
        rw [hq7] at Hmn7 ⊢
        clear hob7 hg7 hq7
        refine hK.out _ _ (⟨HA7.out.cell (.tail _ (.head _)) 2, HA7.out.cell (.tail _ (.head _)) 3⟩) (fun hS => ?_)
        clear hK K
        try simp only [Act.put, putA, putZ, putS]
        clear hb7 hlx7
        refine wpAnyH_ready (rs := [3]) (by kernel_rfl) (by simp) ?_
        refine AllReadyH.cons (o := ⟨some 27, Op.makeSlice 23 (Operand.tmp 26) (Operand.tmp 26), _, _, _, _⟩) rfl (fun K hK => ?_) ?_
        ·
          refine step_make_full X7 (by rfl) (.tmp 26) (.tmp 26) 23 (by rfl) X7.heap.size 43 i0 (.agg #[.int .i64 0, .int .i64 0]) 2 Try.underlying23 hi0 hz0 hz1 .i64 .i64 (t.nr : Int) (t.nr : Int) t.nr (by rfl) (by rfl) rfl rfl (by rw [hz2]; omega) (by unfold maxLen; omega) (Nat.le_refl _) ?_
          intro X8 hob8 hg8
          rw [made_flat] at hob8
          have hb8 : Below X7.heap.size X7 X8 := (Fr.grown hg8).low (Nat.le_refl _) (fun k _ e => by cases e)
          have hlx8 := (HA7.out.lt (.head _)).2
          have Hmn8 : Hid (X8.ownsRow (xb + 1) 43 2 (.slice (some ⟨qmn, 0, none⟩) t.nn t.nn) t.nn (flatR (fun _ => (0, 0)) t.nn)) := own_fr Hmn7.out (Fr.below hb8 (fun _ => False)) (fun _ _ _ _ _ h => h)
          have Hmr8 := Lib.hid (own_mono (base' := xb + 1) hob8 (by omega))
          have HA8 := Lib.hid (HA7.out.below hb8)
          obtain ⟨qmr, hq8⟩ : ∃ q, X7.heap.size = q := ⟨_, rfl⟩
          rw [hq8] at Hmr8 ⊢
          clear hob8 hg8 hq8
          refine hK.out _ _ (⟨HA8.out.cell (.tail _ (.head _)) 2, HA8.out.cell (.tail _ (.head _)) 3⟩) (fun hS => ?_)
          clear hK K
          try simp only [Act.put, putA, putZ, putS]
          clear hb8 hlx8
          refine wpAnyH_take (i := 8) (oi := ⟨some 32, Op.fieldAddr 25 (Operand.tmp 5) 2, _, _, _, _⟩) (v := ?_) rfl (by kernel_rfl) (by kernel_rfl) (by kernel_rfl) (fun _ _ _ h => h) (Or.inl ⟨by rfl, ?_⟩) hS ?_
          rotate_left
          · rintro W' ⟨z0, z1⟩; go_simp; try with_reducible rfl
          try simp only [Act.put, putA, putZ, putS]
          refine wpAnyH_ready (rs := [9]) (by kernel_rfl) (by simp) ?_
          refine AllReadyH.cons (o := ⟨none, Op.store 23 (Operand.tmp 32) (Operand.tmp 27), _, _, _, _⟩) rfl (fun K hK => ?_) ?_
          ·
            have e0 := HA8.out.cell (.head _) 2
            have f0 := HA8.out.thaw (.head _) 2
            have hne : w.heap.size ≠ xb := by omega
            have Hmr9 : Hid ((X8.setCell ⟨xb, 2, none⟩ (.slice (some ⟨qmr, 0, none⟩) t.nr t.nr)).ownsRow (xb + 1) 43 2 (.slice (some ⟨qmr, 0, none⟩) t.nr t.nr) t.nr (flatR (fun _ => (0, 0)) t.nr)) := own_fr Hmr8.out (Fr.set X8 xb 2 (.slice (some ⟨qmr, 0, none⟩) t.nr t.nr)) (fun g cur _ hb _ e => by omega)
            have Hmn9 : Hid ((X8.setCell ⟨xb, 2, none⟩ (.slice (some ⟨qmr, 0, none⟩) t.nr t.nr)).ownsRow (xb + 1) 43 2 (.slice (some ⟨qmn, 0, none⟩) t.nn t.nn) t.nn (flatR (fun _ => (0, 0)) t.nn)) := own_fr Hmn8.out (Fr.set X8 xb 2 (.slice (some ⟨qmr, 0, none⟩) t.nr t.nr)) (fun g cur _ hb _ e => by omega)
            have HA9 := Lib.hid (BF.set1 (i := 2) (cs' := #[.slice u.ca t.nc u.cc, .slice u.ba t.nb u.bc, .slice (some ⟨qmr, 0, none⟩) t.nr t.nr, .slice u.na t.nn u.nc]) HA8.out (.head _) (.slice (some ⟨qmr, 0, none⟩) t.nr t.nr) (by simp) rfl (L' := [(w.heap.size, #[.slice u.ca t.nc u.cc, .slice u.ba t.nb u.bc, .slice u.ra t.nr u.rc, .slice u.na t.nn u.nc], 25)]) (List.forall_mem_cons.2 ⟨⟨show w.heap.size ≠ xb by omega, (.tail _ (.head _))⟩, List.forall_mem_nil _⟩))
            go_simp
            refine hK.out _ _ (⟨HA9.out.cell (.tail _ (.head _)) 2, HA9.out.cell (.tail _ (.head _)) 3⟩) (fun hS => ?_)
            clear hK K
            (try simp only [Act.put])
            clear e0 f0 hne
            refine wpAnyH_take (i := 10) (oi := ⟨some 33, Op.fieldAddr 25 (Operand.tmp 5) 3, _, _, _, _⟩) (v := ?_) rfl (by kernel_rfl) (by kernel_rfl) (by kernel_rfl) (fun _ _ _ h => h) (Or.inl ⟨by rfl, ?_⟩) hS ?_
            rotate_left
            · rintro W' ⟨z0, z1⟩; go_simp; try with_reducible rfl
            try simp only [Act.put, putA, putZ, putS]
            refine wpAnyH_ready (rs := [11]) (by kernel_rfl) (by simp) ?_
            refine AllReadyH.cons (o := ⟨none, Op.store 23 (Operand.tmp 33) (Operand.tmp 31), _, _, _, _⟩) rfl (fun K hK => ?_) ?_
            ·
              have e0 := HA9.out.cell (.head _) 3
              have f0 := HA9.out.thaw (.head _) 3
              have hne : w.heap.size ≠ xb := by omega
              have Hmr10 : Hid (((X8.setCell ⟨xb, 2, none⟩ (.slice (some ⟨qmr, 0, none⟩) t.nr t.nr)).setCell ⟨xb, 3, none⟩ (.slice (some ⟨qmn, 0, none⟩) t.nn t.nn)).ownsRow (xb + 1) 43 2 (.slice (some ⟨qmr, 0, none⟩) t.nr t.nr) t.nr (flatR (fun _ => (0, 0)) t.nr)) := own_fr Hmr9.out (Fr.set (X8.setCell ⟨xb, 2, none⟩ (.slice (some ⟨qmr, 0, none⟩) t.nr t.nr)) xb 3 (.slice (some ⟨qmn, 0, none⟩) t.nn t.nn)) (fun g cur _ hb _ e => by omega)
              have Hmn10 : Hid (((X8.setCell ⟨xb, 2, none⟩ (.slice (some ⟨qmr, 0, none⟩) t.nr t.nr)).setCell ⟨xb, 3, none⟩ (.slice (some ⟨qmn, 0, none⟩) t.nn t.nn)).ownsRow (xb + 1) 43 2 (.slice (some ⟨qmn, 0, none⟩) t.nn t.nn) t.nn (flatR (fun _ => (0, 0)) t.nn)) := own_fr Hmn9.out (Fr.set (X8.setCell ⟨xb, 2, none⟩ (.slice (some ⟨qmr, 0, none⟩) t.nr t.nr)) xb 3 (.slice (some ⟨qmn, 0, none⟩) t.nn t.nn)) (fun g cur _ hb _ e => by omega)
              have HA10 := Lib.hid (BF.set1 (i := 3) (cs' := #[.slice u.ca t.nc u.cc, .slice u.ba t.nb u.bc, .slice (some ⟨qmr, 0, none⟩) t.nr t.nr, .slice (some ⟨qmn, 0, none⟩) t.nn t.nn]) HA9.out (.head _) (.slice (some ⟨qmn, 0, none⟩) t.nn t.nn) (by simp) rfl (L' := [(w.heap.size, #[.slice u.ca t.nc u.cc, .slice u.ba t.nb u.bc, .slice u.ra t.nr u.rc, .slice u.na t.nn u.nc], 25)]) (List.forall_mem_cons.2 ⟨⟨show w.heap.size ≠ xb by omega, (.tail _ (.head _))⟩, List.forall_mem_nil _⟩))
              go_simp
              refine hK.out _ _ (⟨HA10.out.cell (.tail _ (.head _)) 2, HA10.out.cell (.tail _ (.head _)) 3⟩) (fun hS => ?_)
              clear hK K
              (try simp only [Act.put])
              clear e0 f0 hne
              refine wpAnyH_done (by kernel_rfl) ?_ _
              go_wp2_with fail
              go_meet
              exact ⟨_, _, _, _, HA10.out, RsAt.ownT Hmr10.out, RsAt.ownT Hmn10.out⟩
            exact AllReadyH.nil
          exact AllReadyH.nil
        exact AllReadyH.nil
      exact AllReadyH.nil
    rename World => w4
    obtain ⟨ra, rc, na, nc', hbf, hr1, hr2⟩ := hcut
    have HA4 := Lib.hid hbf; have HR1 := Lib.hid hr1; have HR2 := Lib.hid hr2
    clear hbf hr1 hr2 HA3
    have k0 := HA4.out.cell (.head _) 0
    have k1 := HA4.out.cell (.head _) 1
    have k2 := HA4.out.cell (.head _) 2
    have k3 := HA4.out.cell (.head _) 3
    go_wp2_with fail
    refine (HLV.out _ _ _ _ _ HA4.out.fr HR1.out HR2.out).mono ?_
    rintro _ w5 ⟨V1, U1, T3, b, rfl, hb5, hlv⟩
    have HB5 := Lib.hid (HA4.out.below hb5).fr
    have HLR := Lib.hid hlv
    clear hb5 hlv k0 k1 k2 k3 HA4 HR1 HR2 HLV
    cases b
    · go_wp2_with (go_at_call 18; refine (HAW.out _).mono ?_; rintro _ w9 ⟨rfl, hb9⟩; have HB9 := Lib.hid (below_step (HB5.out.trans ((below_step (below_alloc w5 (.cells #[.slice V1.p0 V1.l0 V1.c0, .slice V1.p1 V1.l1 V1.c1, .slice V1.p2 V1.l2 V1.c2, .slice V1.p3 V1.l3 V1.c3] 25)) (below_alloc _ (.cells #[.slice U1.p0 U1.l0 U1.c0, .slice U1.p1 U1.l1 U1.c1, .slice U1.p2 U1.l2 U1.c2, .slice U1.p3 U1.l3 U1.c3] 75))).mono HB5.out.size)) hb9); clear hb9)
      go_ret
      exact ⟨rfl, HB9.out⟩
    obtain ⟨y, v, hv, hwl, hys, hyf, hya, hyb⟩ := (HLR.out rfl).still
    obtain ⟨p0, l0, e0, p1, l1, e1, p2, l2, e2, p3, l3, e3⟩ := V1
    simp only [WV.cv, WV.bv, WV.rv, WV.nv, Value.agg.injEq, Value.slice.injEq, Array.mk.injEq, List.cons.injEq, and_true] at hv
    obtain ⟨⟨rfl, rfl, rfl⟩, ⟨rfl, rfl, rfl⟩, ⟨rfl, rfl, rfl⟩, rfl, rfl, rfl⟩ := hv
    have hok := Okt.of_fault hyf
    have yng2 := hok.ng2; have yng4 := hok.ng4; have ync4 := hok.nc4
    have HA6 : Hid (BF w ((w5.alloc (.cells #[.slice v.ca y.nc v.cc, .slice v.ba y.nb v.bc, .slice v.ra y.nr v.rc, .slice v.na y.nn v.nc] 25)).alloc (.cells #[.slice U1.p0 U1.l0 U1.c0, .slice U1.p1 U1.l1 U1.c1, .slice U1.p2 U1.l2 U1.c2, .slice U1.p3 U1.l3 U1.c3] 75)) [(w5.heap.size, #[.slice v.ca y.nc v.cc, .slice v.ba y.nb v.bc, .slice v.ra y.nr v.rc, .slice v.na y.nn v.nc], 25)]) := ((((BF.base w).below HB5.out).alloc #[.slice v.ca y.nc v.cc, .slice v.ba y.nb v.bc, .slice v.ra y.nr v.rc, .slice v.na y.nn v.nc] 25).below (below_alloc _ _)).sub (List.forall_mem_cons.2 ⟨.head _, List.forall_mem_nil _⟩)
    have hb6 : Below w5.heap.size w5 ((w5.alloc (.cells #[.slice v.ca y.nc v.cc, .slice v.ba y.nb v.bc, .slice v.ra y.nr v.rc, .slice v.na y.nn v.nc] 25)).alloc (.cells #[.slice U1.p0 U1.l0 U1.c0, .slice U1.p1 U1.l1 U1.c1, .slice U1.p2 U1.l2 U1.c2, .slice U1.p3 U1.l3 U1.c3] 75)) := below_step (below_alloc _ _) (below_alloc _ _)
    have HTB : Hid (∀ X, Below w5.heap.size w5 X → Calls Try.prog 20 #[.agg #[v.cv y, v.bv y, v.rv y, v.nv y]] X fun e w' => ∃ v' : WV, e = .returned (.agg #[v'.cv y, v'.bv y, v'.rv y, v'.nv y]) ∧ WL w' v' y ∧ Below X.heap.size X w') := fun X hX => table_any v y hys X (hwl.below hX)
    have HGR : Hid (∀ X, Below w5.heap.size w5 X → Calls Try.prog 23 #[.agg #[v.cv y, v.bv y, v.rv y, v.nv y]] X fun e w' => e = .returned (.int .i64 (y.ng : Nat)) ∧ Below X.heap.size X w') := fun X hX => rgroups_any _ y X (hwl.below hX).tb hys
    have HBD : Hid (∀ (X : World) (v' : WV), WL X v' y → Calls Try.prog 39 #[.agg #[v'.cv y, v'.bv y, v'.rv y, v'.nv y]] X fun e w' => ∃ b, e = .returned (.tuple #[b, .int .i64 0]) ∧ RowsAt w' b y.nc (fun _ => y.ng) (bndR y off0) ∧ Below X.heap.size X w') := fun X v' h => Bounds_ok v' y hys X h hyf hya (fun c g hc hg => agree_ne hya (by omega) c g hc hg)
    simp only [WV.cv, WV.bv, WV.rv, WV.nv] at HTB HGR HBD
    have HYB := Lib.hid hyb
    clear hyb hwl hya hyf hok
    have k0 := HA6.out.cell (.head _) 0
    have k1 := HA6.out.cell (.head _) 1
    have k2 := HA6.out.cell (.head _) 2
    have k3 := HA6.out.cell (.head _) 3
    go_wp2_with fail
    refine (HTB.out _ hb6).mono ?_
    rintro _ w7 ⟨v7, rfl, hl7, hb7⟩
    go_wp2_with fail
    refine (HBD.out _ _ hl7).mono ?_
    rintro _ w8 ⟨bv, rfl, hrows, hb8⟩
    obtain ⟨ba, bc, rfl⟩ := hrows.toIn.slice
    have HB8 := Lib.hid (below_step (below_step hb6 hb7) hb8)
    have HA8 := Lib.hid ((HA6.out.below hb7).below hb8)
    have HRW := Lib.hid hrows
    clear hl7 hb7 hb8 hrows HTB HBD k0 k1 k2 k3 HA6 hb6 HB5 HLR
    have k0 := HA8.out.cell (.head _) 0
    go_wp2_with fail
    clear k0
    go_loopw [12] (fun i wr => ∃ c : Nat, c ≤ y.nc ∧ i = .int .i64 c ∧ Below w8.heap.size w8 wr) (fun i _ => y.nc - (intOf i).toNat)
    case atStart => exact ⟨0, Nat.zero_le _, rfl, Below.refl _ _⟩
    case round =>
      obtain ⟨c, hc, rfl, hbl⟩ := hrel
      have HBL := Lib.hid hbl
      clear hbl
      have ci : (0 : Int) ≤ (c : Int) := by omega
      by_cases hlt : c < y.nc
      · have cj : (c : Int) < (y.nc : Int) := by omega
        obtain ⟨bb, bo, ra1, rc1, rfl, hbb, hx1, hr1⟩ := HRW.out.at (k := c) hlt
        have HR1 := Lib.hid hr1; have HX1 := Lib.hid hx1
        clear hr1 hx1
        go_wp2_with fail
        have HC14 : Hid (∀ X, Below wr.heap.size wr X → X.cell? ⟨bb, bo + c, none⟩ = some (.slice ra1 y.ng rc1) ∧ X.cell? ⟨w5.heap.size, 0, none⟩ = some (.slice v.ca y.nc v.cc) ∧ X.cell? ⟨w5.heap.size, 1, none⟩ = some (.slice v.ba y.nb v.bc) ∧ X.cell? ⟨w5.heap.size, 2, none⟩ = some (.slice v.ra y.nr v.rc) ∧ X.cell? ⟨w5.heap.size, 3, none⟩ = some (.slice v.na y.nn v.nc)) := fun X hX => by
          have h8 := below_step HBL.out hX
          have hA := HA8.out.below h8
          exact ⟨kept h8 hbb HX1.out, hA.cell (.head _) 0, hA.cell (.head _) 1, hA.cell (.head _) 2, hA.cell (.head _) 3⟩
        go_cut [74] (fun s74 wx => s74 = .bool false ∧ Below w8.heap.size w8 wx)
        case first =>
          have HAX : Hid (Below wr.heap.size wr wr.drew) := (Below.refl _ _).drew
          refine wp_region_held_drew (S := fun X => X.cell? ⟨bb, bo + c, none⟩ = some (.slice ra1 y.ng rc1) ∧ X.cell? ⟨w5.heap.size, 0, none⟩ = some (.slice v.ca y.nc v.cc) ∧ X.cell? ⟨w5.heap.size, 1, none⟩ = some (.slice v.ba y.nb v.bc) ∧ X.cell? ⟨w5.heap.size, 2, none⟩ = some (.slice v.ra y.nr v.rc) ∧ X.cell? ⟨w5.heap.size, 3, none⟩ = some (.slice v.na y.nn v.nc)) (by kernel_rfl) (HC14.out _ HAX.out) (fun hS => ?_)
          generalize wr.drew = X at *
          refine wpAnyH_take (i := 0) (oi := ⟨some 67, Op.move (Operand.tmp 10), _, _, _, _⟩) (v := ?_) rfl (by kernel_rfl) (by kernel_rfl) (by kernel_rfl) (fun _ _ _ h => h) (Or.inl ⟨by rfl, ?_⟩) hS ?_
          rotate_left
          · rintro W' ⟨z0, z1, z2, z3, z4⟩; go_simp; try with_reducible rfl
          try simp only [Act.put, putA, putZ, putS]
          refine wpAnyH_take (i := 1) (oi := ⟨some 68, Op.move (Operand.tmp 12), _, _, _, _⟩) (v := ?_) rfl (by kernel_rfl) (by kernel_rfl) (by kernel_rfl) (fun _ _ _ h => h) (Or.inl ⟨by rfl, ?_⟩) hS ?_
          rotate_left
          · rintro W' ⟨z0, z1, z2, z3, z4⟩; go_simp; try with_reducible rfl
          try simp only [Act.put, putA, putZ, putS]
          refine wpAnyH_take (i := 2) (oi := ⟨some 69, Op.indexAddr 33 (Operand.tmp 67) (Operand.tmp 68), _, _, _, _⟩) (v := ?_) rfl (by kernel_rfl) (by kernel_rfl) (by kernel_rfl) (fun _ _ _ h => h) (Or.inl ⟨by rfl, ?_⟩) hS ?_
          rotate_left
          · rintro W' ⟨z0, z1, z2, z3, z4⟩; go_simp; try with_reducible rfl
          try simp only [Act.put, putA, putZ, putS]
          refine wpAnyH_take (i := 3) (oi := ⟨some 70, Op.load 34 (Operand.tmp 69), _, _, _, _⟩) (v := ?_) rfl (by kernel_rfl) (by kernel_rfl) (by kernel_rfl) (fun _ _ _ h => h) (Or.inl ⟨by rfl, ?_⟩) hS ?_
          rotate_left
          · rintro W' ⟨z0, z1, z2, z3, z4⟩; go_simp; try with_reducible rfl
          try simp only [Act.put, putA, putZ, putS]
          refine wpAnyH_take (i := 4) (oi := ⟨some 71, Op.call { callee := Callee.builtin Builtin.len, args := #[Operand.tmp 70], argTypes := #[34] }, _, _, _, _⟩) (v := ?_) rfl (by kernel_rfl) (by kernel_rfl) (by kernel_rfl) (fun _ _ _ h => h) (Or.inl ⟨by rfl, ?_⟩) hS ?_
          rotate_left
          · rintro W' ⟨z0, z1, z2, z3, z4⟩; go_simp; try with_reducible rfl
          try simp only [Act.put, putA, putZ, putS]
          refine wpAnyH_take (i := 5) (oi := ⟨some 72, Op.load 25 (Operand.tmp 6), _, _, _, _⟩) (v := ?_) rfl (by kernel_rfl) (by kernel_rfl) (by kernel_rfl) (fun _ _ _ h => h) (Or.inl ⟨by rfl, ?_⟩) hS ?_
          rotate_left
          · rintro W' ⟨z0, z1, z2, z3, z4⟩; go_simp; try with_reducible rfl
          try simp only [Act.put, putA, putZ, putS]
          refine wpAnyH_ready (rs := [6]) (by kernel_rfl) (by simp) ?_
          refine AllReadyH.cons (o := ⟨some 73, Op.call { callee := Callee.value (Operand.func 23), args := #[Operand.tmp 72], argTypes := #[25] }, _, _, _, _⟩) rfl (fun K hK => ?_) ?_
          ·
            go_simp
            refine (HGR.out _ (below_step (below_step HB8.out HBL.out) HAX.out)).mono ?_
            rintro _ X0 ⟨rfl, hb0⟩
            (try go_wp2_with fail)
            have HA0 := Lib.hid (below_step HAX.out hb0)
            refine hK.out _ _ (HC14.out X0 HA0.out) (fun hS => ?_)
            clear hK K
            try simp only [Act.put, putA, putZ, putS]
            clear hb0
            refine wpAnyH_take (i := 7) (oi := ⟨some 74, Op.binOp BinOp.neq 3 (Operand.tmp 71) (Operand.tmp 73) 3, _, _, _, _⟩) (v := ?_) rfl (by kernel_rfl) (by kernel_rfl) (by kernel_rfl) (fun _ _ _ h => h) (Or.inl ⟨by rfl, ?_⟩) hS ?_
            rotate_left
            · rintro W' ⟨z0, z1, z2, z3, z4⟩; go_simp; try with_reducible rfl
            try simp only [Act.put, putA, putZ, putS]
            refine wpAnyH_done (by kernel_rfl) ?_ _
            go_wp2_with fail
            go_meet
            exact ⟨by simp, below_step HBL.out HA0.out⟩
          exact AllReadyH.nil
        rename World => wx
        obtain ⟨rfl, hbx⟩ := hcut
        have HBX := Lib.hid hbx
        clear hbx HBL HC14
        go_wp2_with fail
        go_loopw [13] (fun i wy => ∃ g : Nat, 1 ≤ g ∧ g ≤ y.ng ∧ i = .int .i64 g ∧ Below w8.heap.size w8 wy) (fun i _ => y.ng - (intOf i).toNat)
        case atStart => exact ⟨1, Nat.le_refl _, by omega, rfl, HBX.out⟩
        case round =>
          clear HBX
          obtain ⟨g, hg1, hg2, rfl, hby⟩ := hrel
          rename World => wy
          have HBY := Lib.hid hby
          clear hby
          have y1 := kept HBY.out hbb HX1.out
          have gi : (0 : Int) ≤ (g : Int) := by omega
          have wg : IntKind.i64.wrap ((y.ng : Int) - 1) = (y.ng : Int) - 1 := IntWalk.i64_in _ (by omega)
          by_cases h1 : g < y.ng - 1
          · have gj : (g : Int) < (y.ng : Int) - 1 := by omega
            have gk : (g : Int) < (y.ng : Int) := by omega
            by_cases h2 : 0 < c
            · obtain ⟨c', hce⟩ : ∃ c', c = c' + 1 := ⟨c - 1, by omega⟩
              obtain ⟨g', hge⟩ : ∃ g', g = g' + 1 := ⟨g - 1, by omega⟩
              have hbe : bndR y off0 c g = bndR y off0 c' g' := by
                have h := HYB.out c' g' (by omega) (by omega)
                rw [hce, hge]; exact h
              obtain ⟨ra2, ro2, rfl, hr2, x2, x2'⟩ := HR1.out.toIn.at (k := g) (by omega)
              obtain ⟨bb', bo', ra3, rc3, hee, hbb3, hx3, hrr3⟩ := HRW.out.at (k := c') (by omega)
              cases hee
              obtain ⟨ra4, ro4, rfl, hr4, x4, x4'⟩ := hrr3.toIn.at (k := g') (by omega)
              obtain ⟨p, q, HPQ⟩ : ∃ p q, Hid (bndR y off0 c g = (p, q)) := ⟨_, _, rfl⟩
              rw [← hbe, HPQ.out] at x4 x4'
              rw [HPQ.out] at x2 x2'
              simp only at x2 x2' x4 x4'
              have wc1 : IntKind.i64.wrap ((c : Int) - 1) = (c' : Int) := by rw [IntWalk.i64_in _ (by omega)]; omega
              have wg1 : IntKind.i64.wrap ((g : Int) - 1) = (g' : Int) := by rw [IntWalk.i64_in _ (by omega)]; omega
              have ci' : (0 : Int) ≤ (c' : Int) := by omega
              have cj' : (c' : Int) < (y.nc : Int) := by omega
              have gi' : (0 : Int) ≤ (g' : Int) := by omega
              have gj' : (g' : Int) < (y.ng : Int) := by omega
              have cpos : (0 : Int) < (c : Int) := by omega
              have hnq : ∀ W, (binOp .neq 29 (.agg #[.int .i64 p, .int .i64 q]) (.agg #[.int .i64 p, .int .i64 q])).run Try.prog W = .ok (.bool false) W := fun W => by rw [neq_range]; simp
              have HC19 : Hid (∀ X, Below w8.heap.size w8 X → X.cell? ⟨bb, bo + c, none⟩ = some (.slice (some ⟨ra2, ro2, none⟩) y.ng rc1) ∧ X.cell? ⟨ra2, ro2 + g * 2, none⟩ = some (.int .i64 p) ∧ X.cell? ⟨ra2, ro2 + g * 2 + 1, none⟩ = some (.int .i64 q) ∧ X.cell? ⟨bb, bo + c', none⟩ = some (.slice (some ⟨ra4, ro4, none⟩) y.ng rc3) ∧ X.cell? ⟨ra4, ro4 + g' * 2, none⟩ = some (.int .i64 p) ∧ X.cell? ⟨ra4, ro4 + g' * 2 + 1, none⟩ = some (.int .i64 q)) := fun X hX => ⟨kept hX hbb HX1.out, kept hX hr2 x2, kept hX hr2 x2', kept hX hbb3 hx3, kept hX hr4 x4, kept hX hr4 x4'⟩
              clear hce hge hbe x2 x2' x4 x4' hx3 hrr3
              go_wp2_with fail
              go_cut [105] (fun s105 wx => s105 = .bool false ∧ Below w8.heap.size w8 wx)
              case first =>
                have HAX : Hid (Below w8.heap.size w8 wy.drew) := HBY.out.drew
                refine wp_region_held_drew (S := fun X => X.cell? ⟨bb, bo + c, none⟩ = some (.slice (some ⟨ra2, ro2, none⟩) y.ng rc1) ∧ X.cell? ⟨ra2, ro2 + g * 2, none⟩ = some (.int .i64 p) ∧ X.cell? ⟨ra2, ro2 + g * 2 + 1, none⟩ = some (.int .i64 q) ∧ X.cell? ⟨bb, bo + c', none⟩ = some (.slice (some ⟨ra4, ro4, none⟩) y.ng rc3) ∧ X.cell? ⟨ra4, ro4 + g' * 2, none⟩ = some (.int .i64 p) ∧ X.cell? ⟨ra4, ro4 + g' * 2 + 1, none⟩ = some (.int .i64 q)) (by kernel_rfl) (HC19.out _ HAX.out) (fun hS => ?_)
                generalize wy.drew = X at *
                refine wpAnyH_take (i := 0) (oi := ⟨some 89, Op.move (Operand.tmp 10), _, _, _, _⟩) (v := ?_) rfl (by kernel_rfl) (by kernel_rfl) (by kernel_rfl) (fun _ _ _ h => h) (Or.inl ⟨by rfl, ?_⟩) hS ?_
                rotate_left
                · rintro W' ⟨z0, z1, z2, z3, z4, z5⟩; go_simp; try with_reducible rfl
                try simp only [Act.put, putA, putZ, putS]
                refine wpAnyH_take (i := 1) (oi := ⟨some 90, Op.move (Operand.tmp 12), _, _, _, _⟩) (v := ?_) rfl (by kernel_rfl) (by kernel_rfl) (by kernel_rfl) (fun _ _ _ h => h) (Or.inl ⟨by rfl, ?_⟩) hS ?_
                rotate_left
                · rintro W' ⟨z0, z1, z2, z3, z4, z5⟩; go_simp; try with_reducible rfl
                try simp only [Act.put, putA, putZ, putS]
                refine wpAnyH_take (i := 2) (oi := ⟨some 91, Op.indexAddr 33 (Operand.tmp 89) (Operand.tmp 90), _, _, _, _⟩) (v := ?_) rfl (by kernel_rfl) (by kernel_rfl) (by kernel_rfl) (fun _ _ _ h => h) (Or.inl ⟨by rfl, ?_⟩) hS ?_
                rotate_left
                · rintro W' ⟨z0, z1, z2, z3, z4, z5⟩; go_simp; try with_reducible rfl
                try simp only [Act.put, putA, putZ, putS]
                refine wpAnyH_take (i := 3) (oi := ⟨some 92, Op.load 34 (Operand.tmp 91), _, _, _, _⟩) (v := ?_) rfl (by kernel_rfl) (by kernel_rfl) (by kernel_rfl) (fun _ _ _ h => h) (Or.inl ⟨by rfl, ?_⟩) hS ?_
                rotate_left
                · rintro W' ⟨z0, z1, z2, z3, z4, z5⟩; go_simp; try with_reducible rfl
                try simp only [Act.put, putA, putZ, putS]
                refine wpAnyH_take (i := 4) (oi := ⟨some 93, Op.move (Operand.tmp 13), _, _, _, _⟩) (v := ?_) rfl (by kernel_rfl) (by kernel_rfl) (by kernel_rfl) (fun _ _ _ h => h) (Or.inl ⟨by rfl, ?_⟩) hS ?_
                rotate_left
                · rintro W' ⟨z0, z1, z2, z3, z4, z5⟩; go_simp; try with_reducible rfl
                try simp only [Act.put, putA, putZ, putS]
                refine wpAnyH_take (i := 5) (oi := ⟨some 94, Op.indexAddr 34 (Operand.tmp 92) (Operand.tmp 93), _, _, _, _⟩) (v := ?_) rfl (by kernel_rfl) (by kernel_rfl) (by kernel_rfl) (fun _ _ _ h => h) (Or.inl ⟨by rfl, ?_⟩) hS ?_
                rotate_left
                · rintro W' ⟨z0, z1, z2, z3, z4, z5⟩; go_simp; try with_reducible rfl
                try simp only [Act.put, putA, putZ, putS]
                refine wpAnyH_take (i := 6) (oi := ⟨some 95, Op.load 29 (Operand.tmp 94), _, _, _, _⟩) (v := ?_) rfl (by kernel_rfl) (by kernel_rfl) (by kernel_rfl) (fun _ _ _ h => h) (Or.inl ⟨by rfl, ?_⟩) hS ?_
                rotate_left
                · rintro W' ⟨z0, z1, z2, z3, z4, z5⟩; go_simp; try with_reducible rfl
                try simp only [Act.put, putA, putZ, putS]
                refine wpAnyH_take (i := 7) (oi := ⟨some 96, Op.move (Operand.tmp 10), _, _, _, _⟩) (v := ?_) rfl (by kernel_rfl) (by kernel_rfl) (by kernel_rfl) (fun _ _ _ h => h) (Or.inl ⟨by rfl, ?_⟩) hS ?_
                rotate_left
                · rintro W' ⟨z0, z1, z2, z3, z4, z5⟩; go_simp; try with_reducible rfl
                try simp only [Act.put, putA, putZ, putS]
                refine wpAnyH_take (i := 8) (oi := ⟨some 97, Op.move (Operand.tmp 12), _, _, _, _⟩) (v := ?_) rfl (by kernel_rfl) (by kernel_rfl) (by kernel_rfl) (fun _ _ _ h => h) (Or.inl ⟨by rfl, ?_⟩) hS ?_
                rotate_left
                · rintro W' ⟨z0, z1, z2, z3, z4, z5⟩; go_simp; try with_reducible rfl
                try simp only [Act.put, putA, putZ, putS]
                refine wpAnyH_take (i := 9) (oi := ⟨some 98, Op.binOp BinOp.sub 3 (Operand.tmp 97) (Operand.const (Value.int IntKind.i64 1)) 3, _, _, _, _⟩) (v := ?_) rfl (by kernel_rfl) (by kernel_rfl) (by kernel_rfl) (fun _ _ _ h => h) (Or.inl ⟨by rfl, ?_⟩) hS ?_
                rotate_left
                · rintro W' ⟨z0, z1, z2, z3, z4, z5⟩; go_simp; try with_reducible rfl
                try simp only [Act.put, putA, putZ, putS]
                refine wpAnyH_take (i := 10) (oi := ⟨some 99, Op.indexAddr 33 (Operand.tmp 96) (Operand.tmp 98), _, _, _, _⟩) (v := ?_) rfl (by kernel_rfl) (by kernel_rfl) (by kernel_rfl) (fun _ _ _ h => h) (Or.inl ⟨by rfl, ?_⟩) hS ?_
                rotate_left
                · rintro W' ⟨z0, z1, z2, z3, z4, z5⟩; go_simp; try with_reducible rfl
                try simp only [Act.put, putA, putZ, putS]
                refine wpAnyH_take (i := 11) (oi := ⟨some 100, Op.load 34 (Operand.tmp 99), _, _, _, _⟩) (v := ?_) rfl (by kernel_rfl) (by kernel_rfl) (by kernel_rfl) (fun _ _ _ h => h) (Or.inl ⟨by rfl, ?_⟩) hS ?_
                rotate_left
                · rintro W' ⟨z0, z1, z2, z3, z4, z5⟩; go_simp; try with_reducible rfl
                try simp only [Act.put, putA, putZ, putS]
                refine wpAnyH_take (i := 12) (oi := ⟨some 101, Op.move (Operand.tmp 13), _, _, _, _⟩) (v := ?_) rfl (by kernel_rfl) (by kernel_rfl) (by kernel_rfl) (fun _ _ _ h => h) (Or.inl ⟨by rfl, ?_⟩) hS ?_
                rotate_left
                · rintro W' ⟨z0, z1, z2, z3, z4, z5⟩; go_simp; try with_reducible rfl
                try simp only [Act.put, putA, putZ, putS]
                refine wpAnyH_take (i := 13) (oi := ⟨some 102, Op.binOp BinOp.sub 3 (Operand.tmp 101) (Operand.const (Value.int IntKind.i64 1)) 3, _, _, _, _⟩) (v := ?_) rfl (by kernel_rfl) (by kernel_rfl) (by kernel_rfl) (fun _ _ _ h => h) (Or.inl ⟨by rfl, ?_⟩) hS ?_
                rotate_left
                · rintro W' ⟨z0, z1, z2, z3, z4, z5⟩; go_simp; try with_reducible rfl
                try simp only [Act.put, putA, putZ, putS]
                refine wpAnyH_take (i := 14) (oi := ⟨some 103, Op.indexAddr 34 (Operand.tmp 100) (Operand.tmp 102), _, _, _, _⟩) (v := ?_) rfl (by kernel_rfl) (by kernel_rfl) (by kernel_rfl) (fun _ _ _ h => h) (Or.inl ⟨by rfl, ?_⟩) hS ?_
                rotate_left
                · rintro W' ⟨z0, z1, z2, z3, z4, z5⟩; go_simp; try with_reducible rfl
                try simp only [Act.put, putA, putZ, putS]
                refine wpAnyH_take (i := 15) (oi := ⟨some 104, Op.load 29 (Operand.tmp 103), _, _, _, _⟩) (v := ?_) rfl (by kernel_rfl) (by kernel_rfl) (by kernel_rfl) (fun _ _ _ h => h) (Or.inl ⟨by rfl, ?_⟩) hS ?_
                rotate_left
                · rintro W' ⟨z0, z1, z2, z3, z4, z5⟩; go_simp; try with_reducible rfl
                try simp only [Act.put, putA, putZ, putS]
                refine wpAnyH_take (i := 16) (oi := ⟨some 105, Op.binOp BinOp.neq 29 (Operand.tmp 95) (Operand.tmp 104) 29, _, _, _, _⟩) (v := .bool false) rfl (by kernel_rfl) (by kernel_rfl) (by kernel_rfl) (fun _ _ _ h => h) (Or.inl ⟨by rfl, ?_⟩) hS ?_
                · rintro W' ⟨z0, z1, z2, z3, z4, z5⟩; go_simp; (try simp [hnq])
                try simp only [Act.put, putA, putZ, putS]
                refine wpAnyH_done (by kernel_rfl) ?_ _
                go_wp2_with fail
                go_meet
                exact ⟨rfl, HAX.out⟩
              rename World => wz
              obtain ⟨rfl, hbz⟩ := hcut
              have HBZ := Lib.hid hbz
              clear hbz
              go_wp2_with fail
              go_roundw
              case rel => exact ⟨g + 1, by omega, by omega, by go_num, HBZ.out⟩
              case measure => simp [intOf]; omega
            · have cpos : ¬ (0 : Int) < (c : Int) := by omega
              go_wp2_with fail
              go_roundw
              case rel => exact ⟨c + 1, by omega, by go_num, HBY.out⟩
              case measure => simp [intOf]; omega
          · have gj : ¬ (g : Int) < (y.ng : Int) - 1 := by omega
            go_wp2_with fail
            go_roundw
            case rel => exact ⟨c + 1, by omega, by go_num, HBY.out⟩
            case measure => simp [intOf]; omega
      · obtain rfl : c = y.nc := by omega
        go_wp2_with (go_at_call 18; refine (HAW.out _).mono ?_; rintro _ w9 ⟨rfl, hb9⟩; have HB9 := Lib.hid (HA8.out.below (below_step HBL.out hb9)).fr; clear hb9)
        go_ret
        exact ⟨rfl, HB9.out⟩
  · have hq : (t.fault != 0) = true := by simp [hf]
    clear HLV
    clear hf
    generalize t.fault = f at *
    go_wp2_with (first | (go_at_call 17; refine (HTH.out _ HA0.out.fr).mono ?_; rw [hth]; rintro _ w1 ⟨rfl, hb1⟩; have HA1 := Lib.hid (HA0.out.below hb1); clear hb1; have c0 := HA1.out.cell (.head _) 0; have c1 := HA1.out.cell (.head _) 1; have c2 := HA1.out.cell (.head _) 2; have c3 := HA1.out.cell (.head _) 3) | (go_at_call 21; refine (HFT.out hsm _ HA1.out.fr).mono ?_; rintro _ w2 ⟨rfl, hb2⟩; have HA2 := Lib.hid (HA1.out.below hb2); clear hb2) | (go_at_call 18; refine (HAW.out _).mono ?_; rintro _ w9 ⟨rfl, hb9⟩; have HB9 := Lib.hid (HA2.out.below hb9).fr; clear hb9))
    go_ret
    exact ⟨rfl, HB9.out⟩
end Go.Proofs.Ytjaoflfophcibaa
