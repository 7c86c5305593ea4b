/- Walk: the law's Map (a copy of a map). Printed by gen_yk.py. -/
import Derived.Test.YtpnkgjkoophckaaWI
namespace Go.Proofs.Ytpnkgjkoophckaa
open Go.RowKit Go.Shelf

theorem Try.infoRangeW : (Try.prog.info? 100).map (fun i => (i.zero, i.size, i.bytes)) = some (some (.agg #[.int .i64 0, .int .i64 0]), 2, 16) := by kernel_rfl
theorem Try.infoRoadW : (Try.prog.info? 120).map (fun i => (i.zero, i.size, i.bytes)) = some (some (.agg #[.int .i64 0, .int .i64 0, .int .i64 0, .int .i64 0]), 4, 32) := by kernel_rfl
theorem Try.infoRangeF : (Try.prog.info? 77).map (fun i => (i.zero, i.size, i.bytes)) = some (some (.agg #[.int .i64 0, .int .i64 0]), 2, 16) := by kernel_rfl
theorem Try.infoRoadF : (Try.prog.info? 79).map (fun i => (i.zero, i.size, i.bytes)) = some (some (.agg #[.int .i64 0, .int .i64 0, .int .i64 0, .int .i64 0]), 4, 32) := by kernel_rfl
set_option maxHeartbeats 1000000 in
theorem to_any (a b : Int) (w : World) : Calls Try.prog 72 #[.agg #[.int .i64 a, .int .i64 b]] w fun e w' => e = .returned (.agg #[.int .i64 a, .int .i64 b]) ∧ Below w.heap.size w w' := by
  obtain ⟨i0, hi0, hz0, hz1, hz2⟩ := info_parts Try.infoRangeF
  obtain ⟨i1, hi1, hy0, hy1, hy2⟩ := info_parts Try.infoRangeW
  go_enter Try.func72, Try.ntmps72
  go_wp2
  exact bodyPost_ret (v := .agg #[.int .i64 a, .int .i64 b]) (by simp [results, Try.results72, go_sem]) rfl ⟨rfl, (below_alloc _ _).alloc (by simp) _⟩
/-- The cells of ranges; of roads. -/
def fR (R : Nat → R2) (n : Nat) : List Value := (List.range n).flatMap fun g => [.int .i64 (R g).1, .int .i64 (R g).2]
theorem fR_succ (R : Nat → R2) (n : Nat) : fR R (n + 1) = fR R n ++ [.int .i64 (R n).1, .int .i64 (R n).2] := by
  unfold fR; rw [List.range_succ, List.flatMap_append]; rfl
theorem fR_length (R : Nat → R2) (n : Nat) : (fR R n).length = n * 2 := by
  induction n with
  | zero => rfl
  | succ n ih => rw [fR_succ, List.length_append, ih]; simp; omega
theorem fR_get (R : Nat → R2) (n k : Nat) (h : k < n) : (fR R n)[k * 2]? = some (.int .i64 (R k).1) ∧ (fR R n)[k * 2 + 1]? = some (.int .i64 (R k).2) := by
  induction n with
  | zero => omega
  | succ n ih =>
    rw [fR_succ]
    have hl := fR_length R n
    rcases Nat.lt_succ_iff_lt_or_eq.1 h with h | rfl
    · rw [List.getElem?_append_left (by omega), List.getElem?_append_left (by omega)]; exact ih h
    · rw [List.getElem?_append_right (by omega), List.getElem?_append_right (by omega), hl]
      simp
def fD (m : Mp) (n : Nat) : List Value := (List.range n).flatMap fun g => [.int .i64 (m.ra g), .int .i64 (m.rb g), .int .i64 (m.rt g).1, .int .i64 (m.rt g).2]
theorem fD_succ (m : Mp) (n : Nat) : fD m (n + 1) = fD m n ++ [.int .i64 (m.ra n), .int .i64 (m.rb n), .int .i64 (m.rt n).1, .int .i64 (m.rt n).2] := by
  unfold fD; rw [List.range_succ, List.flatMap_append]; rfl
theorem fD_length (m : Mp) (n : Nat) : (fD m n).length = n * 4 := by
  induction n with
  | zero => rfl
  | succ n ih => rw [fD_succ, List.length_append, ih]; simp; omega
theorem fD_get (m : Mp) (n k : Nat) (h : k < n) : (fD m n)[k * 4]? = some (.int .i64 (m.ra k)) ∧ (fD m n)[k * 4 + 1]? = some (.int .i64 (m.rb k)) ∧ (fD m n)[k * 4 + 2]? = some (.int .i64 (m.rt k).1) ∧ (fD m n)[k * 4 + 3]? = some (.int .i64 (m.rt k).2) := by
  induction n with
  | zero => omega
  | succ n ih =>
    rw [fD_succ]
    have hl := fD_length m n
    rcases Nat.lt_succ_iff_lt_or_eq.1 h with h | rfl
    · rw [List.getElem?_append_left (by omega), List.getElem?_append_left (by omega), List.getElem?_append_left (by omega), List.getElem?_append_left (by omega)]; exact ih h
    · rw [List.getElem?_append_right (by omega), List.getElem?_append_right (by omega), List.getElem?_append_right (by omega), List.getElem?_append_right (by omega), hl]
      simp
theorem RsIn.own {W : World} {base : Nat} {T : TypeId} {v : Value} {n : Nat} {R : Nat → R2} (h : W.ownsRow base T 2 v n (fR R n)) : RsIn W v n R := by
  rcases h.2 with ⟨rfl, rfl⟩ | ⟨g, cap, cur, rfl, _, hg, _⟩
  · exact .inl ⟨none, 0, rfl, rfl⟩
  · refine .inr ⟨g, 0, cap, rfl, (Array.getElem?_eq_some_iff.1 hg).1, fun j hj => ?_⟩
    obtain ⟨h0, h1⟩ := fR_get R n j hj
    rw [Nat.zero_add]
    exact ⟨(h.cellAt _ (by omega)).trans h0, (h.cellAt _ (by omega)).trans h1⟩
theorem RdIn.own {W : World} {base : Nat} {T : TypeId} {v : Value} {n : Nat} {m : Mp} (h : W.ownsRow base T 4 v n (fD m n)) : RdIn W v n m := by
  rcases h.2 with ⟨rfl, rfl⟩ | ⟨g, cap, cur, rfl, _, hg, _⟩
  · exact .inl ⟨none, 0, rfl, rfl⟩
  · refine .inr ⟨g, 0, cap, rfl, (Array.getElem?_eq_some_iff.1 hg).1, fun j hj => ?_⟩
    obtain ⟨h0, h1, h2, h3⟩ := fD_get m n j hj
    rw [Nat.zero_add]
    exact ⟨(h.cellAt _ (by omega)).trans h0, (h.cellAt _ (by omega)).trans h1, (h.cellAt _ (by omega)).trans h2, (h.cellAt _ (by omega)).trans h3⟩
set_option maxRecDepth 100000 in
set_option maxHeartbeats 8000000 in
theorem mapC_any (x : MV) (m : Mp) (w : World) (h : MpIn w x m) (hnw : m.nw ≤ 100000) (hnr : m.nr ≤ 100000) :
    Calls Try.prog 21 #[.agg #[.slice x.wa m.nw x.wc, .slice x.ra m.nr x.rc]] w fun e w' => ∃ z : MV, e = .returned (.agg #[.slice z.wa m.nw z.wc, .slice z.ra m.nr z.rc]) ∧ MpIn w' z m ∧ Below w.heap.size w w' := by
  obtain ⟨i0, hi0, hiz0, hiz1, hiz2⟩ := info_parts Try.infoRangeW
  obtain ⟨j0, hj0, hjz0, hjz1, hjz2⟩ := info_parts Try.infoRoadW
  obtain ⟨pa, pc, qa, qc⟩ := x
  obtain ⟨hwk, hrd⟩ := h
  have HWK := Lib.hid hwk; have HRD := Lib.hid hrd
  clear hwk hrd
  simp only at *
  have HEND : Hid (∀ (Y : World) (va : Option Addr) (vc : Nat) (sa : Option Addr) (sc : Nat), Rws w.heap.size Y [⟨100, 2, .slice va m.nw vc, m.nw, fR m.wk m.nw⟩, ⟨120, 4, .slice sa m.nr sc, m.nr, fD m m.nr⟩] → MpIn Y ⟨va, vc, sa, sc⟩ m) := fun Y va vc sa sc h => ⟨RsIn.own (h.own 0 _ rfl), RdIn.own (h.own 1 _ rfl)⟩
  obtain ⟨nw, HNW⟩ : ∃ nw, Hid (m.nw = nw) := ⟨_, rfl⟩
  obtain ⟨nr, HNR⟩ : ∃ nr, Hid (m.nr = nr) := ⟨_, rfl⟩
  rw [HNW.out, HNR.out] at HEND
  rw [HNW.out] at HWK hnw ⊢
  rw [HNR.out] at HRD hnr ⊢
  clear HNW HNR
  have HA0 : Hid (BF w (((w.alloc (.cells #[.slice pa nw pc, .slice qa nr qc] 25)).alloc (.cells #[.slice none 0 0, .slice none 0 0] 37)).alloc (.cells #[.slice none 0 0, .slice none 0 0] 37)) [(w.heap.size, #[.slice pa nw pc, .slice qa nr qc], 25), (w.heap.size + 1, #[.slice none 0 0, .slice none 0 0], 37), (w.heap.size + 2, #[.slice none 0 0, .slice none 0 0], 37)]) := BF.made3 _ _ _ _ _ _ _
  have HR0 : Hid (Rws w.heap.size (((w.alloc (.cells #[.slice pa nw pc, .slice qa nr qc] 25)).alloc (.cells #[.slice none 0 0, .slice none 0 0] 37)).alloc (.cells #[.slice none 0 0, .slice none 0 0] 37)) [⟨100, 2, .slice none 0 0, 0, fR m.wk 0⟩, ⟨120, 4, .slice none 0 0, 0, fD m 0⟩]) := by
    refine ⟨fun i p hp => ?_, fun i j p q _ hp _ k e => ?_⟩
    · match i, hp with
      | 0, hp => cases hp; exact World.ownsRow_nil _ _ _ _
      | 1, hp => cases hp; exact World.ownsRow_nil _ _ _ _
    · match i, hp with
      | 0, hp => cases hp; cases e
      | 1, hp => cases hp; cases e
  go_enter Try.func21, Try.ntmps21
  go_wp2_with fail
  generalize (((w.alloc (.cells #[.slice pa nw pc, .slice qa nr qc] 25)).alloc (.cells #[.slice none 0 0, .slice none 0 0] 37)).alloc (.cells #[.slice none 0 0, .slice none 0 0] 37)) = w0 at *
  go_loopw [4] (fun i wr => ∃ k va vc, i = .int .i64 (k : Nat) ∧ k ≤ nw ∧ BF w wr [(w.heap.size, #[.slice pa nw pc, .slice qa nr qc], 25), (w.heap.size + 1, #[.slice none 0 0, .slice none 0 0], 37), (w.heap.size + 2, #[.slice va k vc, .slice none 0 0], 37)] ∧ Rws w.heap.size wr [⟨100, 2, .slice va k vc, k, fR m.wk k⟩, ⟨120, 4, .slice none 0 0, 0, fD m 0⟩]) (fun i _ => nw - (intOf i).toNat)
  case atStart => exact ⟨0, none, 0, rfl, Nat.zero_le _, HA0.out, HR0.out⟩
  case round =>
    clear HA0 HR0
    obtain ⟨k, va, vc, rfl, hk, hbf, hrw⟩ := hrel
    have HA0 := Lib.hid hbf; have HR0 := Lib.hid hrw
    clear hbf hrw
    have c0 := HA0.out.cell (.head _) 0; have c1 := HA0.out.cell (.head _) 1
    by_cases hlt : k < nw
    · obtain ⟨b, off, rfl, hb, x0, x1⟩ := HWK.out.at (k := k) hlt
      have HIL : Hid (fR m.wk (k + 1) = fR m.wk k ++ [.int .i64 (m.wk k).1, .int .i64 (m.wk k).2]) := fR_succ _ _
      have ki : (0 : Int) ≤ (k : Int) := by omega
      have kj : (k : Int) < (nw : Int) := by omega
      generalize (m.wk k).1 = lo at *
      generalize (m.wk k).2 = hi at *
      go_upto_region 5 with fail
      have hsz := HA0.out.fr.size
      have hlO := (HA0.out.lt (.tail _ (.tail _ (.head _)))).2
      have hlR := (HA0.out.lt (.tail _ (.head _))).2
      have hlM := (HA0.out.lt (.head _)).2
      have HAX : Hid (BF w wr.drew [(w.heap.size, #[.slice (some ⟨b, off, none⟩) nw pc, .slice qa nr qc], 25), (w.heap.size + 1, #[.slice none 0 0, .slice none 0 0], 37), (w.heap.size + 2, #[.slice va k vc, .slice none 0 0], 37)]) := HA0.out.below (Below.refl _ _).drew
      have HRX : Hid (Rws w.heap.size wr.drew [⟨100, 2, .slice va k vc, k, fR m.wk k⟩, ⟨120, 4, .slice none 0 0, 0, fD m 0⟩]) := HR0.out.below (Below.refl _ _).drew
      clear c0 c1 HA0 HR0
      refine wp_region_Z (S := fun X => X.cell? ⟨b, off + k * 2, none⟩ = some (.int .i64 lo) ∧ X.cell? ⟨b, off + k * 2 + 1, none⟩ = some (.int .i64 hi) ∧ X.cell? ⟨w.heap.size, 0, none⟩ = some (.slice (some ⟨b, off, none⟩) nw pc) ∧ X.cell? ⟨w.heap.size + 2, 0, none⟩ = some (.slice va k vc)) (by kernel_rfl) (⟨kept HAX.out.fr hb x0, kept HAX.out.fr hb x1, HAX.out.cell (.head _) 0, HAX.out.cell (.tail _ (.tail _ (.head _))) 0⟩) (fun hS => ?_)
      generalize wr.drew = X at *
      refine tk [0, 1, 2, 3, 4, 5, 6] ?_
      repeat (refine tkZ (oi := ⟨_, _, _, _, _, _⟩) (v := ?_) rfl (by kernel_rfl) (by rfl) (fun _ _ _ h => h) hS ?_ ?_; rotate_left; (· rintro W' ⟨z0, z1, z2, z3⟩; go_simp; try with_reducible rfl); try simp only [Act.put, putA, putZ, putS])
      refine tk0 ?_
      refine wpAnyZ_next (rs := [7]) (by kernel_rfl) (by simp) ?_
      refine NextZ.cons (o := ⟨some 21, _, _, _, _, _⟩) rfl (fun K hK => ?_) NextZ.nil
      go_simp
      refine (to_any _ _ _).mono ?_
      rintro _ X0 ⟨rfl, hb0⟩
      (try go_wp2_with fail)
      have HA0 := Lib.hid (HAX.out.below hb0)
      have HR0 := Lib.hid (HRX.out.below hb0)
      refine hK.out _ _ (⟨kept HA0.out.fr hb x0, kept HA0.out.fr hb x1, HA0.out.cell (.head _) 0, HA0.out.cell (.tail _ (.tail _ (.head _))) 0⟩) (fun hS => ?_)
      clear hK K
      try simp only [Act.put, putA, putZ, putS]
      clear hb0
      refine wpAnyZ_next (rs := [8]) (by kernel_rfl) (by simp) ?_
      refine NextZ.cons (o := ⟨some 22, _, _, _, _, _⟩) rfl (fun K hK => ?_) NextZ.nil
      go_simp
      have HA1 := Lib.hid (HA0.out.below (below_alloc X0 (.cells #[.int .i64 lo, .int .i64 hi] 100)))
      have HR1 := Lib.hid (HR0.out.below (below_alloc X0 (.cells #[.int .i64 lo, .int .i64 hi] 100)))
      have HJ : Hid ((X0.alloc (.cells #[.int .i64 lo, .int .i64 hi] 100)).heap[X0.heap.size]? = some (.cells #[.int .i64 lo, .int .i64 hi] 100 (0, 0))) := heap_alloc_new _ _
      refine hK.out _ _ (⟨kept HA1.out.fr hb x0, kept HA1.out.fr hb x1, HA1.out.cell (.head _) 0, HA1.out.cell (.tail _ (.tail _ (.head _))) 0⟩) (fun hS => ?_)
      clear hK K
      try simp only [Act.put, putA, putZ, putS]
      generalize X0.heap.size = J at *
      generalize (X0.alloc (.cells #[.int .i64 lo, .int .i64 hi] 100)) = X1 at *
      refine wpAnyZ_next (rs := [9]) (by kernel_rfl) (by simp) ?_
      refine NextZ.cons (o := ⟨some 23, _, _, _, _, _⟩) rfl (fun K hK => ?_) NextZ.nil
      refine step_append_src X1 (by rfl) (.tmp 15) (.tmp 22) 34 (by rfl) w.heap.size 100 i0 (.agg #[.int .i64 0, .int .i64 0]) 2 16 Try.underlying34 hi0 hiz0 hiz1 hiz2 rfl (by decide) (.slice va k vc) k (fR m.wk k) (by rfl) (HR1.out.own 0 _ rfl) (some ⟨J, 0, none⟩) 1 1 [.int .i64 lo, .int .i64 hi] (by rfl) ⟨rfl, fun j u hu => ⟨_, rfl, World.news_of_block HJ.out j u hu⟩⟩ (by simp [Value.oneCell']) (by unfold maxLen; omega) (by omega) HA1.out.fr.size ?_
      intro v2 X2 hown hgr hl
      rw [← HIL.out] at hown
      obtain ⟨na, nc, rfl⟩ := own_slice' hown
      have HA2 := Lib.hid (BF.grow HA1.out HR1.out (i := 0) rfl (List.forall_mem_cons.2 ⟨(show 25 ≠ 100 by decide), List.forall_mem_cons.2 ⟨(show 37 ≠ 100 by decide), List.forall_mem_cons.2 ⟨(show 37 ≠ 100 by decide), List.forall_mem_nil _⟩⟩⟩) (Nat.le_refl _) hgr)
      have HR2 : Hid (Rws w.heap.size X2 [⟨100, 2, .slice na (k + 1) nc, (k + 1), fR m.wk ((k + 1))⟩, ⟨120, 4, .slice none 0 0, 0, fD m 0⟩]) := HR1.out.app2 (i := 0) rfl hown hgr hl
      clear hown hgr hl
      refine hK.out _ _ (⟨kept HA2.out.fr hb x0, kept HA2.out.fr hb x1, HA2.out.cell (.head _) 0, HA2.out.cell (.tail _ (.tail _ (.head _))) 0⟩) (fun hS => ?_)
      clear hK K
      try simp only [Act.put, putA, putZ, putS]
      refine tZ 10 (oi := ⟨_, _, _, _, _, _⟩) (v := ?_) rfl (by kernel_rfl) (by rfl) (fun _ _ _ h => h) hS ?_ ?_
      rotate_left
      · rintro W' ⟨z0, z1, z2, z3⟩; go_simp; try with_reducible rfl
      try simp only [Act.put, putA, putZ, putS]
      refine wpAnyZ_next (rs := [11]) (by kernel_rfl) (by simp) ?_
      refine NextZ.last (o := ⟨none, _, _, _, _, _⟩) rfl (by kernel_rfl) (fun K hK => ?_)
      have e0 := HA2.out.cell (.tail _ (.tail _ (.head _))) 0
      have f0 := HA2.out.thaw (.tail _ (.tail _ (.head _))) 0
      have HA3 := Lib.hid (BF.set1 (i := 0) (cs' := #[.slice na (k + 1) nc, .slice none 0 0]) HA2.out (.tail _ (.tail _ (.head _))) (.slice na (k + 1) nc) (by simp) rfl (L' := [(w.heap.size, #[.slice (some ⟨b, off, none⟩) nw pc, .slice qa nr qc], 25), (w.heap.size + 1, #[.slice none 0 0, .slice none 0 0], 37)]) (List.forall_mem_cons.2 ⟨⟨show w.heap.size ≠ w.heap.size + 2 by omega, (.head _)⟩, List.forall_mem_cons.2 ⟨⟨show w.heap.size + 1 ≠ w.heap.size + 2 by omega, (.tail _ (.head _))⟩, List.forall_mem_nil _⟩⟩))
      have HR3 := Lib.hid (HR2.out.tab (HA2.out.bk _ _ _ (.tail _ (.tail _ (.head _)))).2 (List.forall_mem_cons.2 ⟨(show 37 ≠ 100 by decide), List.forall_mem_cons.2 ⟨(show 37 ≠ 120 by decide), List.forall_mem_nil _⟩⟩) (Fr.set X2 (w.heap.size + 2) 0 (.slice na (k + 1) nc)))
      go_simp
      refine hK.out _ _ ?_
      clear hK K
      (try simp only [Act.put])
      clear e0 f0
      refine wpAnyZ_done (by kernel_rfl) ?_ _
      go_wp2_with fail
      go_roundw
      case rel => exact ⟨k + 1, na, nc, by go_num, by omega, HA3.out.sub (List.forall_mem_cons.2 ⟨(.tail _ (.head _)), List.forall_mem_cons.2 ⟨(.tail _ (.tail _ (.head _))), List.forall_mem_cons.2 ⟨(.head _), List.forall_mem_nil _⟩⟩⟩), HR3.out⟩
      case measure => simp [intOf]; omega
    · have hkn : nw = k := by omega
      subst hkn
      go_wp2_with fail
      go_loopw [5] (fun i wr => ∃ k sa sc, i = .int .i64 (k : Nat) ∧ k ≤ nr ∧ BF w wr [(w.heap.size, #[.slice pa nw pc, .slice qa nr qc], 25), (w.heap.size + 1, #[.slice none 0 0, .slice none 0 0], 37), (w.heap.size + 2, #[.slice va nw vc, .slice sa k sc], 37)] ∧ Rws w.heap.size wr [⟨100, 2, .slice va nw vc, nw, fR m.wk nw⟩, ⟨120, 4, .slice sa k sc, k, fD m k⟩]) (fun i _ => nr - (intOf i).toNat)
      case atStart => exact ⟨0, none, 0, rfl, Nat.zero_le _, HA0.out, HR0.out⟩
      case round =>
        clear HA0 HR0 c0 c1
        obtain ⟨k, sa, sc, rfl, hk2, hbf, hrw⟩ := hrel
        rename World => wy
        have HA0 := Lib.hid hbf; have HR0 := Lib.hid hrw
        clear hbf hrw
        have c0 := HA0.out.cell (.head _) 0; have c1 := HA0.out.cell (.head _) 1
        by_cases hlt2 : k < nr
        · obtain ⟨b, off, rfl, hb, x0, x1, x2, x3⟩ := HRD.out.at (k := k) hlt2
          have y0 := kept HA0.out.fr hb x0
          have y1 := kept HA0.out.fr hb x1
          have y2 := kept HA0.out.fr hb x2
          have y3 := kept HA0.out.fr hb x3
          have HIL : Hid (fD m (k + 1) = fD m k ++ [.int .i64 (m.ra k), .int .i64 (m.rb k), .int .i64 (m.rt k).1, .int .i64 (m.rt k).2]) := fD_succ _ _
          have ki : (0 : Int) ≤ (k : Int) := by omega
          have kj : (k : Int) < (nr : Int) := by omega
          generalize m.ra k = za at *
          generalize m.rb k = zb at *
          generalize (m.rt k).1 = lo at *
          generalize (m.rt k).2 = hi at *
          go_upto_region 10 with fail
          have HA1 := Lib.hid (HA0.out.alloc #[.int .i64 za, .int .i64 zb, .int .i64 lo, .int .i64 hi] 79)
          have HR1 := Lib.hid (HR0.out.below (below_alloc wy (.cells #[.int .i64 za, .int .i64 zb, .int .i64 lo, .int .i64 hi] 79)))
          have hsz := HA0.out.fr.size
          have hlO := (HA0.out.lt (.tail _ (.tail _ (.head _)))).2
          have hlR := (HA0.out.lt (.tail _ (.head _))).2
          have hlM := (HA0.out.lt (.head _)).2
          obtain ⟨RB, hRB⟩ : ∃ RB, wy.heap.size = RB := ⟨_, rfl⟩
          have HAX : Hid (BF w (wy.alloc (.cells #[.int .i64 za, .int .i64 zb, .int .i64 lo, .int .i64 hi] 79)).drew [(RB, #[.int .i64 za, .int .i64 zb, .int .i64 lo, .int .i64 hi], 79), (w.heap.size, #[.slice pa nw pc, .slice (some ⟨b, off, none⟩) nr qc], 25), (w.heap.size + 1, #[.slice none 0 0, .slice none 0 0], 37), (w.heap.size + 2, #[.slice va nw vc, .slice sa k sc], 37)]) := by rw [← hRB]; exact HA1.out.below (Below.refl _ _).drew
          have HRX : Hid (Rws w.heap.size (wy.alloc (.cells #[.int .i64 za, .int .i64 zb, .int .i64 lo, .int .i64 hi] 79)).drew [⟨100, 2, .slice va nw vc, nw, fR m.wk nw⟩, ⟨120, 4, .slice sa k sc, k, fD m k⟩]) := HR1.out.below (Below.refl _ _).drew
          rw [hRB] at hlO hlR hlM ⊢
          clear y0 y1 y2 y3 x0 x1 x2 x3 c0 c1 HA0 HA1 HR0 HR1 hRB hb
          refine wp_region_Z (S := fun X => X.cell? ⟨RB, 0, none⟩ = some (.int .i64 za) ∧ X.cell? ⟨RB, 1, none⟩ = some (.int .i64 zb) ∧ X.cell? ⟨RB, 2, none⟩ = some (.int .i64 lo) ∧ X.cell? ⟨RB, 3, none⟩ = some (.int .i64 hi) ∧ X.cell? ⟨w.heap.size + 2, 1, none⟩ = some (.slice sa k sc)) (by kernel_rfl) (⟨HAX.out.cell (.head _) 0, HAX.out.cell (.head _) 1, HAX.out.cell (.head _) 2, HAX.out.cell (.head _) 3, HAX.out.cell (.tail _ (.tail _ (.tail _ (.head _)))) 1⟩) (fun hS => ?_)
          generalize (wy.alloc (.cells #[.int .i64 za, .int .i64 zb, .int .i64 lo, .int .i64 hi] 79)).drew = X at *
          refine tk [0, 1, 2, 3, 4, 5, 6, 7] ?_
          repeat (refine tkZ (oi := ⟨_, _, _, _, _, _⟩) (v := ?_) rfl (by kernel_rfl) (by rfl) (fun _ _ _ h => h) hS ?_ ?_; rotate_left; (· rintro W' ⟨z0, z1, z2, z3, z4⟩; go_simp; try with_reducible rfl); try simp only [Act.put, putA, putZ, putS])
          refine tk0 ?_
          refine wpAnyZ_next (rs := [8]) (by kernel_rfl) (by simp) ?_
          refine NextZ.cons (o := ⟨some 45, _, _, _, _, _⟩) rfl (fun K hK => ?_) NextZ.nil
          go_simp
          refine (to_any _ _ _).mono ?_
          rintro _ X0 ⟨rfl, hb0⟩
          (try go_wp2_with fail)
          have HA0 := Lib.hid (HAX.out.below hb0)
          have HR0 := Lib.hid (HRX.out.below hb0)
          refine hK.out _ _ (⟨HA0.out.cell (.head _) 0, HA0.out.cell (.head _) 1, HA0.out.cell (.head _) 2, HA0.out.cell (.head _) 3, HA0.out.cell (.tail _ (.tail _ (.tail _ (.head _)))) 1⟩) (fun hS => ?_)
          clear hK K
          try simp only [Act.put, putA, putZ, putS]
          clear hb0
          refine tZ 9 (oi := ⟨_, _, _, _, _, _⟩) (v := ?_) rfl (by kernel_rfl) (by rfl) (fun _ _ _ h => h) hS ?_ ?_
          rotate_left
          · rintro W' ⟨z0, z1, z2, z3, z4⟩; go_simp; try with_reducible rfl
          try simp only [Act.put, putA, putZ, putS]
          refine wpAnyZ_next (rs := [10]) (by kernel_rfl) (by simp) ?_
          refine NextZ.cons (o := ⟨some 47, _, _, _, _, _⟩) rfl (fun K hK => ?_) NextZ.nil
          go_simp
          have HA1 := Lib.hid (HA0.out.below (below_alloc X0 (.cells #[.int .i64 za, .int .i64 zb, .int .i64 lo, .int .i64 hi] 120)))
          have HR1 := Lib.hid (HR0.out.below (below_alloc X0 (.cells #[.int .i64 za, .int .i64 zb, .int .i64 lo, .int .i64 hi] 120)))
          have HJ : Hid ((X0.alloc (.cells #[.int .i64 za, .int .i64 zb, .int .i64 lo, .int .i64 hi] 120)).heap[X0.heap.size]? = some (.cells #[.int .i64 za, .int .i64 zb, .int .i64 lo, .int .i64 hi] 120 (0, 0))) := heap_alloc_new _ _
          refine hK.out _ _ (⟨HA1.out.cell (.head _) 0, HA1.out.cell (.head _) 1, HA1.out.cell (.head _) 2, HA1.out.cell (.head _) 3, HA1.out.cell (.tail _ (.tail _ (.tail _ (.head _)))) 1⟩) (fun hS => ?_)
          clear hK K
          try simp only [Act.put, putA, putZ, putS]
          generalize X0.heap.size = J at *
          generalize (X0.alloc (.cells #[.int .i64 za, .int .i64 zb, .int .i64 lo, .int .i64 hi] 120)) = X1 at *
          refine wpAnyZ_next (rs := [11]) (by kernel_rfl) (by simp) ?_
          refine NextZ.cons (o := ⟨some 48, _, _, _, _, _⟩) rfl (fun K hK => ?_) NextZ.nil
          refine step_append_src X1 (by rfl) (.tmp 38) (.tmp 47) 35 (by rfl) w.heap.size 120 j0 (.agg #[.int .i64 0, .int .i64 0, .int .i64 0, .int .i64 0]) 4 32 Try.underlying35 hj0 hjz0 hjz1 hjz2 rfl (by decide) (.slice sa k sc) k (fD m k) (by rfl) (HR1.out.own 1 _ rfl) (some ⟨J, 0, none⟩) 1 1 [.int .i64 za, .int .i64 zb, .int .i64 lo, .int .i64 hi] (by rfl) ⟨rfl, fun j u hu => ⟨_, rfl, World.news_of_block HJ.out j u hu⟩⟩ (by simp [Value.oneCell']) (by unfold maxLen; omega) (by omega) HA1.out.fr.size ?_
          intro v2 X2 hown hgr hl
          rw [← HIL.out] at hown
          obtain ⟨na, nc, rfl⟩ := own_slice' hown
          have HA2 := Lib.hid (BF.grow HA1.out HR1.out (i := 1) rfl (List.forall_mem_cons.2 ⟨(show 79 ≠ 120 by decide), List.forall_mem_cons.2 ⟨(show 25 ≠ 120 by decide), List.forall_mem_cons.2 ⟨(show 37 ≠ 120 by decide), List.forall_mem_cons.2 ⟨(show 37 ≠ 120 by decide), List.forall_mem_nil _⟩⟩⟩⟩) (Nat.le_refl _) hgr)
          have HR2 : Hid (Rws w.heap.size X2 [⟨100, 2, .slice va nw vc, nw, fR m.wk nw⟩, ⟨120, 4, .slice na (k + 1) nc, (k + 1), fD m ((k + 1))⟩]) := HR1.out.app2 (i := 1) rfl hown hgr hl
          clear hown hgr hl
          refine hK.out _ _ (⟨HA2.out.cell (.head _) 0, HA2.out.cell (.head _) 1, HA2.out.cell (.head _) 2, HA2.out.cell (.head _) 3, HA2.out.cell (.tail _ (.tail _ (.tail _ (.head _)))) 1⟩) (fun hS => ?_)
          clear hK K
          try simp only [Act.put, putA, putZ, putS]
          refine tZ 12 (oi := ⟨_, _, _, _, _, _⟩) (v := ?_) rfl (by kernel_rfl) (by rfl) (fun _ _ _ h => h) hS ?_ ?_
          rotate_left
          · rintro W' ⟨z0, z1, z2, z3, z4⟩; go_simp; try with_reducible rfl
          try simp only [Act.put, putA, putZ, putS]
          refine wpAnyZ_next (rs := [13]) (by kernel_rfl) (by simp) ?_
          refine NextZ.last (o := ⟨none, _, _, _, _, _⟩) rfl (by kernel_rfl) (fun K hK => ?_)
          have e0 := HA2.out.cell (.tail _ (.tail _ (.tail _ (.head _)))) 1
          have f0 := HA2.out.thaw (.tail _ (.tail _ (.tail _ (.head _)))) 1
          have HA3 := Lib.hid (BF.set1 (i := 1) (cs' := #[.slice va nw vc, .slice na (k + 1) nc]) HA2.out (.tail _ (.tail _ (.tail _ (.head _)))) (.slice na (k + 1) nc) (by simp) rfl (L' := [(RB, #[.int .i64 za, .int .i64 zb, .int .i64 lo, .int .i64 hi], 79), (w.heap.size, #[.slice pa nw pc, .slice (some ⟨b, off, none⟩) nr qc], 25), (w.heap.size + 1, #[.slice none 0 0, .slice none 0 0], 37)]) (List.forall_mem_cons.2 ⟨⟨show RB ≠ w.heap.size + 2 by omega, (.head _)⟩, List.forall_mem_cons.2 ⟨⟨show w.heap.size ≠ w.heap.size + 2 by omega, (.tail _ (.head _))⟩, List.forall_mem_cons.2 ⟨⟨show w.heap.size + 1 ≠ w.heap.size + 2 by omega, (.tail _ (.tail _ (.head _)))⟩, List.forall_mem_nil _⟩⟩⟩))
          have HR3 := Lib.hid (HR2.out.tab (HA2.out.bk _ _ _ (.tail _ (.tail _ (.tail _ (.head _))))).2 (List.forall_mem_cons.2 ⟨(show 37 ≠ 100 by decide), List.forall_mem_cons.2 ⟨(show 37 ≠ 120 by decide), List.forall_mem_nil _⟩⟩) (Fr.set X2 (w.heap.size + 2) 1 (.slice na (k + 1) nc)))
          go_simp
          refine hK.out _ _ ?_
          clear hK K
          (try simp only [Act.put])
          clear e0 f0
          refine wpAnyZ_done (by kernel_rfl) ?_ _
          go_wp2_with fail
          go_roundw
          case rel => exact ⟨k + 1, na, nc, by go_num, by omega, HA3.out.sub (List.forall_mem_cons.2 ⟨(.tail _ (.tail _ (.head _))), List.forall_mem_cons.2 ⟨(.tail _ (.tail _ (.tail _ (.head _)))), List.forall_mem_cons.2 ⟨(.head _), List.forall_mem_nil _⟩⟩⟩), HR3.out⟩
          case measure => simp [intOf]; omega
        · have hkn2 : nr = k := by omega
          subst hkn2
          have o0 := HA0.out.cell (.tail _ (.tail _ (.head _))) 0
          have o1 := HA0.out.cell (.tail _ (.tail _ (.head _))) 1
          have t0 := HA0.out.cell (.tail _ (.head _)) 0
          have t1 := HA0.out.cell (.tail _ (.head _)) 1
          have g0 := HA0.out.thaw (.tail _ (.head _)) 0
          have g1 := HA0.out.thaw (.tail _ (.head _)) 1
          have HA2 := Lib.hid (HA0.out.set2 (.tail _ (.head _)) (.slice va nw vc) (.slice sa nr sc) (L' := []) (List.forall_mem_nil _))
          have HR2 := Lib.hid (HR0.out.tab (HA0.out.bk _ _ _ (.tail _ (.head _))).2 (List.forall_mem_cons.2 ⟨(show 37 ≠ 100 by decide), List.forall_mem_cons.2 ⟨(show 37 ≠ 120 by decide), List.forall_mem_nil _⟩⟩) ((Fr.set wy (w.heap.size + 1) 0 (.slice va nw vc)).trans (Fr.set _ (w.heap.size + 1) 1 (.slice sa nr sc))))
          go_wp2_with fail
          have e0 := HA2.out.cell (.head _) 0
          have e1 := HA2.out.cell (.head _) 1
          exact bodyPost_ret (v := .agg #[.slice va nw vc, .slice sa nr sc]) (by simp [results, Try.results21, go_sem, e0, e1]) rfl ⟨⟨va, vc, sa, sc⟩, rfl, HEND.out _ _ _ _ _ HR2.out, HA2.out.fr⟩
end Go.Proofs.Ytpnkgjkoophckaa
