/- Walk: the truths with all smallest, and all greatest, numbers. Printed by gen_wh.py. -/
import Derived.Test.YtpnkgjkoophckaaWF
namespace Go.Proofs.Ytpnkgjkoophckaa
open Go.RowKit Go.Shelf

theorem Try.infoInt : (Try.prog.info? 3).map (fun i => (i.zero, i.size, i.bytes)) = some (some (.int .i64 0), 1, 8) := by kernel_rfl
set_option maxHeartbeats 1000000 in
theorem low_any (a b : Int) (w : World) :
    Calls Try.prog 90 #[.agg #[.int .i64 a, .int .i64 b]] w fun e w' => e = .returned (.int .i64 a) ∧ Below w.heap.size w w' := by
  go_enter Try.func90, Try.ntmps90
  go_wp2
  go_ret
  exact ⟨rfl, below_alloc _ _⟩
set_option maxHeartbeats 1000000 in
theorem high_any (a b : Int) (w : World) :
    Calls Try.prog 111 #[.agg #[.int .i64 a, .int .i64 b]] w fun e w' => e = .returned (.int .i64 b) ∧ Below w.heap.size w w' := by
  go_enter Try.func111, Try.ntmps111
  go_wp2
  go_ret
  exact ⟨rfl, below_alloc _ _⟩
def PkOk (f : Nat) (pk : R2 → Int) : Prop := ∀ a b W, Calls Try.prog f #[.agg #[.int .i64 a, .int .i64 b]] W fun e w' => e = .returned (.int .i64 (pk (a, b))) ∧ Below W.heap.size W w'
theorem Rws.ints {base : Nat} {X : World} {L : List OR} (h : Rws base X L) {i n : Nat} {a : Option Addr} {c : Nat} {z : Nat → Int} (hi : L[i]? = some ⟨3, 1, .slice a n c, n, iL z n⟩) : IntsIn X (.slice a n c) n z := (IntsAt.own (h.own i _ hi)).toIn
/-- A truth whose lists were made since a world of this size. -/
def TrOwn (base : Nat) (X : World) (z : TV) (m : Mp) (tw tr : Nat → Int) : Prop := Rws base X [⟨3, 1, .slice z.wa m.nw z.wc, m.nw, iL tw m.nw⟩, ⟨3, 1, .slice z.ra m.nr z.rc, m.nr, iL tr m.nr⟩]
theorem TrOwn.tr {base : Nat} {X : World} {z : TV} {m : Mp} {tw tr : Nat → Int} (h : TrOwn base X z m tw tr) : TrIn X z m tw tr := ⟨Rws.ints h (i := 0) rfl, Rws.ints h (i := 1) rfl⟩
theorem TrOwn.below {base : Nat} {X Y : World} {z : TV} {m : Mp} {tw tr : Nat → Int} (h : TrOwn base X z m tw tr) (hb : Below X.heap.size X Y) : TrOwn base Y z m tw tr := Rws.below h hb
theorem TrOwn.mono {base base' : Nat} {X : World} {z : TV} {m : Mp} {tw tr : Nat → Int} (h : TrOwn base X z m tw tr) (hb : base' ≤ base) : TrOwn base' X z m tw tr := ⟨fun i p hp => own_mono (Rws.own h i p hp) hb, Rws.dis h⟩
theorem TrOwn.tab {base : Nat} {X Y : World} {z : TV} {m : Mp} {tw tr : Nat → Int} {B : Nat} {cs : Array Value} (h : TrOwn base X z m tw tr) (hB : X.heap[B]? = some (.cells cs 98 (0, 0))) (hf : Fr (fun k => k = B) X Y) : TrOwn base Y z m tw tr :=
  Rws.tab h hB (List.forall_mem_cons.2 ⟨(show 98 ≠ 3 by decide), List.forall_mem_cons.2 ⟨(show 98 ≠ 3 by decide), List.forall_mem_nil _⟩⟩) hf
set_option maxRecDepth 100000 in
set_option maxHeartbeats 8000000 in
theorem extreme_low (x : MV) (m : Mp) (w : World) (h : MpIn w x m) (hnw : m.nw ≤ 100000) (hnr : m.nr ≤ 100000) :
    Calls Try.prog 89 #[.agg #[.slice x.wa m.nw x.wc, .slice x.ra m.nr x.rc], .agg #[.func (.func 90) #[] #[]]] w fun e w' => ∃ z : TV, e = .returned (.agg #[.slice z.wa m.nw z.wc, .slice z.ra m.nr z.rc]) ∧ TrOwn w.heap.size w' z m (fun i => (m.wk i).1) (fun i => (m.rt i).1) ∧ Below w.heap.size w w' := by
  obtain ⟨i0, hi0, hz0, hz1, hz2⟩ := info_parts Try.infoInt
  obtain ⟨pa, pc, qa, qc⟩ := x
  obtain ⟨hwk, hrd⟩ := h
  have HWK := Lib.hid hwk; have HRD := Lib.hid hrd
  have HPK : Hid (PkOk 90 (fun r => r.1)) := low_any
  clear hwk hrd
  simp only at *
  obtain ⟨fw, HFW⟩ : ∃ fw, Hid ((fun i => (m.wk i).1) = fw) := ⟨_, rfl⟩
  obtain ⟨fr, HFR⟩ : ∃ fr, Hid ((fun i => (m.rt i).1) = fr) := ⟨_, rfl⟩
  rw [HFW.out, HFR.out]
  have HFWk : Hid (∀ k, (m.wk k).1 = fw k) := fun k => congrFun HFW.out k
  have HFRk : Hid (∀ k, (m.rt k).1 = fr k) := fun k => congrFun HFR.out k
  clear HFW HFR
  have HEND : Hid (∀ (Y : World) (va : Option Addr) (vc : Nat) (sa : Option Addr) (sc : Nat), Rws w.heap.size Y [⟨3, 1, .slice va m.nw vc, m.nw, iL fw m.nw⟩, ⟨3, 1, .slice sa m.nr sc, m.nr, iL fr m.nr⟩] → TrOwn w.heap.size Y ⟨va, vc, sa, sc⟩ m fw fr) := fun Y va vc sa sc h => h
  obtain ⟨nw, HNW⟩ : ∃ nw, Hid (m.nw = nw) := ⟨_, rfl⟩
  obtain ⟨nr, HNR⟩ : ∃ nr, Hid (m.nr = nr) := ⟨_, rfl⟩
  rw [HNW.out, HNR.out] at HEND
  rw [HNW.out] at HWK hnw ⊢
  rw [HNR.out] at HRD hnr ⊢
  clear HNW HNR
  have HA0 : Hid (BF w (((w.alloc (.cells #[.slice pa nw pc, .slice qa nr qc] 37)).alloc (.cells #[.func (.func 90) #[] #[]] 151)).alloc (.cells #[.slice none 0 0, .slice none 0 0] 98)) [(w.heap.size, #[.slice pa nw pc, .slice qa nr qc], 37), (w.heap.size + 1, #[.func (.func 90) #[] #[]], 151), (w.heap.size + 2, #[.slice none 0 0, .slice none 0 0], 98)]) := BF.made3 _ _ _ _ _ _ _
  have HR0 : Hid (Rws w.heap.size (((w.alloc (.cells #[.slice pa nw pc, .slice qa nr qc] 37)).alloc (.cells #[.func (.func 90) #[] #[]] 151)).alloc (.cells #[.slice none 0 0, .slice none 0 0] 98)) [⟨3, 1, .slice none 0 0, 0, iL fw 0⟩, ⟨3, 1, .slice none 0 0, 0, iL fr 0⟩]) := by
    refine ⟨fun i p hp => ?_, fun i j p q _ hp _ k e => ?_⟩
    · match i, hp with
      | 0, hp => cases hp; exact World.ownsRow_nil _ _ _ _
      | 1, hp => cases hp; exact World.ownsRow_nil _ _ _ _
    · match i, hp with
      | 0, hp => cases hp; cases e
      | 1, hp => cases hp; cases e
  go_enter Try.func89, Try.ntmps89
  go_wp2_with fail
  generalize (((w.alloc (.cells #[.slice pa nw pc, .slice qa nr qc] 37)).alloc (.cells #[.func (.func 90) #[] #[]] 151)).alloc (.cells #[.slice none 0 0, .slice none 0 0] 98)) = w0 at *
  go_loopw [12] (fun i wr => ∃ k va vc, i = .int .i64 (k : Nat) ∧ k ≤ nw ∧ BF w wr [(w.heap.size, #[.slice pa nw pc, .slice qa nr qc], 37), (w.heap.size + 1, #[.func (.func 90) #[] #[]], 151), (w.heap.size + 2, #[.slice va k vc, .slice none 0 0], 98)] ∧ Rws w.heap.size wr [⟨3, 1, .slice va k vc, k, iL fw k⟩, ⟨3, 1, .slice none 0 0, 0, iL fr 0⟩]) (fun i _ => nw - (intOf i).toNat)
  case atStart => exact ⟨0, none, 0, rfl, Nat.zero_le _, HA0.out, HR0.out⟩
  case round =>
    clear HA0 HR0
    obtain ⟨k, va, vc, rfl, hk, hbf, hrw⟩ := hrel
    have HA0 := Lib.hid hbf; have HR0 := Lib.hid hrw
    clear hbf hrw
    by_cases hlt : k < nw
    · obtain ⟨b, off, rfl, hb, x0, x1⟩ := HWK.out.at (k := k) hlt
      have y0 := kept HA0.out.fr hb x0
      have y1 := kept HA0.out.fr hb x1
      have HPV := Lib.hid (HPK.out (m.wk k).1 (m.wk k).2)
      have HIL : Hid (iL fw (k + 1) = iL fw k ++ [.int .i64 ((m.wk k).1)]) := by unfold Hid; rw [iL_succ, ← HFWk.out k]
      have c0 := HA0.out.cell (.head _) 0; have c1 := HA0.out.cell (.head _) 1
      have ki : (0 : Int) ≤ (k : Int) := by omega
      have kj : (k : Int) < (nw : Int) := by omega
      generalize (m.wk k).1 = lo at *
      generalize (m.wk k).2 = hi at *
      go_upto_region 4 with fail
      have HA1 := Lib.hid (HA0.out.alloc #[.int .i64 lo, .int .i64 hi] 100)
      have HR1 := Lib.hid (HR0.out.below (below_alloc wr (.cells #[.int .i64 lo, .int .i64 hi] 100)))
      have hsz := HA0.out.fr.size
      have hlT := (HA0.out.lt (.tail _ (.tail _ (.head _)))).2
      have hlE := (HA0.out.lt (.tail _ (.head _))).2
      have hlM := (HA0.out.lt (.head _)).2
      obtain ⟨RB, hRB⟩ : ∃ RB, wr.heap.size = RB := ⟨_, rfl⟩
      have HAX : Hid (BF w (wr.alloc (.cells #[.int .i64 lo, .int .i64 hi] 100)).drew [(RB, #[.int .i64 lo, .int .i64 hi], 100), (w.heap.size, #[.slice (some ⟨b, off, none⟩) nw pc, .slice qa nr qc], 37), (w.heap.size + 1, #[.func (.func 90) #[] #[]], 151), (w.heap.size + 2, #[.slice va k vc, .slice none 0 0], 98)]) := by rw [← hRB]; exact HA1.out.below (Below.refl _ _).drew
      have HRX : Hid (Rws w.heap.size (wr.alloc (.cells #[.int .i64 lo, .int .i64 hi] 100)).drew [⟨3, 1, .slice va k vc, k, iL fw k⟩, ⟨3, 1, .slice none 0 0, 0, iL fr 0⟩]) := HR1.out.below (Below.refl _ _).drew
      rw [hRB] at hlT hlE hlM ⊢
      clear y0 y1 x0 x1 c0 c1 HA0 HA1 HR0 HR1 hRB hb
      refine wp_region_Z (S := fun X => X.cell? ⟨RB, 0, none⟩ = some (.int .i64 lo) ∧ X.cell? ⟨RB, 1, none⟩ = some (.int .i64 hi) ∧ X.cell? ⟨w.heap.size + 1, 0, none⟩ = some (.func (.func 90) #[] #[]) ∧ X.cell? ⟨w.heap.size + 2, 0, none⟩ = some (.slice va k vc)) (by kernel_rfl) (⟨HAX.out.cell (.head _) 0, HAX.out.cell (.head _) 1, HAX.out.cell (.tail _ (.tail _ (.head _))) 0, HAX.out.cell (.tail _ (.tail _ (.tail _ (.head _)))) 0⟩) (fun hS => ?_)
      generalize (wr.alloc (.cells #[.int .i64 lo, .int .i64 hi] 100)).drew = X at *
      refine tk [0, 1, 2, 3, 4] ?_
      repeat (refine tkZ (oi := ⟨_, _, _, _, _, _⟩) (v := ?_) rfl (by kernel_rfl) (by rfl) (fun _ _ _ h => h) hS ?_ ?_; rotate_left; (· rintro W' ⟨z0, z1, z2, z3⟩; go_simp; try with_reducible rfl); try simp only [Act.put, putA, putZ, putS])
      refine tk0 ?_
      refine wpAnyZ_next (rs := [5]) (by kernel_rfl) (by simp) ?_
      refine NextZ.cons (o := ⟨some 21, _, _, _, _, _⟩) rfl (fun K hK => ?_) NextZ.nil
      go_simp
      refine (HPV.out _).mono ?_
      rintro _ X0 ⟨rfl, hb0⟩
      (try go_wp2_with fail)
      have HA0 := Lib.hid (HAX.out.below hb0)
      have HR0 := Lib.hid (HRX.out.below hb0)
      refine hK.out _ _ (⟨HA0.out.cell (.head _) 0, HA0.out.cell (.head _) 1, HA0.out.cell (.tail _ (.tail _ (.head _))) 0, HA0.out.cell (.tail _ (.tail _ (.tail _ (.head _)))) 0⟩) (fun hS => ?_)
      clear hK K
      try simp only [Act.put, putA, putZ, putS]
      clear hb0
      refine wpAnyZ_next (rs := [6]) (by kernel_rfl) (by simp) ?_
      refine NextZ.cons (o := ⟨some 22, _, _, _, _, _⟩) rfl (fun K hK => ?_) NextZ.nil
      go_simp
      have HA1 := Lib.hid (HA0.out.below (below_alloc X0 (.cells #[.int .i64 lo] 3)))
      have HR1 := Lib.hid (HR0.out.below (below_alloc X0 (.cells #[.int .i64 lo] 3)))
      have HJ : Hid ((X0.alloc (.cells #[.int .i64 lo] 3)).heap[X0.heap.size]? = some (.cells #[.int .i64 lo] 3 (0, 0))) := heap_alloc_new _ _
      refine hK.out _ _ (⟨HA1.out.cell (.head _) 0, HA1.out.cell (.head _) 1, HA1.out.cell (.tail _ (.tail _ (.head _))) 0, HA1.out.cell (.tail _ (.tail _ (.tail _ (.head _)))) 0⟩) (fun hS => ?_)
      clear hK K
      try simp only [Act.put, putA, putZ, putS]
      generalize X0.heap.size = J at *
      generalize (X0.alloc (.cells #[.int .i64 lo] 3)) = X1 at *
      refine wpAnyZ_next (rs := [7]) (by kernel_rfl) (by simp) ?_
      refine NextZ.cons (o := ⟨some 23, _, _, _, _, _⟩) rfl (fun K hK => ?_) NextZ.nil
      refine step_append_src X1 (by rfl) (.tmp 17) (.tmp 22) 26 (by rfl) w.heap.size 3 i0 (.int .i64 0) 1 8 Try.underlying26 hi0 hz0 hz1 hz2 rfl (by decide) (.slice va k vc) k (iL fw k) (by rfl) (HR1.out.own 0 _ rfl) (some ⟨J, 0, none⟩) 1 1 [.int .i64 lo] (by rfl) ⟨rfl, fun j u hu => ⟨_, rfl, World.news_of_block HJ.out j u hu⟩⟩ (by simp [Value.oneCell']) (by unfold maxLen; omega) (by omega) HA1.out.fr.size ?_
      intro v2 X2 hown hgr hl
      rw [← HIL.out] at hown
      obtain ⟨na, nc, rfl⟩ := own_slice' hown
      have HA2 := Lib.hid (BF.grow HA1.out HR1.out (i := 0) rfl (List.forall_mem_cons.2 ⟨(show 100 ≠ 3 by decide), List.forall_mem_cons.2 ⟨(show 37 ≠ 3 by decide), List.forall_mem_cons.2 ⟨(show 151 ≠ 3 by decide), List.forall_mem_cons.2 ⟨(show 98 ≠ 3 by decide), List.forall_mem_nil _⟩⟩⟩⟩) (Nat.le_refl _) hgr)
      have HR2 : Hid (Rws w.heap.size X2 [⟨3, 1, .slice na (k + 1) nc, (k + 1), iL fw ((k + 1))⟩, ⟨3, 1, .slice none 0 0, 0, iL fr 0⟩]) := HR1.out.app2 (i := 0) rfl hown hgr hl
      clear hown hgr hl
      refine hK.out _ _ (⟨HA2.out.cell (.head _) 0, HA2.out.cell (.head _) 1, HA2.out.cell (.tail _ (.tail _ (.head _))) 0, HA2.out.cell (.tail _ (.tail _ (.tail _ (.head _)))) 0⟩) (fun hS => ?_)
      clear hK K
      try simp only [Act.put, putA, putZ, putS]
      refine tZ 8 (oi := ⟨_, _, _, _, _, _⟩) (v := ?_) rfl (by kernel_rfl) (by rfl) (fun _ _ _ h => h) hS ?_ ?_
      rotate_left
      · rintro W' ⟨z0, z1, z2, z3⟩; go_simp; try with_reducible rfl
      try simp only [Act.put, putA, putZ, putS]
      refine wpAnyZ_next (rs := [9]) (by kernel_rfl) (by simp) ?_
      refine NextZ.last (o := ⟨none, _, _, _, _, _⟩) rfl (by kernel_rfl) (fun K hK => ?_)
      have e0 := HA2.out.cell (.tail _ (.tail _ (.tail _ (.head _)))) 0
      have f0 := HA2.out.thaw (.tail _ (.tail _ (.tail _ (.head _)))) 0
      have HA3 := Lib.hid (BF.set1 (i := 0) (cs' := #[.slice na (k + 1) nc, .slice none 0 0]) HA2.out (.tail _ (.tail _ (.tail _ (.head _)))) (.slice na (k + 1) nc) (by simp) rfl (L' := [(RB, #[.int .i64 lo, .int .i64 hi], 100), (w.heap.size, #[.slice (some ⟨b, off, none⟩) nw pc, .slice qa nr qc], 37), (w.heap.size + 1, #[.func (.func 90) #[] #[]], 151)]) (List.forall_mem_cons.2 ⟨⟨show RB ≠ w.heap.size + 2 by omega, (.head _)⟩, List.forall_mem_cons.2 ⟨⟨show w.heap.size ≠ w.heap.size + 2 by omega, (.tail _ (.head _))⟩, List.forall_mem_cons.2 ⟨⟨show w.heap.size + 1 ≠ w.heap.size + 2 by omega, (.tail _ (.tail _ (.head _)))⟩, List.forall_mem_nil _⟩⟩⟩))
      have HR3 := Lib.hid (HR2.out.tab (HA2.out.bk _ _ _ (.tail _ (.tail _ (.tail _ (.head _))))).2 (List.forall_mem_cons.2 ⟨(show 98 ≠ 3 by decide), List.forall_mem_cons.2 ⟨(show 98 ≠ 3 by decide), List.forall_mem_nil _⟩⟩) (Fr.set X2 (w.heap.size + 2) 0 (.slice na (k + 1) nc)))
      go_simp
      refine hK.out _ _ ?_
      clear hK K
      (try simp only [Act.put])
      clear e0 f0
      refine wpAnyZ_done (by kernel_rfl) ?_ _
      go_wp2_with fail
      go_roundw
      case rel => exact ⟨k + 1, na, nc, by go_num, by omega, HA3.out.sub (List.forall_mem_cons.2 ⟨.tail _ (.tail _ (.head _)), List.forall_mem_cons.2 ⟨.tail _ (.tail _ (.tail _ (.head _))), List.forall_mem_cons.2 ⟨.head _, List.forall_mem_nil _⟩⟩⟩), HR3.out⟩
      case measure => simp [intOf]; omega
    · have hkn : nw = k := by omega
      subst hkn
      have c0 := HA0.out.cell (.head _) 0; have c1 := HA0.out.cell (.head _) 1
      go_wp2_with fail
      go_loopw [29] (fun i wr => ∃ k sa sc, i = .int .i64 (k : Nat) ∧ k ≤ nr ∧ BF w wr [(w.heap.size, #[.slice pa nw pc, .slice qa nr qc], 37), (w.heap.size + 1, #[.func (.func 90) #[] #[]], 151), (w.heap.size + 2, #[.slice va nw vc, .slice sa k sc], 98)] ∧ Rws w.heap.size wr [⟨3, 1, .slice va nw vc, nw, iL fw nw⟩, ⟨3, 1, .slice sa k sc, k, iL fr k⟩]) (fun i _ => nr - (intOf i).toNat)
      case atStart => exact ⟨0, none, 0, rfl, Nat.zero_le _, HA0.out, HR0.out⟩
      case round =>
        clear HA0 HR0 c0 c1
        obtain ⟨k, sa, sc, rfl, hk2, hbf, hrw⟩ := hrel
        rename World => wy
        have HA0 := Lib.hid hbf; have HR0 := Lib.hid hrw
        clear hbf hrw
        by_cases hlt2 : k < nr
        · obtain ⟨b, off, rfl, hb, x0, x1, x2, x3⟩ := HRD.out.at (k := k) hlt2
          have y0 := kept HA0.out.fr hb x0
          have y1 := kept HA0.out.fr hb x1
          have y2 := kept HA0.out.fr hb x2
          have y3 := kept HA0.out.fr hb x3
          have HPV := Lib.hid (HPK.out (m.rt k).1 (m.rt k).2)
          have HIL : Hid (iL fr (k + 1) = iL fr k ++ [.int .i64 ((m.rt k).1)]) := by unfold Hid; rw [iL_succ, ← HFRk.out k]
          have ki : (0 : Int) ≤ (k : Int) := by omega
          have kj : (k : Int) < (nr : Int) := by omega
          generalize m.ra k = za at *
          generalize m.rb k = zb at *
          generalize (m.rt k).1 = lo at *
          generalize (m.rt k).2 = hi at *
          go_upto_region 9 with fail
          have HA1 := Lib.hid (HA0.out.alloc #[.int .i64 za, .int .i64 zb, .int .i64 lo, .int .i64 hi] 120)
          have HR1 := Lib.hid (HR0.out.below (below_alloc wy (.cells #[.int .i64 za, .int .i64 zb, .int .i64 lo, .int .i64 hi] 120)))
          have hsz := HA0.out.fr.size
          have hlT := (HA0.out.lt (.tail _ (.tail _ (.head _)))).2
          have hlE := (HA0.out.lt (.tail _ (.head _))).2
          have hlM := (HA0.out.lt (.head _)).2
          obtain ⟨RB, hRB⟩ : ∃ RB, wy.heap.size = RB := ⟨_, rfl⟩
          have HAX : Hid (BF w (wy.alloc (.cells #[.int .i64 za, .int .i64 zb, .int .i64 lo, .int .i64 hi] 120)).drew [(RB, #[.int .i64 za, .int .i64 zb, .int .i64 lo, .int .i64 hi], 120), (w.heap.size, #[.slice pa nw pc, .slice (some ⟨b, off, none⟩) nr qc], 37), (w.heap.size + 1, #[.func (.func 90) #[] #[]], 151), (w.heap.size + 2, #[.slice va nw vc, .slice sa k sc], 98)]) := by rw [← hRB]; exact HA1.out.below (Below.refl _ _).drew
          have HRX : Hid (Rws w.heap.size (wy.alloc (.cells #[.int .i64 za, .int .i64 zb, .int .i64 lo, .int .i64 hi] 120)).drew [⟨3, 1, .slice va nw vc, nw, iL fw nw⟩, ⟨3, 1, .slice sa k sc, k, iL fr k⟩]) := HR1.out.below (Below.refl _ _).drew
          rw [hRB] at hlT hlE hlM ⊢
          clear y0 y1 y2 y3 x0 x1 x2 x3 HA0 HA1 HR0 HR1 hRB hb
          refine wp_region_Z (S := fun X => X.cell? ⟨RB, 2, none⟩ = some (.int .i64 lo) ∧ X.cell? ⟨RB, 3, none⟩ = some (.int .i64 hi) ∧ X.cell? ⟨w.heap.size + 1, 0, none⟩ = some (.func (.func 90) #[] #[]) ∧ X.cell? ⟨w.heap.size + 2, 1, none⟩ = some (.slice sa k sc)) (by kernel_rfl) (⟨HAX.out.cell (.head _) 2, HAX.out.cell (.head _) 3, HAX.out.cell (.tail _ (.tail _ (.head _))) 0, HAX.out.cell (.tail _ (.tail _ (.tail _ (.head _)))) 1⟩) (fun hS => ?_)
          generalize (wy.alloc (.cells #[.int .i64 za, .int .i64 zb, .int .i64 lo, .int .i64 hi] 120)).drew = X at *
          refine tk [0, 1, 2, 3, 4, 5] ?_
          repeat (refine tkZ (oi := ⟨_, _, _, _, _, _⟩) (v := ?_) rfl (by kernel_rfl) (by rfl) (fun _ _ _ h => h) hS ?_ ?_; rotate_left; (· rintro W' ⟨z0, z1, z2, z3⟩; go_simp; try with_reducible rfl); try simp only [Act.put, putA, putZ, putS])
          refine tk0 ?_
          refine wpAnyZ_next (rs := [6]) (by kernel_rfl) (by simp) ?_
          refine NextZ.cons (o := ⟨some 39, _, _, _, _, _⟩) rfl (fun K hK => ?_) NextZ.nil
          go_simp
          refine (HPV.out _).mono ?_
          rintro _ X0 ⟨rfl, hb0⟩
          (try go_wp2_with fail)
          have HA0 := Lib.hid (HAX.out.below hb0)
          have HR0 := Lib.hid (HRX.out.below hb0)
          refine hK.out _ _ (⟨HA0.out.cell (.head _) 2, HA0.out.cell (.head _) 3, HA0.out.cell (.tail _ (.tail _ (.head _))) 0, HA0.out.cell (.tail _ (.tail _ (.tail _ (.head _)))) 1⟩) (fun hS => ?_)
          clear hK K
          try simp only [Act.put, putA, putZ, putS]
          clear hb0
          refine wpAnyZ_next (rs := [7]) (by kernel_rfl) (by simp) ?_
          refine NextZ.cons (o := ⟨some 40, _, _, _, _, _⟩) rfl (fun K hK => ?_) NextZ.nil
          go_simp
          have HA1 := Lib.hid (HA0.out.below (below_alloc X0 (.cells #[.int .i64 lo] 3)))
          have HR1 := Lib.hid (HR0.out.below (below_alloc X0 (.cells #[.int .i64 lo] 3)))
          have HJ : Hid ((X0.alloc (.cells #[.int .i64 lo] 3)).heap[X0.heap.size]? = some (.cells #[.int .i64 lo] 3 (0, 0))) := heap_alloc_new _ _
          refine hK.out _ _ (⟨HA1.out.cell (.head _) 2, HA1.out.cell (.head _) 3, HA1.out.cell (.tail _ (.tail _ (.head _))) 0, HA1.out.cell (.tail _ (.tail _ (.tail _ (.head _)))) 1⟩) (fun hS => ?_)
          clear hK K
          try simp only [Act.put, putA, putZ, putS]
          generalize X0.heap.size = J at *
          generalize (X0.alloc (.cells #[.int .i64 lo] 3)) = X1 at *
          refine wpAnyZ_next (rs := [8]) (by kernel_rfl) (by simp) ?_
          refine NextZ.cons (o := ⟨some 41, _, _, _, _, _⟩) rfl (fun K hK => ?_) NextZ.nil
          refine step_append_src X1 (by rfl) (.tmp 34) (.tmp 40) 26 (by rfl) w.heap.size 3 i0 (.int .i64 0) 1 8 Try.underlying26 hi0 hz0 hz1 hz2 rfl (by decide) (.slice sa k sc) k (iL fr k) (by rfl) (HR1.out.own 1 _ rfl) (some ⟨J, 0, none⟩) 1 1 [.int .i64 lo] (by rfl) ⟨rfl, fun j u hu => ⟨_, rfl, World.news_of_block HJ.out j u hu⟩⟩ (by simp [Value.oneCell']) (by unfold maxLen; omega) (by omega) HA1.out.fr.size ?_
          intro v2 X2 hown hgr hl
          rw [← HIL.out] at hown
          obtain ⟨na, nc, rfl⟩ := own_slice' hown
          have HA2 := Lib.hid (BF.grow HA1.out HR1.out (i := 1) rfl (List.forall_mem_cons.2 ⟨(show 120 ≠ 3 by decide), List.forall_mem_cons.2 ⟨(show 37 ≠ 3 by decide), List.forall_mem_cons.2 ⟨(show 151 ≠ 3 by decide), List.forall_mem_cons.2 ⟨(show 98 ≠ 3 by decide), List.forall_mem_nil _⟩⟩⟩⟩) (Nat.le_refl _) hgr)
          have HR2 : Hid (Rws w.heap.size X2 [⟨3, 1, .slice va nw vc, nw, iL fw nw⟩, ⟨3, 1, .slice na (k + 1) nc, (k + 1), iL fr ((k + 1))⟩]) := HR1.out.app2 (i := 1) rfl hown hgr hl
          clear hown hgr hl
          refine hK.out _ _ (⟨HA2.out.cell (.head _) 2, HA2.out.cell (.head _) 3, HA2.out.cell (.tail _ (.tail _ (.head _))) 0, HA2.out.cell (.tail _ (.tail _ (.tail _ (.head _)))) 1⟩) (fun hS => ?_)
          clear hK K
          try simp only [Act.put, putA, putZ, putS]
          refine tZ 9 (oi := ⟨_, _, _, _, _, _⟩) (v := ?_) rfl (by kernel_rfl) (by rfl) (fun _ _ _ h => h) hS ?_ ?_
          rotate_left
          · rintro W' ⟨z0, z1, z2, z3⟩; go_simp; try with_reducible rfl
          try simp only [Act.put, putA, putZ, putS]
          refine wpAnyZ_next (rs := [10]) (by kernel_rfl) (by simp) ?_
          refine NextZ.last (o := ⟨none, _, _, _, _, _⟩) rfl (by kernel_rfl) (fun K hK => ?_)
          have e0 := HA2.out.cell (.tail _ (.tail _ (.tail _ (.head _)))) 1
          have f0 := HA2.out.thaw (.tail _ (.tail _ (.tail _ (.head _)))) 1
          have HA3 := Lib.hid (BF.set1 (i := 1) (cs' := #[.slice va nw vc, .slice na (k + 1) nc]) HA2.out (.tail _ (.tail _ (.tail _ (.head _)))) (.slice na (k + 1) nc) (by simp) rfl (L' := [(RB, #[.int .i64 za, .int .i64 zb, .int .i64 lo, .int .i64 hi], 120), (w.heap.size, #[.slice pa nw pc, .slice (some ⟨b, off, none⟩) nr qc], 37), (w.heap.size + 1, #[.func (.func 90) #[] #[]], 151)]) (List.forall_mem_cons.2 ⟨⟨show RB ≠ w.heap.size + 2 by omega, (.head _)⟩, List.forall_mem_cons.2 ⟨⟨show w.heap.size ≠ w.heap.size + 2 by omega, (.tail _ (.head _))⟩, List.forall_mem_cons.2 ⟨⟨show w.heap.size + 1 ≠ w.heap.size + 2 by omega, (.tail _ (.tail _ (.head _)))⟩, List.forall_mem_nil _⟩⟩⟩))
          have HR3 := Lib.hid (HR2.out.tab (HA2.out.bk _ _ _ (.tail _ (.tail _ (.tail _ (.head _))))).2 (List.forall_mem_cons.2 ⟨(show 98 ≠ 3 by decide), List.forall_mem_cons.2 ⟨(show 98 ≠ 3 by decide), List.forall_mem_nil _⟩⟩) (Fr.set X2 (w.heap.size + 2) 1 (.slice na (k + 1) nc)))
          go_simp
          refine hK.out _ _ ?_
          clear hK K
          (try simp only [Act.put])
          clear e0 f0
          refine wpAnyZ_done (by kernel_rfl) ?_ _
          go_wp2_with fail
          go_roundw
          case rel => exact ⟨k + 1, na, nc, by go_num, by omega, HA3.out.sub (List.forall_mem_cons.2 ⟨.tail _ (.tail _ (.head _)), List.forall_mem_cons.2 ⟨.tail _ (.tail _ (.tail _ (.head _))), List.forall_mem_cons.2 ⟨.head _, List.forall_mem_nil _⟩⟩⟩), HR3.out⟩
          case measure => simp [intOf]; omega
        · have hkn2 : nr = k := by omega
          subst hkn2
          have t0 := HA0.out.cell (.tail _ (.tail _ (.head _))) 0
          have t1 := HA0.out.cell (.tail _ (.tail _ (.head _))) 1
          have g0 := HA0.out.thaw (.tail _ (.tail _ (.head _))) 0
          have g1 := HA0.out.thaw (.tail _ (.tail _ (.head _))) 1
          have HA2 := Lib.hid (HA0.out.set2 (.tail _ (.tail _ (.head _))) (.slice va nw vc) (.slice sa nr sc) (L' := []) (List.forall_mem_nil _))
          have HR2 := Lib.hid (HR0.out.tab (HA0.out.bk _ _ _ (.tail _ (.tail _ (.head _)))).2 (List.forall_mem_cons.2 ⟨(show 98 ≠ 3 by decide), List.forall_mem_cons.2 ⟨(show 98 ≠ 3 by decide), List.forall_mem_nil _⟩⟩) ((Fr.set wy (w.heap.size + 2) 0 (.slice va nw vc)).trans (Fr.set _ (w.heap.size + 2) 1 (.slice sa nr sc))))
          go_wp2_with fail
          have e0 := HA2.out.cell (.head _) 0
          have e1 := HA2.out.cell (.head _) 1
          exact bodyPost_ret (v := .agg #[.slice va nw vc, .slice sa nr sc]) (by simp [results, Try.results89, go_sem, e0, e1]) rfl ⟨⟨va, vc, sa, sc⟩, rfl, HEND.out _ _ _ _ _ HR2.out, HA2.out.fr⟩
set_option maxRecDepth 100000 in
set_option maxHeartbeats 8000000 in
theorem extreme_high (x : MV) (m : Mp) (w : World) (h : MpIn w x m) (hnw : m.nw ≤ 100000) (hnr : m.nr ≤ 100000) :
    Calls Try.prog 89 #[.agg #[.slice x.wa m.nw x.wc, .slice x.ra m.nr x.rc], .agg #[.func (.func 111) #[] #[]]] w fun e w' => ∃ z : TV, e = .returned (.agg #[.slice z.wa m.nw z.wc, .slice z.ra m.nr z.rc]) ∧ TrOwn w.heap.size w' z m (fun i => (m.wk i).2) (fun i => (m.rt i).2) ∧ Below w.heap.size w w' := by
  obtain ⟨i0, hi0, hz0, hz1, hz2⟩ := info_parts Try.infoInt
  obtain ⟨pa, pc, qa, qc⟩ := x
  obtain ⟨hwk, hrd⟩ := h
  have HWK := Lib.hid hwk; have HRD := Lib.hid hrd
  have HPK : Hid (PkOk 111 (fun r => r.2)) := high_any
  clear hwk hrd
  simp only at *
  obtain ⟨fw, HFW⟩ : ∃ fw, Hid ((fun i => (m.wk i).2) = fw) := ⟨_, rfl⟩
  obtain ⟨fr, HFR⟩ : ∃ fr, Hid ((fun i => (m.rt i).2) = fr) := ⟨_, rfl⟩
  rw [HFW.out, HFR.out]
  have HFWk : Hid (∀ k, (m.wk k).2 = fw k) := fun k => congrFun HFW.out k
  have HFRk : Hid (∀ k, (m.rt k).2 = fr k) := fun k => congrFun HFR.out k
  clear HFW HFR
  have HEND : Hid (∀ (Y : World) (va : Option Addr) (vc : Nat) (sa : Option Addr) (sc : Nat), Rws w.heap.size Y [⟨3, 1, .slice va m.nw vc, m.nw, iL fw m.nw⟩, ⟨3, 1, .slice sa m.nr sc, m.nr, iL fr m.nr⟩] → TrOwn w.heap.size Y ⟨va, vc, sa, sc⟩ m fw fr) := fun Y va vc sa sc h => h
  obtain ⟨nw, HNW⟩ : ∃ nw, Hid (m.nw = nw) := ⟨_, rfl⟩
  obtain ⟨nr, HNR⟩ : ∃ nr, Hid (m.nr = nr) := ⟨_, rfl⟩
  rw [HNW.out, HNR.out] at HEND
  rw [HNW.out] at HWK hnw ⊢
  rw [HNR.out] at HRD hnr ⊢
  clear HNW HNR
  have HA0 : Hid (BF w (((w.alloc (.cells #[.slice pa nw pc, .slice qa nr qc] 37)).alloc (.cells #[.func (.func 111) #[] #[]] 151)).alloc (.cells #[.slice none 0 0, .slice none 0 0] 98)) [(w.heap.size, #[.slice pa nw pc, .slice qa nr qc], 37), (w.heap.size + 1, #[.func (.func 111) #[] #[]], 151), (w.heap.size + 2, #[.slice none 0 0, .slice none 0 0], 98)]) := BF.made3 _ _ _ _ _ _ _
  have HR0 : Hid (Rws w.heap.size (((w.alloc (.cells #[.slice pa nw pc, .slice qa nr qc] 37)).alloc (.cells #[.func (.func 111) #[] #[]] 151)).alloc (.cells #[.slice none 0 0, .slice none 0 0] 98)) [⟨3, 1, .slice none 0 0, 0, iL fw 0⟩, ⟨3, 1, .slice none 0 0, 0, iL fr 0⟩]) := by
    refine ⟨fun i p hp => ?_, fun i j p q _ hp _ k e => ?_⟩
    · match i, hp with
      | 0, hp => cases hp; exact World.ownsRow_nil _ _ _ _
      | 1, hp => cases hp; exact World.ownsRow_nil _ _ _ _
    · match i, hp with
      | 0, hp => cases hp; cases e
      | 1, hp => cases hp; cases e
  go_enter Try.func89, Try.ntmps89
  go_wp2_with fail
  generalize (((w.alloc (.cells #[.slice pa nw pc, .slice qa nr qc] 37)).alloc (.cells #[.func (.func 111) #[] #[]] 151)).alloc (.cells #[.slice none 0 0, .slice none 0 0] 98)) = w0 at *
  go_loopw [12] (fun i wr => ∃ k va vc, i = .int .i64 (k : Nat) ∧ k ≤ nw ∧ BF w wr [(w.heap.size, #[.slice pa nw pc, .slice qa nr qc], 37), (w.heap.size + 1, #[.func (.func 111) #[] #[]], 151), (w.heap.size + 2, #[.slice va k vc, .slice none 0 0], 98)] ∧ Rws w.heap.size wr [⟨3, 1, .slice va k vc, k, iL fw k⟩, ⟨3, 1, .slice none 0 0, 0, iL fr 0⟩]) (fun i _ => nw - (intOf i).toNat)
  case atStart => exact ⟨0, none, 0, rfl, Nat.zero_le _, HA0.out, HR0.out⟩
  case round =>
    clear HA0 HR0
    obtain ⟨k, va, vc, rfl, hk, hbf, hrw⟩ := hrel
    have HA0 := Lib.hid hbf; have HR0 := Lib.hid hrw
    clear hbf hrw
    by_cases hlt : k < nw
    · obtain ⟨b, off, rfl, hb, x0, x1⟩ := HWK.out.at (k := k) hlt
      have y0 := kept HA0.out.fr hb x0
      have y1 := kept HA0.out.fr hb x1
      have HPV := Lib.hid (HPK.out (m.wk k).1 (m.wk k).2)
      have HIL : Hid (iL fw (k + 1) = iL fw k ++ [.int .i64 ((m.wk k).2)]) := by unfold Hid; rw [iL_succ, ← HFWk.out k]
      have c0 := HA0.out.cell (.head _) 0; have c1 := HA0.out.cell (.head _) 1
      have ki : (0 : Int) ≤ (k : Int) := by omega
      have kj : (k : Int) < (nw : Int) := by omega
      generalize (m.wk k).1 = lo at *
      generalize (m.wk k).2 = hi at *
      go_upto_region 4 with fail
      have HA1 := Lib.hid (HA0.out.alloc #[.int .i64 lo, .int .i64 hi] 100)
      have HR1 := Lib.hid (HR0.out.below (below_alloc wr (.cells #[.int .i64 lo, .int .i64 hi] 100)))
      have hsz := HA0.out.fr.size
      have hlT := (HA0.out.lt (.tail _ (.tail _ (.head _)))).2
      have hlE := (HA0.out.lt (.tail _ (.head _))).2
      have hlM := (HA0.out.lt (.head _)).2
      obtain ⟨RB, hRB⟩ : ∃ RB, wr.heap.size = RB := ⟨_, rfl⟩
      have HAX : Hid (BF w (wr.alloc (.cells #[.int .i64 lo, .int .i64 hi] 100)).drew [(RB, #[.int .i64 lo, .int .i64 hi], 100), (w.heap.size, #[.slice (some ⟨b, off, none⟩) nw pc, .slice qa nr qc], 37), (w.heap.size + 1, #[.func (.func 111) #[] #[]], 151), (w.heap.size + 2, #[.slice va k vc, .slice none 0 0], 98)]) := by rw [← hRB]; exact HA1.out.below (Below.refl _ _).drew
      have HRX : Hid (Rws w.heap.size (wr.alloc (.cells #[.int .i64 lo, .int .i64 hi] 100)).drew [⟨3, 1, .slice va k vc, k, iL fw k⟩, ⟨3, 1, .slice none 0 0, 0, iL fr 0⟩]) := HR1.out.below (Below.refl _ _).drew
      rw [hRB] at hlT hlE hlM ⊢
      clear y0 y1 x0 x1 c0 c1 HA0 HA1 HR0 HR1 hRB hb
      refine wp_region_Z (S := fun X => X.cell? ⟨RB, 0, none⟩ = some (.int .i64 lo) ∧ X.cell? ⟨RB, 1, none⟩ = some (.int .i64 hi) ∧ X.cell? ⟨w.heap.size + 1, 0, none⟩ = some (.func (.func 111) #[] #[]) ∧ X.cell? ⟨w.heap.size + 2, 0, none⟩ = some (.slice va k vc)) (by kernel_rfl) (⟨HAX.out.cell (.head _) 0, HAX.out.cell (.head _) 1, HAX.out.cell (.tail _ (.tail _ (.head _))) 0, HAX.out.cell (.tail _ (.tail _ (.tail _ (.head _)))) 0⟩) (fun hS => ?_)
      generalize (wr.alloc (.cells #[.int .i64 lo, .int .i64 hi] 100)).drew = X at *
      refine tk [0, 1, 2, 3, 4] ?_
      repeat (refine tkZ (oi := ⟨_, _, _, _, _, _⟩) (v := ?_) rfl (by kernel_rfl) (by rfl) (fun _ _ _ h => h) hS ?_ ?_; rotate_left; (· rintro W' ⟨z0, z1, z2, z3⟩; go_simp; try with_reducible rfl); try simp only [Act.put, putA, putZ, putS])
      refine tk0 ?_
      refine wpAnyZ_next (rs := [5]) (by kernel_rfl) (by simp) ?_
      refine NextZ.cons (o := ⟨some 21, _, _, _, _, _⟩) rfl (fun K hK => ?_) NextZ.nil
      go_simp
      refine (HPV.out _).mono ?_
      rintro _ X0 ⟨rfl, hb0⟩
      (try go_wp2_with fail)
      have HA0 := Lib.hid (HAX.out.below hb0)
      have HR0 := Lib.hid (HRX.out.below hb0)
      refine hK.out _ _ (⟨HA0.out.cell (.head _) 0, HA0.out.cell (.head _) 1, HA0.out.cell (.tail _ (.tail _ (.head _))) 0, HA0.out.cell (.tail _ (.tail _ (.tail _ (.head _)))) 0⟩) (fun hS => ?_)
      clear hK K
      try simp only [Act.put, putA, putZ, putS]
      clear hb0
      refine wpAnyZ_next (rs := [6]) (by kernel_rfl) (by simp) ?_
      refine NextZ.cons (o := ⟨some 22, _, _, _, _, _⟩) rfl (fun K hK => ?_) NextZ.nil
      go_simp
      have HA1 := Lib.hid (HA0.out.below (below_alloc X0 (.cells #[.int .i64 hi] 3)))
      have HR1 := Lib.hid (HR0.out.below (below_alloc X0 (.cells #[.int .i64 hi] 3)))
      have HJ : Hid ((X0.alloc (.cells #[.int .i64 hi] 3)).heap[X0.heap.size]? = some (.cells #[.int .i64 hi] 3 (0, 0))) := heap_alloc_new _ _
      refine hK.out _ _ (⟨HA1.out.cell (.head _) 0, HA1.out.cell (.head _) 1, HA1.out.cell (.tail _ (.tail _ (.head _))) 0, HA1.out.cell (.tail _ (.tail _ (.tail _ (.head _)))) 0⟩) (fun hS => ?_)
      clear hK K
      try simp only [Act.put, putA, putZ, putS]
      generalize X0.heap.size = J at *
      generalize (X0.alloc (.cells #[.int .i64 hi] 3)) = X1 at *
      refine wpAnyZ_next (rs := [7]) (by kernel_rfl) (by simp) ?_
      refine NextZ.cons (o := ⟨some 23, _, _, _, _, _⟩) rfl (fun K hK => ?_) NextZ.nil
      refine step_append_src X1 (by rfl) (.tmp 17) (.tmp 22) 26 (by rfl) w.heap.size 3 i0 (.int .i64 0) 1 8 Try.underlying26 hi0 hz0 hz1 hz2 rfl (by decide) (.slice va k vc) k (iL fw k) (by rfl) (HR1.out.own 0 _ rfl) (some ⟨J, 0, none⟩) 1 1 [.int .i64 hi] (by rfl) ⟨rfl, fun j u hu => ⟨_, rfl, World.news_of_block HJ.out j u hu⟩⟩ (by simp [Value.oneCell']) (by unfold maxLen; omega) (by omega) HA1.out.fr.size ?_
      intro v2 X2 hown hgr hl
      rw [← HIL.out] at hown
      obtain ⟨na, nc, rfl⟩ := own_slice' hown
      have HA2 := Lib.hid (BF.grow HA1.out HR1.out (i := 0) rfl (List.forall_mem_cons.2 ⟨(show 100 ≠ 3 by decide), List.forall_mem_cons.2 ⟨(show 37 ≠ 3 by decide), List.forall_mem_cons.2 ⟨(show 151 ≠ 3 by decide), List.forall_mem_cons.2 ⟨(show 98 ≠ 3 by decide), List.forall_mem_nil _⟩⟩⟩⟩) (Nat.le_refl _) hgr)
      have HR2 : Hid (Rws w.heap.size X2 [⟨3, 1, .slice na (k + 1) nc, (k + 1), iL fw ((k + 1))⟩, ⟨3, 1, .slice none 0 0, 0, iL fr 0⟩]) := HR1.out.app2 (i := 0) rfl hown hgr hl
      clear hown hgr hl
      refine hK.out _ _ (⟨HA2.out.cell (.head _) 0, HA2.out.cell (.head _) 1, HA2.out.cell (.tail _ (.tail _ (.head _))) 0, HA2.out.cell (.tail _ (.tail _ (.tail _ (.head _)))) 0⟩) (fun hS => ?_)
      clear hK K
      try simp only [Act.put, putA, putZ, putS]
      refine tZ 8 (oi := ⟨_, _, _, _, _, _⟩) (v := ?_) rfl (by kernel_rfl) (by rfl) (fun _ _ _ h => h) hS ?_ ?_
      rotate_left
      · rintro W' ⟨z0, z1, z2, z3⟩; go_simp; try with_reducible rfl
      try simp only [Act.put, putA, putZ, putS]
      refine wpAnyZ_next (rs := [9]) (by kernel_rfl) (by simp) ?_
      refine NextZ.last (o := ⟨none, _, _, _, _, _⟩) rfl (by kernel_rfl) (fun K hK => ?_)
      have e0 := HA2.out.cell (.tail _ (.tail _ (.tail _ (.head _)))) 0
      have f0 := HA2.out.thaw (.tail _ (.tail _ (.tail _ (.head _)))) 0
      have HA3 := Lib.hid (BF.set1 (i := 0) (cs' := #[.slice na (k + 1) nc, .slice none 0 0]) HA2.out (.tail _ (.tail _ (.tail _ (.head _)))) (.slice na (k + 1) nc) (by simp) rfl (L' := [(RB, #[.int .i64 lo, .int .i64 hi], 100), (w.heap.size, #[.slice (some ⟨b, off, none⟩) nw pc, .slice qa nr qc], 37), (w.heap.size + 1, #[.func (.func 111) #[] #[]], 151)]) (List.forall_mem_cons.2 ⟨⟨show RB ≠ w.heap.size + 2 by omega, (.head _)⟩, List.forall_mem_cons.2 ⟨⟨show w.heap.size ≠ w.heap.size + 2 by omega, (.tail _ (.head _))⟩, List.forall_mem_cons.2 ⟨⟨show w.heap.size + 1 ≠ w.heap.size + 2 by omega, (.tail _ (.tail _ (.head _)))⟩, List.forall_mem_nil _⟩⟩⟩))
      have HR3 := Lib.hid (HR2.out.tab (HA2.out.bk _ _ _ (.tail _ (.tail _ (.tail _ (.head _))))).2 (List.forall_mem_cons.2 ⟨(show 98 ≠ 3 by decide), List.forall_mem_cons.2 ⟨(show 98 ≠ 3 by decide), List.forall_mem_nil _⟩⟩) (Fr.set X2 (w.heap.size + 2) 0 (.slice na (k + 1) nc)))
      go_simp
      refine hK.out _ _ ?_
      clear hK K
      (try simp only [Act.put])
      clear e0 f0
      refine wpAnyZ_done (by kernel_rfl) ?_ _
      go_wp2_with fail
      go_roundw
      case rel => exact ⟨k + 1, na, nc, by go_num, by omega, HA3.out.sub (List.forall_mem_cons.2 ⟨.tail _ (.tail _ (.head _)), List.forall_mem_cons.2 ⟨.tail _ (.tail _ (.tail _ (.head _))), List.forall_mem_cons.2 ⟨.head _, List.forall_mem_nil _⟩⟩⟩), HR3.out⟩
      case measure => simp [intOf]; omega
    · have hkn : nw = k := by omega
      subst hkn
      have c0 := HA0.out.cell (.head _) 0; have c1 := HA0.out.cell (.head _) 1
      go_wp2_with fail
      go_loopw [29] (fun i wr => ∃ k sa sc, i = .int .i64 (k : Nat) ∧ k ≤ nr ∧ BF w wr [(w.heap.size, #[.slice pa nw pc, .slice qa nr qc], 37), (w.heap.size + 1, #[.func (.func 111) #[] #[]], 151), (w.heap.size + 2, #[.slice va nw vc, .slice sa k sc], 98)] ∧ Rws w.heap.size wr [⟨3, 1, .slice va nw vc, nw, iL fw nw⟩, ⟨3, 1, .slice sa k sc, k, iL fr k⟩]) (fun i _ => nr - (intOf i).toNat)
      case atStart => exact ⟨0, none, 0, rfl, Nat.zero_le _, HA0.out, HR0.out⟩
      case round =>
        clear HA0 HR0 c0 c1
        obtain ⟨k, sa, sc, rfl, hk2, hbf, hrw⟩ := hrel
        rename World => wy
        have HA0 := Lib.hid hbf; have HR0 := Lib.hid hrw
        clear hbf hrw
        by_cases hlt2 : k < nr
        · obtain ⟨b, off, rfl, hb, x0, x1, x2, x3⟩ := HRD.out.at (k := k) hlt2
          have y0 := kept HA0.out.fr hb x0
          have y1 := kept HA0.out.fr hb x1
          have y2 := kept HA0.out.fr hb x2
          have y3 := kept HA0.out.fr hb x3
          have HPV := Lib.hid (HPK.out (m.rt k).1 (m.rt k).2)
          have HIL : Hid (iL fr (k + 1) = iL fr k ++ [.int .i64 ((m.rt k).2)]) := by unfold Hid; rw [iL_succ, ← HFRk.out k]
          have ki : (0 : Int) ≤ (k : Int) := by omega
          have kj : (k : Int) < (nr : Int) := by omega
          generalize m.ra k = za at *
          generalize m.rb k = zb at *
          generalize (m.rt k).1 = lo at *
          generalize (m.rt k).2 = hi at *
          go_upto_region 9 with fail
          have HA1 := Lib.hid (HA0.out.alloc #[.int .i64 za, .int .i64 zb, .int .i64 lo, .int .i64 hi] 120)
          have HR1 := Lib.hid (HR0.out.below (below_alloc wy (.cells #[.int .i64 za, .int .i64 zb, .int .i64 lo, .int .i64 hi] 120)))
          have hsz := HA0.out.fr.size
          have hlT := (HA0.out.lt (.tail _ (.tail _ (.head _)))).2
          have hlE := (HA0.out.lt (.tail _ (.head _))).2
          have hlM := (HA0.out.lt (.head _)).2
          obtain ⟨RB, hRB⟩ : ∃ RB, wy.heap.size = RB := ⟨_, rfl⟩
          have HAX : Hid (BF w (wy.alloc (.cells #[.int .i64 za, .int .i64 zb, .int .i64 lo, .int .i64 hi] 120)).drew [(RB, #[.int .i64 za, .int .i64 zb, .int .i64 lo, .int .i64 hi], 120), (w.heap.size, #[.slice pa nw pc, .slice (some ⟨b, off, none⟩) nr qc], 37), (w.heap.size + 1, #[.func (.func 111) #[] #[]], 151), (w.heap.size + 2, #[.slice va nw vc, .slice sa k sc], 98)]) := by rw [← hRB]; exact HA1.out.below (Below.refl _ _).drew
          have HRX : Hid (Rws w.heap.size (wy.alloc (.cells #[.int .i64 za, .int .i64 zb, .int .i64 lo, .int .i64 hi] 120)).drew [⟨3, 1, .slice va nw vc, nw, iL fw nw⟩, ⟨3, 1, .slice sa k sc, k, iL fr k⟩]) := HR1.out.below (Below.refl _ _).drew
          rw [hRB] at hlT hlE hlM ⊢
          clear y0 y1 y2 y3 x0 x1 x2 x3 HA0 HA1 HR0 HR1 hRB hb
          refine wp_region_Z (S := fun X => X.cell? ⟨RB, 2, none⟩ = some (.int .i64 lo) ∧ X.cell? ⟨RB, 3, none⟩ = some (.int .i64 hi) ∧ X.cell? ⟨w.heap.size + 1, 0, none⟩ = some (.func (.func 111) #[] #[]) ∧ X.cell? ⟨w.heap.size + 2, 1, none⟩ = some (.slice sa k sc)) (by kernel_rfl) (⟨HAX.out.cell (.head _) 2, HAX.out.cell (.head _) 3, HAX.out.cell (.tail _ (.tail _ (.head _))) 0, HAX.out.cell (.tail _ (.tail _ (.tail _ (.head _)))) 1⟩) (fun hS => ?_)
          generalize (wy.alloc (.cells #[.int .i64 za, .int .i64 zb, .int .i64 lo, .int .i64 hi] 120)).drew = X at *
          refine tk [0, 1, 2, 3, 4, 5] ?_
          repeat (refine tkZ (oi := ⟨_, _, _, _, _, _⟩) (v := ?_) rfl (by kernel_rfl) (by rfl) (fun _ _ _ h => h) hS ?_ ?_; rotate_left; (· rintro W' ⟨z0, z1, z2, z3⟩; go_simp; try with_reducible rfl); try simp only [Act.put, putA, putZ, putS])
          refine tk0 ?_
          refine wpAnyZ_next (rs := [6]) (by kernel_rfl) (by simp) ?_
          refine NextZ.cons (o := ⟨some 39, _, _, _, _, _⟩) rfl (fun K hK => ?_) NextZ.nil
          go_simp
          refine (HPV.out _).mono ?_
          rintro _ X0 ⟨rfl, hb0⟩
          (try go_wp2_with fail)
          have HA0 := Lib.hid (HAX.out.below hb0)
          have HR0 := Lib.hid (HRX.out.below hb0)
          refine hK.out _ _ (⟨HA0.out.cell (.head _) 2, HA0.out.cell (.head _) 3, HA0.out.cell (.tail _ (.tail _ (.head _))) 0, HA0.out.cell (.tail _ (.tail _ (.tail _ (.head _)))) 1⟩) (fun hS => ?_)
          clear hK K
          try simp only [Act.put, putA, putZ, putS]
          clear hb0
          refine wpAnyZ_next (rs := [7]) (by kernel_rfl) (by simp) ?_
          refine NextZ.cons (o := ⟨some 40, _, _, _, _, _⟩) rfl (fun K hK => ?_) NextZ.nil
          go_simp
          have HA1 := Lib.hid (HA0.out.below (below_alloc X0 (.cells #[.int .i64 hi] 3)))
          have HR1 := Lib.hid (HR0.out.below (below_alloc X0 (.cells #[.int .i64 hi] 3)))
          have HJ : Hid ((X0.alloc (.cells #[.int .i64 hi] 3)).heap[X0.heap.size]? = some (.cells #[.int .i64 hi] 3 (0, 0))) := heap_alloc_new _ _
          refine hK.out _ _ (⟨HA1.out.cell (.head _) 2, HA1.out.cell (.head _) 3, HA1.out.cell (.tail _ (.tail _ (.head _))) 0, HA1.out.cell (.tail _ (.tail _ (.tail _ (.head _)))) 1⟩) (fun hS => ?_)
          clear hK K
          try simp only [Act.put, putA, putZ, putS]
          generalize X0.heap.size = J at *
          generalize (X0.alloc (.cells #[.int .i64 hi] 3)) = X1 at *
          refine wpAnyZ_next (rs := [8]) (by kernel_rfl) (by simp) ?_
          refine NextZ.cons (o := ⟨some 41, _, _, _, _, _⟩) rfl (fun K hK => ?_) NextZ.nil
          refine step_append_src X1 (by rfl) (.tmp 34) (.tmp 40) 26 (by rfl) w.heap.size 3 i0 (.int .i64 0) 1 8 Try.underlying26 hi0 hz0 hz1 hz2 rfl (by decide) (.slice sa k sc) k (iL fr k) (by rfl) (HR1.out.own 1 _ rfl) (some ⟨J, 0, none⟩) 1 1 [.int .i64 hi] (by rfl) ⟨rfl, fun j u hu => ⟨_, rfl, World.news_of_block HJ.out j u hu⟩⟩ (by simp [Value.oneCell']) (by unfold maxLen; omega) (by omega) HA1.out.fr.size ?_
          intro v2 X2 hown hgr hl
          rw [← HIL.out] at hown
          obtain ⟨na, nc, rfl⟩ := own_slice' hown
          have HA2 := Lib.hid (BF.grow HA1.out HR1.out (i := 1) rfl (List.forall_mem_cons.2 ⟨(show 120 ≠ 3 by decide), List.forall_mem_cons.2 ⟨(show 37 ≠ 3 by decide), List.forall_mem_cons.2 ⟨(show 151 ≠ 3 by decide), List.forall_mem_cons.2 ⟨(show 98 ≠ 3 by decide), List.forall_mem_nil _⟩⟩⟩⟩) (Nat.le_refl _) hgr)
          have HR2 : Hid (Rws w.heap.size X2 [⟨3, 1, .slice va nw vc, nw, iL fw nw⟩, ⟨3, 1, .slice na (k + 1) nc, (k + 1), iL fr ((k + 1))⟩]) := HR1.out.app2 (i := 1) rfl hown hgr hl
          clear hown hgr hl
          refine hK.out _ _ (⟨HA2.out.cell (.head _) 2, HA2.out.cell (.head _) 3, HA2.out.cell (.tail _ (.tail _ (.head _))) 0, HA2.out.cell (.tail _ (.tail _ (.tail _ (.head _)))) 1⟩) (fun hS => ?_)
          clear hK K
          try simp only [Act.put, putA, putZ, putS]
          refine tZ 9 (oi := ⟨_, _, _, _, _, _⟩) (v := ?_) rfl (by kernel_rfl) (by rfl) (fun _ _ _ h => h) hS ?_ ?_
          rotate_left
          · rintro W' ⟨z0, z1, z2, z3⟩; go_simp; try with_reducible rfl
          try simp only [Act.put, putA, putZ, putS]
          refine wpAnyZ_next (rs := [10]) (by kernel_rfl) (by simp) ?_
          refine NextZ.last (o := ⟨none, _, _, _, _, _⟩) rfl (by kernel_rfl) (fun K hK => ?_)
          have e0 := HA2.out.cell (.tail _ (.tail _ (.tail _ (.head _)))) 1
          have f0 := HA2.out.thaw (.tail _ (.tail _ (.tail _ (.head _)))) 1
          have HA3 := Lib.hid (BF.set1 (i := 1) (cs' := #[.slice va nw vc, .slice na (k + 1) nc]) HA2.out (.tail _ (.tail _ (.tail _ (.head _)))) (.slice na (k + 1) nc) (by simp) rfl (L' := [(RB, #[.int .i64 za, .int .i64 zb, .int .i64 lo, .int .i64 hi], 120), (w.heap.size, #[.slice pa nw pc, .slice (some ⟨b, off, none⟩) nr qc], 37), (w.heap.size + 1, #[.func (.func 111) #[] #[]], 151)]) (List.forall_mem_cons.2 ⟨⟨show RB ≠ w.heap.size + 2 by omega, (.head _)⟩, List.forall_mem_cons.2 ⟨⟨show w.heap.size ≠ w.heap.size + 2 by omega, (.tail _ (.head _))⟩, List.forall_mem_cons.2 ⟨⟨show w.heap.size + 1 ≠ w.heap.size + 2 by omega, (.tail _ (.tail _ (.head _)))⟩, List.forall_mem_nil _⟩⟩⟩))
          have HR3 := Lib.hid (HR2.out.tab (HA2.out.bk _ _ _ (.tail _ (.tail _ (.tail _ (.head _))))).2 (List.forall_mem_cons.2 ⟨(show 98 ≠ 3 by decide), List.forall_mem_cons.2 ⟨(show 98 ≠ 3 by decide), List.forall_mem_nil _⟩⟩) (Fr.set X2 (w.heap.size + 2) 1 (.slice na (k + 1) nc)))
          go_simp
          refine hK.out _ _ ?_
          clear hK K
          (try simp only [Act.put])
          clear e0 f0
          refine wpAnyZ_done (by kernel_rfl) ?_ _
          go_wp2_with fail
          go_roundw
          case rel => exact ⟨k + 1, na, nc, by go_num, by omega, HA3.out.sub (List.forall_mem_cons.2 ⟨.tail _ (.tail _ (.head _)), List.forall_mem_cons.2 ⟨.tail _ (.tail _ (.tail _ (.head _))), List.forall_mem_cons.2 ⟨.head _, List.forall_mem_nil _⟩⟩⟩), HR3.out⟩
          case measure => simp [intOf]; omega
        · have hkn2 : nr = k := by omega
          subst hkn2
          have t0 := HA0.out.cell (.tail _ (.tail _ (.head _))) 0
          have t1 := HA0.out.cell (.tail _ (.tail _ (.head _))) 1
          have g0 := HA0.out.thaw (.tail _ (.tail _ (.head _))) 0
          have g1 := HA0.out.thaw (.tail _ (.tail _ (.head _))) 1
          have HA2 := Lib.hid (HA0.out.set2 (.tail _ (.tail _ (.head _))) (.slice va nw vc) (.slice sa nr sc) (L' := []) (List.forall_mem_nil _))
          have HR2 := Lib.hid (HR0.out.tab (HA0.out.bk _ _ _ (.tail _ (.tail _ (.head _)))).2 (List.forall_mem_cons.2 ⟨(show 98 ≠ 3 by decide), List.forall_mem_cons.2 ⟨(show 98 ≠ 3 by decide), List.forall_mem_nil _⟩⟩) ((Fr.set wy (w.heap.size + 2) 0 (.slice va nw vc)).trans (Fr.set _ (w.heap.size + 2) 1 (.slice sa nr sc))))
          go_wp2_with fail
          have e0 := HA2.out.cell (.head _) 0
          have e1 := HA2.out.cell (.head _) 1
          exact bodyPost_ret (v := .agg #[.slice va nw vc, .slice sa nr sc]) (by simp [results, Try.results89, go_sem, e0, e1]) rfl ⟨⟨va, vc, sa, sc⟩, rfl, HEND.out _ _ _ _ _ HR2.out, HA2.out.fr⟩
end Go.Proofs.Ytpnkgjkoophckaa
