/- Walk: Slow and Quick of the reference; word, picked, Picked of the law. Printed by gen_vb.py. -/
import Derived.Test.YtpnkgjkoophckaaVA
namespace Go.Proofs.Ytpnkgjkoophckaa
open Go.RowKit Go.Shelf

/-- Words in memory. -/
def WordsIn (w : World) (sv : Value) (n : Nat) (z : Nat → Int) : Prop :=
  (∃ a cap, sv = .slice a 0 cap ∧ n = 0) ∨ ∃ b off cap, sv = .slice (some ⟨b, off, none⟩) n cap ∧ b < w.heap.size ∧ ∀ j, j < n → w.cell? ⟨b, off + j, none⟩ = some (.int .u16 (z j)) ∧ 0 ≤ z j ∧ z j ≤ 65535
theorem WordsIn.below {w w' : World} {sv : Value} {n : Nat} {z : Nat → Int} (h : WordsIn w sv n z) (hB : Below w.heap.size w w') : WordsIn w' sv n z := by
  rcases h with h | ⟨b, off, cap, h1, h2, h3⟩
  · exact .inl h
  · exact .inr ⟨b, off, cap, h1, Nat.lt_of_lt_of_le h2 hB.size, fun j hj => ⟨kept hB h2 (h3 j hj).1, (h3 j hj).2⟩⟩
def wordF (n : Nat) (z : Nat → Int) (i : Int) : Int := if n = 0 then 0 else z (i.toNat % n)
theorem wordF_bd {w : World} {sv : Value} {n : Nat} {z : Nat → Int} (h : WordsIn w sv n z) (i : Int) : 0 ≤ wordF n z i ∧ wordF n z i ≤ 65535 := by
  unfold wordF
  split
  · omega
  · rcases h with ⟨_, _, _, h⟩ | ⟨_, _, _, _, _, h⟩
    · contradiction
    · exact (h _ (Nat.mod_lt _ (by omega))).2
set_option maxHeartbeats 1000000 in
theorem word_any (wv : Value) (n : Nat) (z : Nat → Int) (i : Int) (w : World) (h : WordsIn w wv n z) (hn : n ≤ maxLen) (_ : 0 ≤ i) :
    Calls Try.prog 93 #[wv, .int .i64 i] w fun e w' => e = .returned (.int .i64 (wordF n z i)) ∧ Below w.heap.size w w' := by
  unfold maxLen at hn
  obtain ⟨k, rfl⟩ : ∃ k : Nat, i = k := ⟨i.toNat, by omega⟩
  rcases h with ⟨a, cap, rfl, rfl⟩ | ⟨b, off, cap, rfl, hb, hc⟩
  · go_enter Try.func93, Try.ntmps93
    go_wp2_with fail
    go_ret
    exact ⟨rfl, Below.refl _ _⟩
  · by_cases hn0 : n = 0
    · subst hn0
      go_enter Try.func93, Try.ntmps93
      go_wp2_with fail
      go_ret
      exact ⟨rfl, Below.refl _ _⟩
    · have hlt : k % n < n := Nat.mod_lt _ (by omega)
      obtain ⟨x0, z0, z1⟩ := hc (k % n) hlt
      have HW : Hid (wordF n z (k : Int) = z (k % n)) := by unfold Hid wordF; rw [if_neg hn0, Int.toNat_natCast]
      have em : ((k : Int).tmod (n : Int)) = ((k % n : Nat) : Int) := rfl
      have em2 : ((k : Int) % (n : Int)) = ((k % n : Nat) : Int) := rfl
      have kn : ((n : Int) == 0) = false := by simp; omega
      have kn2 : (n : Int) ≠ 0 := by omega
      have ki : (0 : Int) ≤ ((k % n : Nat) : Int) := by omega
      have kj : ((k % n : Nat) : Int) < (n : Int) := by omega
      generalize k % n = q at *
      generalize z q = zq at *
      have kw : IntKind.i64.wrap zq = zq := IntWalk.i64_in _ (by omega)
      clear hc
      go_enter Try.func93, Try.ntmps93
      go_wp2_with fail
      go_ret
      exact ⟨ret_int (by rw [HW.out]), Below.refl _ _⟩
def pkV (r : R2) (v : Int) : Int := if v % 4 = 0 then r.1 else if v % 4 = 1 then r.2 else r.1 + v / 4 % (r.2 - r.1 + 1)
theorem pkV_bd {r : R2} {v : Int} (h : r.1 ≤ r.2) (_ : 0 ≤ v) : r.1 ≤ pkV r v ∧ pkV r v ≤ r.2 := by
  unfold pkV
  split
  · omega
  split
  · omega
  · have h1 := Int.emod_nonneg (v / 4) (show r.2 - r.1 + 1 ≠ 0 by omega)
    have h2 := Int.emod_lt_of_pos (v / 4) (show 0 < r.2 - r.1 + 1 by omega)
    omega
set_option maxHeartbeats 2000000 in
theorem pick1_any (r : R2) (v : Int) (w : World) (h : 0 ≤ r.1 ∧ r.1 ≤ r.2 ∧ r.2 ≤ 50) (hv : 0 ≤ v ∧ v ≤ 65535) :
    Calls Try.prog 92 #[.agg #[.int .i64 r.1, .int .i64 r.2], .int .i64 v] w fun e w' => e = .returned (.int .i64 (pkV r v)) ∧ Below w.heap.size w w' := by
  obtain ⟨lo, hi⟩ := r
  simp only at h ⊢
  have hbd := pkV_bd (r := (lo, hi)) (v := v) h.2.1 hv.1
  have HP : Hid (pkV (lo, hi) v = if v % 4 = 0 then lo else if v % 4 = 1 then hi else lo + v / 4 % (hi - lo + 1)) := rfl
  generalize pkV (lo, hi) v = pv at *
  have em : v.tmod 4 = v % 4 := Int.tmod_eq_emod_of_nonneg hv.1
  have ed : v.tdiv 4 = v / 4 := Int.tdiv_eq_ediv_of_nonneg hv.1
  have ed2 : 0 ≤ v / 4 := by omega
  have em2 : (v / 4).tmod (hi - lo + 1) = v / 4 % (hi - lo + 1) := Int.tmod_eq_emod_of_nonneg ed2
  have HB := Lib.hid (below_alloc w (.cells #[.int .i64 lo, .int .i64 hi] 77))
  by_cases ka : v % 4 = 0
  · have HP2 : Hid (pv = lo) := by have h := HP.out; rw [if_pos ka] at h; exact h
    have kb : (v % 4 == 0) = true := by simp [ka]
    clear HP ka
    go_enter Try.func92, Try.ntmps92
    go_wp2_with fail
    go_ret
    exact ⟨ret_int HP2.out.symm, HB.out⟩
  have kb : (v % 4 == 0) = false := by simp [ka]
  by_cases kc : v % 4 = 1
  · have HP2 : Hid (pv = hi) := by have h := HP.out; rw [if_neg ka, if_pos kc] at h; exact h
    have kd : (v % 4 == 1) = true := by simp [kc]
    clear HP ka kc
    go_enter Try.func92, Try.ntmps92
    go_wp2_with fail
    go_ret
    exact ⟨ret_int HP2.out.symm, HB.out⟩
  have kd : (v % 4 == 1) = false := by simp [kc]
  have HP2 : Hid (pv = lo + v / 4 % (hi - lo + 1)) := by have h := HP.out; rw [if_neg ka, if_neg kc] at h; exact h
  clear HP ka kc
  have k1 : IntKind.i64.wrap (hi - lo) = hi - lo := IntWalk.i64_in _ (by omega)
  have k2 : IntKind.i64.wrap (hi - lo + 1) = hi - lo + 1 := IntWalk.i64_in _ (by omega)
  have k3 : (hi - lo + 1 == 0) = false := by simp; omega
  have k4 : hi - lo + 1 ≠ 0 := by omega
  have k5 : IntKind.i64.wrap (lo + v / 4 % (hi - lo + 1)) = pv := (IntWalk.i64_in _ (by rw [← HP2.out]; omega)).trans HP2.out.symm
  clear HP2
  go_enter Try.func92, Try.ntmps92
  go_upto_region 6 with fail
  go_quiet (fail)
  go_wp2_with fail
  go_ret
  exact ⟨rfl, HB.out.trans (below_drewS _ _ _)⟩
set_option maxRecDepth 100000 in
set_option maxHeartbeats 8000000 in
theorem rSlow_any (x : MV) (m : Mp) (w : World) (h : MpIn w x m) (hnw : m.nw ≤ 100000) (hnr : m.nr ≤ 100000) :
    Calls Try.prog 41 #[.agg #[.slice x.wa m.nw x.wc, .slice x.ra m.nr x.rc]] w fun e w' => ∃ z : TV, e = .returned (.agg #[.slice z.wa m.nw z.wc, .slice z.ra m.nr z.rc]) ∧ TrOwn w.heap.size w' z m (fun i => (m.wk i).2) (fun i => (m.rt i).2) ∧ Below w.heap.size w w' := by
  obtain ⟨i0, hi0, hz0, hz1, hz2⟩ := info_parts Try.infoInt
  obtain ⟨pa, pc, qa, qc⟩ := x
  obtain ⟨hwk, hrd⟩ := h
  have HWK := Lib.hid hwk; have HRD := Lib.hid hrd
  clear hwk hrd
  simp only at *
  obtain ⟨fw, HFW⟩ : ∃ fw, Hid ((fun i => (m.wk i).2) = fw) := ⟨_, rfl⟩
  obtain ⟨fr, HFR⟩ : ∃ fr, Hid ((fun i => (m.rt i).2) = fr) := ⟨_, rfl⟩
  rw [HFW.out, HFR.out]
  have HFWk : Hid (∀ k, (fun i => (m.wk i).2) k = fw k) := fun k => congrFun HFW.out k
  have HFRk : Hid (∀ k, (fun i => (m.rt i).2) k = fr k) := fun k => congrFun HFR.out k
  clear HFW HFR
  have HEND : Hid (∀ (Y : World) (va : Option Addr) (vc : Nat) (sa : Option Addr) (sc : Nat), Rws w.heap.size Y [⟨3, 1, .slice va m.nw vc, m.nw, iL fw m.nw⟩, ⟨3, 1, .slice sa m.nr sc, m.nr, iL fr m.nr⟩] → TrOwn w.heap.size Y ⟨va, vc, sa, sc⟩ m fw fr) := fun Y va vc sa sc h => h
  obtain ⟨nw, HNW⟩ : ∃ nw, Hid (m.nw = nw) := ⟨_, rfl⟩
  obtain ⟨nr, HNR⟩ : ∃ nr, Hid (m.nr = nr) := ⟨_, rfl⟩
  rw [HNW.out, HNR.out] at HEND
  have HNW2 := Lib.hid HNW.out; have HNR2 := Lib.hid HNR.out
  rw [HNW.out] at HWK hnw ⊢
  rw [HNR.out] at HRD hnr ⊢
  (try rw [HNW.out] at HPIW)
  (try rw [HNR.out] at HPIR)
  clear HNW HNR HNW2 HNR2
  have HA0 : Hid (BF w (((w.alloc (.cells #[.slice pa nw pc, .slice qa nr qc] 25)).alloc (.cells #[.slice none 0 0, .slice none 0 0] 71)).alloc (.cells #[.slice none 0 0, .slice none 0 0] 71)) [(w.heap.size, #[.slice pa nw pc, .slice qa nr qc], 25), (w.heap.size + 1, #[.slice none 0 0, .slice none 0 0], 71), (w.heap.size + 2, #[.slice none 0 0, .slice none 0 0], 71)]) := BF.made3 _ _ _ _ _ _ _
  have HR0 : Hid (Rws w.heap.size (((w.alloc (.cells #[.slice pa nw pc, .slice qa nr qc] 25)).alloc (.cells #[.slice none 0 0, .slice none 0 0] 71)).alloc (.cells #[.slice none 0 0, .slice none 0 0] 71)) [⟨3, 1, .slice none 0 0, 0, iL fw 0⟩, ⟨3, 1, .slice none 0 0, 0, iL fr 0⟩]) := by
    refine ⟨fun i p hp => ?_, fun i j p q _ hp _ k e => ?_⟩
    · match i, hp with
      | 0, hp => cases hp; exact World.ownsRow_nil _ _ _ _
      | 1, hp => cases hp; exact World.ownsRow_nil _ _ _ _
    · match i, hp with
      | 0, hp => cases hp; cases e
      | 1, hp => cases hp; cases e
  go_enter Try.func41, Try.ntmps41
  go_wp2_with fail
  generalize (((w.alloc (.cells #[.slice pa nw pc, .slice qa nr qc] 25)).alloc (.cells #[.slice none 0 0, .slice none 0 0] 71)).alloc (.cells #[.slice none 0 0, .slice none 0 0] 71)) = w0 at *
  go_loopw [4] (fun i wr => ∃ k va vc, i = .int .i64 (k : Nat) ∧ k ≤ nw ∧ BF w wr [(w.heap.size, #[.slice pa nw pc, .slice qa nr qc], 25), (w.heap.size + 1, #[.slice none 0 0, .slice none 0 0], 71), (w.heap.size + 2, #[.slice va k vc, .slice none 0 0], 71)] ∧ Rws w.heap.size wr [⟨3, 1, .slice va k vc, k, iL fw k⟩, ⟨3, 1, .slice none 0 0, 0, iL fr 0⟩]) (fun i _ => nw - (intOf i).toNat)
  case atStart => exact ⟨0, none, 0, rfl, Nat.zero_le _, HA0.out, HR0.out⟩
  case round =>
    clear HA0 HR0
    obtain ⟨k, va, vc, rfl, hk, hbf, hrw⟩ := hrel
    have HA0 := Lib.hid hbf; have HR0 := Lib.hid hrw
    clear hbf hrw
    have c0 := HA0.out.cell (.head _) 0; have c1 := HA0.out.cell (.head _) 1
    by_cases hlt : k < nw
    · obtain ⟨b, off, rfl, hb, x0, x1⟩ := HWK.out.at (k := k) hlt
      have HIL : Hid (iL fw (k + 1) = iL fw k ++ [.int .i64 ((fun i => (m.wk i).2) k)]) := by unfold Hid; rw [iL_succ, ← HFWk.out k]
      have ki : (0 : Int) ≤ (k : Int) := by omega
      have kj : (k : Int) < (nw : Int) := by omega
      simp only at HIL
      generalize (m.wk k).2 = pv at *
      go_upto_region 5 with fail
      have hsz := HA0.out.fr.size
      have hlO := (HA0.out.lt (.tail _ (.tail _ (.head _)))).2
      have hlR := (HA0.out.lt (.tail _ (.head _))).2
      have hlM := (HA0.out.lt (.head _)).2
      have HAX : Hid (BF w wr.drew [(w.heap.size, #[.slice (some ⟨b, off, none⟩) nw pc, .slice qa nr qc], 25), (w.heap.size + 1, #[.slice none 0 0, .slice none 0 0], 71), (w.heap.size + 2, #[.slice va k vc, .slice none 0 0], 71)]) := HA0.out.below (Below.refl _ _).drew
      have HRX : Hid (Rws w.heap.size wr.drew [⟨3, 1, .slice va k vc, k, iL fw k⟩, ⟨3, 1, .slice none 0 0, 0, iL fr 0⟩]) := HR0.out.below (Below.refl _ _).drew
      clear c0 c1 HA0 HR0
      refine wp_region_Z (S := fun X => X.cell? ⟨b, off + k * 2 + 1, none⟩ = some (.int .i64 pv) ∧ X.cell? ⟨w.heap.size, 0, none⟩ = some (.slice (some ⟨b, off, none⟩) nw pc) ∧ X.cell? ⟨w.heap.size + 2, 0, none⟩ = some (.slice va k vc)) (by kernel_rfl) (⟨kept HAX.out.fr hb x1, HAX.out.cell (.head _) 0, HAX.out.cell (.tail _ (.tail _ (.head _))) 0⟩) (fun hS => ?_)
      generalize wr.drew = X at *
      refine tk [0, 1, 2, 3, 4, 5, 6, 7] ?_
      repeat (refine tkZ (oi := ⟨_, _, _, _, _, _⟩) (v := ?_) rfl (by kernel_rfl) (by rfl) (fun _ _ _ h => h) hS ?_ ?_; rotate_left; (· rintro W' ⟨z0, z1, z2⟩; go_simp; try with_reducible rfl); try simp only [Act.put, putA, putZ, putS])
      refine tk0 ?_
      refine wpAnyZ_next (rs := [8]) (by kernel_rfl) (by simp) ?_
      refine NextZ.cons (o := ⟨some 21, _, _, _, _, _⟩) rfl (fun K hK => ?_) NextZ.nil
      go_simp
      have HA0 := Lib.hid (HAX.out.below (below_alloc X (.cells #[.int .i64 pv] 3)))
      have HR0 := Lib.hid (HRX.out.below (below_alloc X (.cells #[.int .i64 pv] 3)))
      have HJ : Hid ((X.alloc (.cells #[.int .i64 pv] 3)).heap[X.heap.size]? = some (.cells #[.int .i64 pv] 3 (0, 0))) := heap_alloc_new _ _
      refine hK.out _ _ (⟨kept HA0.out.fr hb x1, HA0.out.cell (.head _) 0, HA0.out.cell (.tail _ (.tail _ (.head _))) 0⟩) (fun hS => ?_)
      clear hK K
      try simp only [Act.put, putA, putZ, putS]
      generalize X.heap.size = J at *
      generalize (X.alloc (.cells #[.int .i64 pv] 3)) = X0 at *
      refine wpAnyZ_next (rs := [9]) (by kernel_rfl) (by simp) ?_
      refine NextZ.cons (o := ⟨some 22, _, _, _, _, _⟩) rfl (fun K hK => ?_) NextZ.nil
      refine step_append_src X0 (by rfl) (.tmp 14) (.tmp 21) 26 (by rfl) w.heap.size 3 i0 (.int .i64 0) 1 8 Try.underlying26 hi0 hz0 hz1 hz2 rfl (by decide) (.slice va k vc) k (iL fw k) (by rfl) (HR0.out.own 0 _ rfl) (some ⟨J, 0, none⟩) 1 1 [.int .i64 pv] (by rfl) ⟨rfl, fun j u hu => ⟨_, rfl, World.news_of_block HJ.out j u hu⟩⟩ (by simp [Value.oneCell']) (by unfold maxLen; omega) (by omega) HA0.out.fr.size ?_
      intro v1 X1 hown hgr hl
      rw [← HIL.out] at hown
      obtain ⟨na, nc, rfl⟩ := own_slice' hown
      have HA1 := Lib.hid (BF.grow HA0.out HR0.out (i := 0) rfl (List.forall_mem_cons.2 ⟨(show 25 ≠ 3 by decide), List.forall_mem_cons.2 ⟨(show 71 ≠ 3 by decide), List.forall_mem_cons.2 ⟨(show 71 ≠ 3 by decide), List.forall_mem_nil _⟩⟩⟩) (Nat.le_refl _) hgr)
      have HR1 : Hid (Rws w.heap.size X1 [⟨3, 1, .slice na (k + 1) nc, (k + 1), iL fw ((k + 1))⟩, ⟨3, 1, .slice none 0 0, 0, iL fr 0⟩]) := HR0.out.app2 (i := 0) rfl hown hgr hl
      clear hown hgr hl
      refine hK.out _ _ (⟨kept HA1.out.fr hb x1, HA1.out.cell (.head _) 0, HA1.out.cell (.tail _ (.tail _ (.head _))) 0⟩) (fun hS => ?_)
      clear hK K
      try simp only [Act.put, putA, putZ, putS]
      refine tZ 10 (oi := ⟨_, _, _, _, _, _⟩) (v := ?_) rfl (by kernel_rfl) (by rfl) (fun _ _ _ h => h) hS ?_ ?_
      rotate_left
      · rintro W' ⟨z0, z1, z2⟩; go_simp; try with_reducible rfl
      try simp only [Act.put, putA, putZ, putS]
      refine wpAnyZ_next (rs := [11]) (by kernel_rfl) (by simp) ?_
      refine NextZ.last (o := ⟨none, _, _, _, _, _⟩) rfl (by kernel_rfl) (fun K hK => ?_)
      have e0 := HA1.out.cell (.tail _ (.tail _ (.head _))) 0
      have f0 := HA1.out.thaw (.tail _ (.tail _ (.head _))) 0
      have HA2 := Lib.hid (BF.set1 (i := 0) (cs' := #[.slice na (k + 1) nc, .slice none 0 0]) HA1.out (.tail _ (.tail _ (.head _))) (.slice na (k + 1) nc) (by simp) rfl (L' := [(w.heap.size, #[.slice (some ⟨b, off, none⟩) nw pc, .slice qa nr qc], 25), (w.heap.size + 1, #[.slice none 0 0, .slice none 0 0], 71)]) (List.forall_mem_cons.2 ⟨⟨show w.heap.size ≠ w.heap.size + 2 by omega, (.head _)⟩, List.forall_mem_cons.2 ⟨⟨show w.heap.size + 1 ≠ w.heap.size + 2 by omega, (.tail _ (.head _))⟩, List.forall_mem_nil _⟩⟩))
      have HR2 := Lib.hid (HR1.out.tab (HA1.out.bk _ _ _ (.tail _ (.tail _ (.head _)))).2 (List.forall_mem_cons.2 ⟨(show 71 ≠ 3 by decide), List.forall_mem_cons.2 ⟨(show 71 ≠ 3 by decide), List.forall_mem_nil _⟩⟩) (Fr.set X1 (w.heap.size + 2) 0 (.slice na (k + 1) nc)))
      go_simp
      refine hK.out _ _ ?_
      clear hK K
      (try simp only [Act.put])
      clear e0 f0
      refine wpAnyZ_done (by kernel_rfl) ?_ _
      go_wp2_with fail
      go_roundw
      case rel => exact ⟨k + 1, na, nc, by go_num, by omega, HA2.out.sub (List.forall_mem_cons.2 ⟨(.tail _ (.head _)), List.forall_mem_cons.2 ⟨(.tail _ (.tail _ (.head _))), List.forall_mem_cons.2 ⟨(.head _), List.forall_mem_nil _⟩⟩⟩), HR2.out⟩
      case measure => simp [intOf]; omega
    · have hkn : nw = k := by omega
      subst hkn
      go_wp2_with fail
      go_loopw [5] (fun i wr => ∃ k sa sc, i = .int .i64 (k : Nat) ∧ k ≤ nr ∧ BF w wr [(w.heap.size, #[.slice pa nw pc, .slice qa nr qc], 25), (w.heap.size + 1, #[.slice none 0 0, .slice none 0 0], 71), (w.heap.size + 2, #[.slice va nw vc, .slice sa k sc], 71)] ∧ Rws w.heap.size wr [⟨3, 1, .slice va nw vc, nw, iL fw nw⟩, ⟨3, 1, .slice sa k sc, k, iL fr k⟩]) (fun i _ => nr - (intOf i).toNat)
      case atStart => exact ⟨0, none, 0, rfl, Nat.zero_le _, HA0.out, HR0.out⟩
      case round =>
        clear HA0 HR0 c0 c1
        obtain ⟨k, sa, sc, rfl, hk2, hbf, hrw⟩ := hrel
        rename World => wy
        have HA0 := Lib.hid hbf; have HR0 := Lib.hid hrw
        clear hbf hrw
        have c0 := HA0.out.cell (.head _) 0; have c1 := HA0.out.cell (.head _) 1
        by_cases hlt2 : k < nr
        · obtain ⟨b, off, rfl, hb, x0, x1, x2, x3⟩ := HRD.out.at (k := k) hlt2
          have HIL : Hid (iL fr (k + 1) = iL fr k ++ [.int .i64 ((fun i => (m.rt i).2) k)]) := by unfold Hid; rw [iL_succ, ← HFRk.out k]
          have ki : (0 : Int) ≤ (k : Int) := by omega
          have kj : (k : Int) < (nr : Int) := by omega
          simp only at HIL
          generalize (m.rt k).2 = pv at *
          go_upto_region 9 with fail
          have hsz := HA0.out.fr.size
          have hlO := (HA0.out.lt (.tail _ (.tail _ (.head _)))).2
          have hlR := (HA0.out.lt (.tail _ (.head _))).2
          have hlM := (HA0.out.lt (.head _)).2
          have HAX : Hid (BF w wy.drew [(w.heap.size, #[.slice pa nw pc, .slice (some ⟨b, off, none⟩) nr qc], 25), (w.heap.size + 1, #[.slice none 0 0, .slice none 0 0], 71), (w.heap.size + 2, #[.slice va nw vc, .slice sa k sc], 71)]) := HA0.out.below (Below.refl _ _).drew
          have HRX : Hid (Rws w.heap.size wy.drew [⟨3, 1, .slice va nw vc, nw, iL fw nw⟩, ⟨3, 1, .slice sa k sc, k, iL fr k⟩]) := HR0.out.below (Below.refl _ _).drew
          clear c0 c1 HA0 HR0
          refine wp_region_Z (S := fun X => X.cell? ⟨b, off + k * 4 + 3, none⟩ = some (.int .i64 pv) ∧ X.cell? ⟨w.heap.size, 1, none⟩ = some (.slice (some ⟨b, off, none⟩) nr qc) ∧ X.cell? ⟨w.heap.size + 2, 1, none⟩ = some (.slice sa k sc)) (by kernel_rfl) (⟨kept HAX.out.fr hb x3, HAX.out.cell (.head _) 1, HAX.out.cell (.tail _ (.tail _ (.head _))) 1⟩) (fun hS => ?_)
          generalize wy.drew = X at *
          refine tk [0, 1, 2, 3, 4, 5, 6, 7, 8] ?_
          repeat (refine tkZ (oi := ⟨_, _, _, _, _, _⟩) (v := ?_) rfl (by kernel_rfl) (by rfl) (fun _ _ _ h => h) hS ?_ ?_; rotate_left; (· rintro W' ⟨z0, z1, z2⟩; go_simp; try with_reducible rfl); try simp only [Act.put, putA, putZ, putS])
          refine tk0 ?_
          refine wpAnyZ_next (rs := [9]) (by kernel_rfl) (by simp) ?_
          refine NextZ.cons (o := ⟨some 40, _, _, _, _, _⟩) rfl (fun K hK => ?_) NextZ.nil
          go_simp
          have HA0 := Lib.hid (HAX.out.below (below_alloc X (.cells #[.int .i64 pv] 3)))
          have HR0 := Lib.hid (HRX.out.below (below_alloc X (.cells #[.int .i64 pv] 3)))
          have HJ : Hid ((X.alloc (.cells #[.int .i64 pv] 3)).heap[X.heap.size]? = some (.cells #[.int .i64 pv] 3 (0, 0))) := heap_alloc_new _ _
          refine hK.out _ _ (⟨kept HA0.out.fr hb x3, HA0.out.cell (.head _) 1, HA0.out.cell (.tail _ (.tail _ (.head _))) 1⟩) (fun hS => ?_)
          clear hK K
          try simp only [Act.put, putA, putZ, putS]
          generalize X.heap.size = J at *
          generalize (X.alloc (.cells #[.int .i64 pv] 3)) = X0 at *
          refine wpAnyZ_next (rs := [10]) (by kernel_rfl) (by simp) ?_
          refine NextZ.cons (o := ⟨some 41, _, _, _, _, _⟩) rfl (fun K hK => ?_) NextZ.nil
          refine step_append_src X0 (by rfl) (.tmp 32) (.tmp 40) 26 (by rfl) w.heap.size 3 i0 (.int .i64 0) 1 8 Try.underlying26 hi0 hz0 hz1 hz2 rfl (by decide) (.slice sa k sc) k (iL fr k) (by rfl) (HR0.out.own 1 _ rfl) (some ⟨J, 0, none⟩) 1 1 [.int .i64 pv] (by rfl) ⟨rfl, fun j u hu => ⟨_, rfl, World.news_of_block HJ.out j u hu⟩⟩ (by simp [Value.oneCell']) (by unfold maxLen; omega) (by omega) HA0.out.fr.size ?_
          intro v1 X1 hown hgr hl
          rw [← HIL.out] at hown
          obtain ⟨na, nc, rfl⟩ := own_slice' hown
          have HA1 := Lib.hid (BF.grow HA0.out HR0.out (i := 1) rfl (List.forall_mem_cons.2 ⟨(show 25 ≠ 3 by decide), List.forall_mem_cons.2 ⟨(show 71 ≠ 3 by decide), List.forall_mem_cons.2 ⟨(show 71 ≠ 3 by decide), List.forall_mem_nil _⟩⟩⟩) (Nat.le_refl _) hgr)
          have HR1 : Hid (Rws w.heap.size X1 [⟨3, 1, .slice va nw vc, nw, iL fw nw⟩, ⟨3, 1, .slice na (k + 1) nc, (k + 1), iL fr ((k + 1))⟩]) := HR0.out.app2 (i := 1) rfl hown hgr hl
          clear hown hgr hl
          refine hK.out _ _ (⟨kept HA1.out.fr hb x3, HA1.out.cell (.head _) 1, HA1.out.cell (.tail _ (.tail _ (.head _))) 1⟩) (fun hS => ?_)
          clear hK K
          try simp only [Act.put, putA, putZ, putS]
          refine tZ 11 (oi := ⟨_, _, _, _, _, _⟩) (v := ?_) rfl (by kernel_rfl) (by rfl) (fun _ _ _ h => h) hS ?_ ?_
          rotate_left
          · rintro W' ⟨z0, z1, z2⟩; go_simp; try with_reducible rfl
          try simp only [Act.put, putA, putZ, putS]
          refine wpAnyZ_next (rs := [12]) (by kernel_rfl) (by simp) ?_
          refine NextZ.last (o := ⟨none, _, _, _, _, _⟩) rfl (by kernel_rfl) (fun K hK => ?_)
          have e0 := HA1.out.cell (.tail _ (.tail _ (.head _))) 1
          have f0 := HA1.out.thaw (.tail _ (.tail _ (.head _))) 1
          have HA2 := Lib.hid (BF.set1 (i := 1) (cs' := #[.slice va nw vc, .slice na (k + 1) nc]) HA1.out (.tail _ (.tail _ (.head _))) (.slice na (k + 1) nc) (by simp) rfl (L' := [(w.heap.size, #[.slice pa nw pc, .slice (some ⟨b, off, none⟩) nr qc], 25), (w.heap.size + 1, #[.slice none 0 0, .slice none 0 0], 71)]) (List.forall_mem_cons.2 ⟨⟨show w.heap.size ≠ w.heap.size + 2 by omega, (.head _)⟩, List.forall_mem_cons.2 ⟨⟨show w.heap.size + 1 ≠ w.heap.size + 2 by omega, (.tail _ (.head _))⟩, List.forall_mem_nil _⟩⟩))
          have HR2 := Lib.hid (HR1.out.tab (HA1.out.bk _ _ _ (.tail _ (.tail _ (.head _)))).2 (List.forall_mem_cons.2 ⟨(show 71 ≠ 3 by decide), List.forall_mem_cons.2 ⟨(show 71 ≠ 3 by decide), List.forall_mem_nil _⟩⟩) (Fr.set X1 (w.heap.size + 2) 1 (.slice na (k + 1) nc)))
          go_simp
          refine hK.out _ _ ?_
          clear hK K
          (try simp only [Act.put])
          clear e0 f0
          refine wpAnyZ_done (by kernel_rfl) ?_ _
          go_wp2_with fail
          go_roundw
          case rel => exact ⟨k + 1, na, nc, by go_num, by omega, HA2.out.sub (List.forall_mem_cons.2 ⟨(.tail _ (.head _)), List.forall_mem_cons.2 ⟨(.tail _ (.tail _ (.head _))), List.forall_mem_cons.2 ⟨(.head _), List.forall_mem_nil _⟩⟩⟩), HR2.out⟩
          case measure => simp [intOf]; omega
        · have hkn2 : nr = k := by omega
          subst hkn2
          have o0 := HA0.out.cell (.tail _ (.tail _ (.head _))) 0
          have o1 := HA0.out.cell (.tail _ (.tail _ (.head _))) 1
          have t0 := HA0.out.cell (.tail _ (.head _)) 0
          have t1 := HA0.out.cell (.tail _ (.head _)) 1
          have g0 := HA0.out.thaw (.tail _ (.head _)) 0
          have g1 := HA0.out.thaw (.tail _ (.head _)) 1
          have HA2 := Lib.hid (HA0.out.set2 (.tail _ (.head _)) (.slice va nw vc) (.slice sa nr sc) (L' := []) (List.forall_mem_nil _))
          have HR2 := Lib.hid (HR0.out.tab (HA0.out.bk _ _ _ (.tail _ (.head _))).2 (List.forall_mem_cons.2 ⟨(show 71 ≠ 3 by decide), List.forall_mem_cons.2 ⟨(show 71 ≠ 3 by decide), List.forall_mem_nil _⟩⟩) ((Fr.set wy (w.heap.size + 1) 0 (.slice va nw vc)).trans (Fr.set _ (w.heap.size + 1) 1 (.slice sa nr sc))))
          go_wp2_with fail
          have e0 := HA2.out.cell (.head _) 0
          have e1 := HA2.out.cell (.head _) 1
          exact bodyPost_ret (v := .agg #[.slice va nw vc, .slice sa nr sc]) (by simp [results, Try.results41, go_sem, e0, e1]) rfl ⟨⟨va, vc, sa, sc⟩, rfl, HEND.out _ _ _ _ _ HR2.out, HA2.out.fr⟩
set_option maxRecDepth 100000 in
set_option maxHeartbeats 8000000 in
theorem rQuick_any (x : MV) (m : Mp) (w : World) (h : MpIn w x m) (hnw : m.nw ≤ 100000) (hnr : m.nr ≤ 100000) :
    Calls Try.prog 58 #[.agg #[.slice x.wa m.nw x.wc, .slice x.ra m.nr x.rc]] w fun e w' => ∃ z : TV, e = .returned (.agg #[.slice z.wa m.nw z.wc, .slice z.ra m.nr z.rc]) ∧ TrOwn w.heap.size w' z m (fun i => (m.wk i).1) (fun i => (m.rt i).1) ∧ Below w.heap.size w w' := by
  obtain ⟨i0, hi0, hz0, hz1, hz2⟩ := info_parts Try.infoInt
  obtain ⟨pa, pc, qa, qc⟩ := x
  obtain ⟨hwk, hrd⟩ := h
  have HWK := Lib.hid hwk; have HRD := Lib.hid hrd
  clear hwk hrd
  simp only at *
  obtain ⟨fw, HFW⟩ : ∃ fw, Hid ((fun i => (m.wk i).1) = fw) := ⟨_, rfl⟩
  obtain ⟨fr, HFR⟩ : ∃ fr, Hid ((fun i => (m.rt i).1) = fr) := ⟨_, rfl⟩
  rw [HFW.out, HFR.out]
  have HFWk : Hid (∀ k, (fun i => (m.wk i).1) k = fw k) := fun k => congrFun HFW.out k
  have HFRk : Hid (∀ k, (fun i => (m.rt i).1) k = fr k) := fun k => congrFun HFR.out k
  clear HFW HFR
  have HEND : Hid (∀ (Y : World) (va : Option Addr) (vc : Nat) (sa : Option Addr) (sc : Nat), Rws w.heap.size Y [⟨3, 1, .slice va m.nw vc, m.nw, iL fw m.nw⟩, ⟨3, 1, .slice sa m.nr sc, m.nr, iL fr m.nr⟩] → TrOwn w.heap.size Y ⟨va, vc, sa, sc⟩ m fw fr) := fun Y va vc sa sc h => h
  obtain ⟨nw, HNW⟩ : ∃ nw, Hid (m.nw = nw) := ⟨_, rfl⟩
  obtain ⟨nr, HNR⟩ : ∃ nr, Hid (m.nr = nr) := ⟨_, rfl⟩
  rw [HNW.out, HNR.out] at HEND
  have HNW2 := Lib.hid HNW.out; have HNR2 := Lib.hid HNR.out
  rw [HNW.out] at HWK hnw ⊢
  rw [HNR.out] at HRD hnr ⊢
  (try rw [HNW.out] at HPIW)
  (try rw [HNR.out] at HPIR)
  clear HNW HNR HNW2 HNR2
  have HA0 : Hid (BF w (((w.alloc (.cells #[.slice pa nw pc, .slice qa nr qc] 25)).alloc (.cells #[.slice none 0 0, .slice none 0 0] 71)).alloc (.cells #[.slice none 0 0, .slice none 0 0] 71)) [(w.heap.size, #[.slice pa nw pc, .slice qa nr qc], 25), (w.heap.size + 1, #[.slice none 0 0, .slice none 0 0], 71), (w.heap.size + 2, #[.slice none 0 0, .slice none 0 0], 71)]) := BF.made3 _ _ _ _ _ _ _
  have HR0 : Hid (Rws w.heap.size (((w.alloc (.cells #[.slice pa nw pc, .slice qa nr qc] 25)).alloc (.cells #[.slice none 0 0, .slice none 0 0] 71)).alloc (.cells #[.slice none 0 0, .slice none 0 0] 71)) [⟨3, 1, .slice none 0 0, 0, iL fw 0⟩, ⟨3, 1, .slice none 0 0, 0, iL fr 0⟩]) := by
    refine ⟨fun i p hp => ?_, fun i j p q _ hp _ k e => ?_⟩
    · match i, hp with
      | 0, hp => cases hp; exact World.ownsRow_nil _ _ _ _
      | 1, hp => cases hp; exact World.ownsRow_nil _ _ _ _
    · match i, hp with
      | 0, hp => cases hp; cases e
      | 1, hp => cases hp; cases e
  go_enter Try.func58, Try.ntmps58
  go_wp2_with fail
  generalize (((w.alloc (.cells #[.slice pa nw pc, .slice qa nr qc] 25)).alloc (.cells #[.slice none 0 0, .slice none 0 0] 71)).alloc (.cells #[.slice none 0 0, .slice none 0 0] 71)) = w0 at *
  go_loopw [4] (fun i wr => ∃ k va vc, i = .int .i64 (k : Nat) ∧ k ≤ nw ∧ BF w wr [(w.heap.size, #[.slice pa nw pc, .slice qa nr qc], 25), (w.heap.size + 1, #[.slice none 0 0, .slice none 0 0], 71), (w.heap.size + 2, #[.slice va k vc, .slice none 0 0], 71)] ∧ Rws w.heap.size wr [⟨3, 1, .slice va k vc, k, iL fw k⟩, ⟨3, 1, .slice none 0 0, 0, iL fr 0⟩]) (fun i _ => nw - (intOf i).toNat)
  case atStart => exact ⟨0, none, 0, rfl, Nat.zero_le _, HA0.out, HR0.out⟩
  case round =>
    clear HA0 HR0
    obtain ⟨k, va, vc, rfl, hk, hbf, hrw⟩ := hrel
    have HA0 := Lib.hid hbf; have HR0 := Lib.hid hrw
    clear hbf hrw
    have c0 := HA0.out.cell (.head _) 0; have c1 := HA0.out.cell (.head _) 1
    by_cases hlt : k < nw
    · obtain ⟨b, off, rfl, hb, x0, x1⟩ := HWK.out.at (k := k) hlt
      have HIL : Hid (iL fw (k + 1) = iL fw k ++ [.int .i64 ((fun i => (m.wk i).1) k)]) := by unfold Hid; rw [iL_succ, ← HFWk.out k]
      have ki : (0 : Int) ≤ (k : Int) := by omega
      have kj : (k : Int) < (nw : Int) := by omega
      simp only at HIL
      generalize (m.wk k).1 = pv at *
      go_upto_region 5 with fail
      have hsz := HA0.out.fr.size
      have hlO := (HA0.out.lt (.tail _ (.tail _ (.head _)))).2
      have hlR := (HA0.out.lt (.tail _ (.head _))).2
      have hlM := (HA0.out.lt (.head _)).2
      have HAX : Hid (BF w wr.drew [(w.heap.size, #[.slice (some ⟨b, off, none⟩) nw pc, .slice qa nr qc], 25), (w.heap.size + 1, #[.slice none 0 0, .slice none 0 0], 71), (w.heap.size + 2, #[.slice va k vc, .slice none 0 0], 71)]) := HA0.out.below (Below.refl _ _).drew
      have HRX : Hid (Rws w.heap.size wr.drew [⟨3, 1, .slice va k vc, k, iL fw k⟩, ⟨3, 1, .slice none 0 0, 0, iL fr 0⟩]) := HR0.out.below (Below.refl _ _).drew
      clear c0 c1 HA0 HR0
      refine wp_region_Z (S := fun X => X.cell? ⟨b, off + k * 2, none⟩ = some (.int .i64 pv) ∧ X.cell? ⟨w.heap.size, 0, none⟩ = some (.slice (some ⟨b, off, none⟩) nw pc) ∧ X.cell? ⟨w.heap.size + 2, 0, none⟩ = some (.slice va k vc)) (by kernel_rfl) (⟨kept HAX.out.fr hb x0, HAX.out.cell (.head _) 0, HAX.out.cell (.tail _ (.tail _ (.head _))) 0⟩) (fun hS => ?_)
      generalize wr.drew = X at *
      refine tk [0, 1, 2, 3, 4, 5, 6, 7] ?_
      repeat (refine tkZ (oi := ⟨_, _, _, _, _, _⟩) (v := ?_) rfl (by kernel_rfl) (by rfl) (fun _ _ _ h => h) hS ?_ ?_; rotate_left; (· rintro W' ⟨z0, z1, z2⟩; go_simp; try with_reducible rfl); try simp only [Act.put, putA, putZ, putS])
      refine tk0 ?_
      refine wpAnyZ_next (rs := [8]) (by kernel_rfl) (by simp) ?_
      refine NextZ.cons (o := ⟨some 21, _, _, _, _, _⟩) rfl (fun K hK => ?_) NextZ.nil
      go_simp
      have HA0 := Lib.hid (HAX.out.below (below_alloc X (.cells #[.int .i64 pv] 3)))
      have HR0 := Lib.hid (HRX.out.below (below_alloc X (.cells #[.int .i64 pv] 3)))
      have HJ : Hid ((X.alloc (.cells #[.int .i64 pv] 3)).heap[X.heap.size]? = some (.cells #[.int .i64 pv] 3 (0, 0))) := heap_alloc_new _ _
      refine hK.out _ _ (⟨kept HA0.out.fr hb x0, HA0.out.cell (.head _) 0, HA0.out.cell (.tail _ (.tail _ (.head _))) 0⟩) (fun hS => ?_)
      clear hK K
      try simp only [Act.put, putA, putZ, putS]
      generalize X.heap.size = J at *
      generalize (X.alloc (.cells #[.int .i64 pv] 3)) = X0 at *
      refine wpAnyZ_next (rs := [9]) (by kernel_rfl) (by simp) ?_
      refine NextZ.cons (o := ⟨some 22, _, _, _, _, _⟩) rfl (fun K hK => ?_) NextZ.nil
      refine step_append_src X0 (by rfl) (.tmp 14) (.tmp 21) 26 (by rfl) w.heap.size 3 i0 (.int .i64 0) 1 8 Try.underlying26 hi0 hz0 hz1 hz2 rfl (by decide) (.slice va k vc) k (iL fw k) (by rfl) (HR0.out.own 0 _ rfl) (some ⟨J, 0, none⟩) 1 1 [.int .i64 pv] (by rfl) ⟨rfl, fun j u hu => ⟨_, rfl, World.news_of_block HJ.out j u hu⟩⟩ (by simp [Value.oneCell']) (by unfold maxLen; omega) (by omega) HA0.out.fr.size ?_
      intro v1 X1 hown hgr hl
      rw [← HIL.out] at hown
      obtain ⟨na, nc, rfl⟩ := own_slice' hown
      have HA1 := Lib.hid (BF.grow HA0.out HR0.out (i := 0) rfl (List.forall_mem_cons.2 ⟨(show 25 ≠ 3 by decide), List.forall_mem_cons.2 ⟨(show 71 ≠ 3 by decide), List.forall_mem_cons.2 ⟨(show 71 ≠ 3 by decide), List.forall_mem_nil _⟩⟩⟩) (Nat.le_refl _) hgr)
      have HR1 : Hid (Rws w.heap.size X1 [⟨3, 1, .slice na (k + 1) nc, (k + 1), iL fw ((k + 1))⟩, ⟨3, 1, .slice none 0 0, 0, iL fr 0⟩]) := HR0.out.app2 (i := 0) rfl hown hgr hl
      clear hown hgr hl
      refine hK.out _ _ (⟨kept HA1.out.fr hb x0, HA1.out.cell (.head _) 0, HA1.out.cell (.tail _ (.tail _ (.head _))) 0⟩) (fun hS => ?_)
      clear hK K
      try simp only [Act.put, putA, putZ, putS]
      refine tZ 10 (oi := ⟨_, _, _, _, _, _⟩) (v := ?_) rfl (by kernel_rfl) (by rfl) (fun _ _ _ h => h) hS ?_ ?_
      rotate_left
      · rintro W' ⟨z0, z1, z2⟩; go_simp; try with_reducible rfl
      try simp only [Act.put, putA, putZ, putS]
      refine wpAnyZ_next (rs := [11]) (by kernel_rfl) (by simp) ?_
      refine NextZ.last (o := ⟨none, _, _, _, _, _⟩) rfl (by kernel_rfl) (fun K hK => ?_)
      have e0 := HA1.out.cell (.tail _ (.tail _ (.head _))) 0
      have f0 := HA1.out.thaw (.tail _ (.tail _ (.head _))) 0
      have HA2 := Lib.hid (BF.set1 (i := 0) (cs' := #[.slice na (k + 1) nc, .slice none 0 0]) HA1.out (.tail _ (.tail _ (.head _))) (.slice na (k + 1) nc) (by simp) rfl (L' := [(w.heap.size, #[.slice (some ⟨b, off, none⟩) nw pc, .slice qa nr qc], 25), (w.heap.size + 1, #[.slice none 0 0, .slice none 0 0], 71)]) (List.forall_mem_cons.2 ⟨⟨show w.heap.size ≠ w.heap.size + 2 by omega, (.head _)⟩, List.forall_mem_cons.2 ⟨⟨show w.heap.size + 1 ≠ w.heap.size + 2 by omega, (.tail _ (.head _))⟩, List.forall_mem_nil _⟩⟩))
      have HR2 := Lib.hid (HR1.out.tab (HA1.out.bk _ _ _ (.tail _ (.tail _ (.head _)))).2 (List.forall_mem_cons.2 ⟨(show 71 ≠ 3 by decide), List.forall_mem_cons.2 ⟨(show 71 ≠ 3 by decide), List.forall_mem_nil _⟩⟩) (Fr.set X1 (w.heap.size + 2) 0 (.slice na (k + 1) nc)))
      go_simp
      refine hK.out _ _ ?_
      clear hK K
      (try simp only [Act.put])
      clear e0 f0
      refine wpAnyZ_done (by kernel_rfl) ?_ _
      go_wp2_with fail
      go_roundw
      case rel => exact ⟨k + 1, na, nc, by go_num, by omega, HA2.out.sub (List.forall_mem_cons.2 ⟨(.tail _ (.head _)), List.forall_mem_cons.2 ⟨(.tail _ (.tail _ (.head _))), List.forall_mem_cons.2 ⟨(.head _), List.forall_mem_nil _⟩⟩⟩), HR2.out⟩
      case measure => simp [intOf]; omega
    · have hkn : nw = k := by omega
      subst hkn
      go_wp2_with fail
      go_loopw [5] (fun i wr => ∃ k sa sc, i = .int .i64 (k : Nat) ∧ k ≤ nr ∧ BF w wr [(w.heap.size, #[.slice pa nw pc, .slice qa nr qc], 25), (w.heap.size + 1, #[.slice none 0 0, .slice none 0 0], 71), (w.heap.size + 2, #[.slice va nw vc, .slice sa k sc], 71)] ∧ Rws w.heap.size wr [⟨3, 1, .slice va nw vc, nw, iL fw nw⟩, ⟨3, 1, .slice sa k sc, k, iL fr k⟩]) (fun i _ => nr - (intOf i).toNat)
      case atStart => exact ⟨0, none, 0, rfl, Nat.zero_le _, HA0.out, HR0.out⟩
      case round =>
        clear HA0 HR0 c0 c1
        obtain ⟨k, sa, sc, rfl, hk2, hbf, hrw⟩ := hrel
        rename World => wy
        have HA0 := Lib.hid hbf; have HR0 := Lib.hid hrw
        clear hbf hrw
        have c0 := HA0.out.cell (.head _) 0; have c1 := HA0.out.cell (.head _) 1
        by_cases hlt2 : k < nr
        · obtain ⟨b, off, rfl, hb, x0, x1, x2, x3⟩ := HRD.out.at (k := k) hlt2
          have HIL : Hid (iL fr (k + 1) = iL fr k ++ [.int .i64 ((fun i => (m.rt i).1) k)]) := by unfold Hid; rw [iL_succ, ← HFRk.out k]
          have ki : (0 : Int) ≤ (k : Int) := by omega
          have kj : (k : Int) < (nr : Int) := by omega
          simp only at HIL
          generalize (m.rt k).1 = pv at *
          go_upto_region 9 with fail
          have hsz := HA0.out.fr.size
          have hlO := (HA0.out.lt (.tail _ (.tail _ (.head _)))).2
          have hlR := (HA0.out.lt (.tail _ (.head _))).2
          have hlM := (HA0.out.lt (.head _)).2
          have HAX : Hid (BF w wy.drew [(w.heap.size, #[.slice pa nw pc, .slice (some ⟨b, off, none⟩) nr qc], 25), (w.heap.size + 1, #[.slice none 0 0, .slice none 0 0], 71), (w.heap.size + 2, #[.slice va nw vc, .slice sa k sc], 71)]) := HA0.out.below (Below.refl _ _).drew
          have HRX : Hid (Rws w.heap.size wy.drew [⟨3, 1, .slice va nw vc, nw, iL fw nw⟩, ⟨3, 1, .slice sa k sc, k, iL fr k⟩]) := HR0.out.below (Below.refl _ _).drew
          clear c0 c1 HA0 HR0
          refine wp_region_Z (S := fun X => X.cell? ⟨b, off + k * 4 + 2, none⟩ = some (.int .i64 pv) ∧ X.cell? ⟨w.heap.size, 1, none⟩ = some (.slice (some ⟨b, off, none⟩) nr qc) ∧ X.cell? ⟨w.heap.size + 2, 1, none⟩ = some (.slice sa k sc)) (by kernel_rfl) (⟨kept HAX.out.fr hb x2, HAX.out.cell (.head _) 1, HAX.out.cell (.tail _ (.tail _ (.head _))) 1⟩) (fun hS => ?_)
          generalize wy.drew = X at *
          refine tk [0, 1, 2, 3, 4, 5, 6, 7, 8] ?_
          repeat (refine tkZ (oi := ⟨_, _, _, _, _, _⟩) (v := ?_) rfl (by kernel_rfl) (by rfl) (fun _ _ _ h => h) hS ?_ ?_; rotate_left; (· rintro W' ⟨z0, z1, z2⟩; go_simp; try with_reducible rfl); try simp only [Act.put, putA, putZ, putS])
          refine tk0 ?_
          refine wpAnyZ_next (rs := [9]) (by kernel_rfl) (by simp) ?_
          refine NextZ.cons (o := ⟨some 40, _, _, _, _, _⟩) rfl (fun K hK => ?_) NextZ.nil
          go_simp
          have HA0 := Lib.hid (HAX.out.below (below_alloc X (.cells #[.int .i64 pv] 3)))
          have HR0 := Lib.hid (HRX.out.below (below_alloc X (.cells #[.int .i64 pv] 3)))
          have HJ : Hid ((X.alloc (.cells #[.int .i64 pv] 3)).heap[X.heap.size]? = some (.cells #[.int .i64 pv] 3 (0, 0))) := heap_alloc_new _ _
          refine hK.out _ _ (⟨kept HA0.out.fr hb x2, HA0.out.cell (.head _) 1, HA0.out.cell (.tail _ (.tail _ (.head _))) 1⟩) (fun hS => ?_)
          clear hK K
          try simp only [Act.put, putA, putZ, putS]
          generalize X.heap.size = J at *
          generalize (X.alloc (.cells #[.int .i64 pv] 3)) = X0 at *
          refine wpAnyZ_next (rs := [10]) (by kernel_rfl) (by simp) ?_
          refine NextZ.cons (o := ⟨some 41, _, _, _, _, _⟩) rfl (fun K hK => ?_) NextZ.nil
          refine step_append_src X0 (by rfl) (.tmp 32) (.tmp 40) 26 (by rfl) w.heap.size 3 i0 (.int .i64 0) 1 8 Try.underlying26 hi0 hz0 hz1 hz2 rfl (by decide) (.slice sa k sc) k (iL fr k) (by rfl) (HR0.out.own 1 _ rfl) (some ⟨J, 0, none⟩) 1 1 [.int .i64 pv] (by rfl) ⟨rfl, fun j u hu => ⟨_, rfl, World.news_of_block HJ.out j u hu⟩⟩ (by simp [Value.oneCell']) (by unfold maxLen; omega) (by omega) HA0.out.fr.size ?_
          intro v1 X1 hown hgr hl
          rw [← HIL.out] at hown
          obtain ⟨na, nc, rfl⟩ := own_slice' hown
          have HA1 := Lib.hid (BF.grow HA0.out HR0.out (i := 1) rfl (List.forall_mem_cons.2 ⟨(show 25 ≠ 3 by decide), List.forall_mem_cons.2 ⟨(show 71 ≠ 3 by decide), List.forall_mem_cons.2 ⟨(show 71 ≠ 3 by decide), List.forall_mem_nil _⟩⟩⟩) (Nat.le_refl _) hgr)
          have HR1 : Hid (Rws w.heap.size X1 [⟨3, 1, .slice va nw vc, nw, iL fw nw⟩, ⟨3, 1, .slice na (k + 1) nc, (k + 1), iL fr ((k + 1))⟩]) := HR0.out.app2 (i := 1) rfl hown hgr hl
          clear hown hgr hl
          refine hK.out _ _ (⟨kept HA1.out.fr hb x2, HA1.out.cell (.head _) 1, HA1.out.cell (.tail _ (.tail _ (.head _))) 1⟩) (fun hS => ?_)
          clear hK K
          try simp only [Act.put, putA, putZ, putS]
          refine tZ 11 (oi := ⟨_, _, _, _, _, _⟩) (v := ?_) rfl (by kernel_rfl) (by rfl) (fun _ _ _ h => h) hS ?_ ?_
          rotate_left
          · rintro W' ⟨z0, z1, z2⟩; go_simp; try with_reducible rfl
          try simp only [Act.put, putA, putZ, putS]
          refine wpAnyZ_next (rs := [12]) (by kernel_rfl) (by simp) ?_
          refine NextZ.last (o := ⟨none, _, _, _, _, _⟩) rfl (by kernel_rfl) (fun K hK => ?_)
          have e0 := HA1.out.cell (.tail _ (.tail _ (.head _))) 1
          have f0 := HA1.out.thaw (.tail _ (.tail _ (.head _))) 1
          have HA2 := Lib.hid (BF.set1 (i := 1) (cs' := #[.slice va nw vc, .slice na (k + 1) nc]) HA1.out (.tail _ (.tail _ (.head _))) (.slice na (k + 1) nc) (by simp) rfl (L' := [(w.heap.size, #[.slice pa nw pc, .slice (some ⟨b, off, none⟩) nr qc], 25), (w.heap.size + 1, #[.slice none 0 0, .slice none 0 0], 71)]) (List.forall_mem_cons.2 ⟨⟨show w.heap.size ≠ w.heap.size + 2 by omega, (.head _)⟩, List.forall_mem_cons.2 ⟨⟨show w.heap.size + 1 ≠ w.heap.size + 2 by omega, (.tail _ (.head _))⟩, List.forall_mem_nil _⟩⟩))
          have HR2 := Lib.hid (HR1.out.tab (HA1.out.bk _ _ _ (.tail _ (.tail _ (.head _)))).2 (List.forall_mem_cons.2 ⟨(show 71 ≠ 3 by decide), List.forall_mem_cons.2 ⟨(show 71 ≠ 3 by decide), List.forall_mem_nil _⟩⟩) (Fr.set X1 (w.heap.size + 2) 1 (.slice na (k + 1) nc)))
          go_simp
          refine hK.out _ _ ?_
          clear hK K
          (try simp only [Act.put])
          clear e0 f0
          refine wpAnyZ_done (by kernel_rfl) ?_ _
          go_wp2_with fail
          go_roundw
          case rel => exact ⟨k + 1, na, nc, by go_num, by omega, HA2.out.sub (List.forall_mem_cons.2 ⟨(.tail _ (.head _)), List.forall_mem_cons.2 ⟨(.tail _ (.tail _ (.head _))), List.forall_mem_cons.2 ⟨(.head _), List.forall_mem_nil _⟩⟩⟩), HR2.out⟩
          case measure => simp [intOf]; omega
        · have hkn2 : nr = k := by omega
          subst hkn2
          have o0 := HA0.out.cell (.tail _ (.tail _ (.head _))) 0
          have o1 := HA0.out.cell (.tail _ (.tail _ (.head _))) 1
          have t0 := HA0.out.cell (.tail _ (.head _)) 0
          have t1 := HA0.out.cell (.tail _ (.head _)) 1
          have g0 := HA0.out.thaw (.tail _ (.head _)) 0
          have g1 := HA0.out.thaw (.tail _ (.head _)) 1
          have HA2 := Lib.hid (HA0.out.set2 (.tail _ (.head _)) (.slice va nw vc) (.slice sa nr sc) (L' := []) (List.forall_mem_nil _))
          have HR2 := Lib.hid (HR0.out.tab (HA0.out.bk _ _ _ (.tail _ (.head _))).2 (List.forall_mem_cons.2 ⟨(show 71 ≠ 3 by decide), List.forall_mem_cons.2 ⟨(show 71 ≠ 3 by decide), List.forall_mem_nil _⟩⟩) ((Fr.set wy (w.heap.size + 1) 0 (.slice va nw vc)).trans (Fr.set _ (w.heap.size + 1) 1 (.slice sa nr sc))))
          go_wp2_with fail
          have e0 := HA2.out.cell (.head _) 0
          have e1 := HA2.out.cell (.head _) 1
          exact bodyPost_ret (v := .agg #[.slice va nw vc, .slice sa nr sc]) (by simp [results, Try.results58, go_sem, e0, e1]) rfl ⟨⟨va, vc, sa, sc⟩, rfl, HEND.out _ _ _ _ _ HR2.out, HA2.out.fr⟩
set_option maxRecDepth 100000 in
set_option maxHeartbeats 8000000 in
theorem picked_any (x : MV) (m : Mp) (w : World) (h : MpIn w x m) (hnw : m.nw ≤ 100000) (hnr : m.nr ≤ 100000) (ok : OkM m) (wv : Value) (n : Nat) (zw : Nat → Int) (hz : WordsIn w wv n zw) (hn : n ≤ maxLen) :
    Calls Try.prog 60 #[.agg #[.slice x.wa m.nw x.wc, .slice x.ra m.nr x.rc], wv] w fun e w' => ∃ z : TV, e = .returned (.agg #[.slice z.wa m.nw z.wc, .slice z.ra m.nr z.rc]) ∧ TrOwn w.heap.size w' z m (fun i => pkV (m.wk i) (wordF n zw (i : Int))) (fun i => pkV (m.rt i) (wordF n zw ((i : Int) + 9))) ∧ Below w.heap.size w w' := by
  obtain ⟨i0, hi0, hz0, hz1, hz2⟩ := info_parts Try.infoInt
  obtain ⟨pa, pc, qa, qc⟩ := x
  obtain ⟨hwk, hrd⟩ := h
  have HWK := Lib.hid hwk; have HRD := Lib.hid hrd
  clear hwk hrd
  simp only at *
  have HWO0 := Lib.hid (fun W (hW : Below w.heap.size w W) (i : Int) h0 => word_any wv n zw i W (hz.below hW) hn h0)
  have HPIW := Lib.hid (fun k (hk : k < m.nw) W => pick1_any (m.wk k) (wordF n zw (k : Int)) W (ok.wk k hk) (wordF_bd hz (k : Int)))
  have HPIR := Lib.hid (fun k (hk : k < m.nr) W => pick1_any (m.rt k) (wordF n zw ((k : Int) + 9)) W ⟨by have := ok.rt k hk; omega, by have := ok.rt k hk; omega, by have := ok.rt k hk; omega⟩ (wordF_bd hz ((k : Int) + 9)))
  have kb9 : True := trivial
  obtain ⟨fw, HFW⟩ : ∃ fw, Hid ((fun i => pkV (m.wk i) (wordF n zw (i : Int))) = fw) := ⟨_, rfl⟩
  obtain ⟨fr, HFR⟩ : ∃ fr, Hid ((fun i => pkV (m.rt i) (wordF n zw ((i : Int) + 9))) = fr) := ⟨_, rfl⟩
  rw [HFW.out, HFR.out]
  have HFWk : Hid (∀ k, (fun i => pkV (m.wk i) (wordF n zw (i : Int))) k = fw k) := fun k => congrFun HFW.out k
  have HFRk : Hid (∀ k, (fun i => pkV (m.rt i) (wordF n zw ((i : Int) + 9))) k = fr k) := fun k => congrFun HFR.out k
  clear HFW HFR
  have HEND : Hid (∀ (Y : World) (va : Option Addr) (vc : Nat) (sa : Option Addr) (sc : Nat), Rws w.heap.size Y [⟨3, 1, .slice va m.nw vc, m.nw, iL fw m.nw⟩, ⟨3, 1, .slice sa m.nr sc, m.nr, iL fr m.nr⟩] → TrOwn w.heap.size Y ⟨va, vc, sa, sc⟩ m fw fr) := fun Y va vc sa sc h => h
  obtain ⟨nw, HNW⟩ : ∃ nw, Hid (m.nw = nw) := ⟨_, rfl⟩
  obtain ⟨nr, HNR⟩ : ∃ nr, Hid (m.nr = nr) := ⟨_, rfl⟩
  rw [HNW.out, HNR.out] at HEND
  have HNW2 := Lib.hid HNW.out; have HNR2 := Lib.hid HNR.out
  rw [HNW.out] at HWK hnw ⊢
  rw [HNR.out] at HRD hnr ⊢
  (try rw [HNW.out] at HPIW)
  (try rw [HNR.out] at HPIR)
  clear HNW HNR HNW2 HNR2
  have HA0 : Hid (BF w (((w.alloc (.cells #[.slice pa nw pc, .slice qa nr qc] 25)).alloc (.cells #[.slice none 0 0, .slice none 0 0] 71)).alloc (.cells #[.slice none 0 0, .slice none 0 0] 71)) [(w.heap.size, #[.slice pa nw pc, .slice qa nr qc], 25), (w.heap.size + 1, #[.slice none 0 0, .slice none 0 0], 71), (w.heap.size + 2, #[.slice none 0 0, .slice none 0 0], 71)]) := BF.made3 _ _ _ _ _ _ _
  have HR0 : Hid (Rws w.heap.size (((w.alloc (.cells #[.slice pa nw pc, .slice qa nr qc] 25)).alloc (.cells #[.slice none 0 0, .slice none 0 0] 71)).alloc (.cells #[.slice none 0 0, .slice none 0 0] 71)) [⟨3, 1, .slice none 0 0, 0, iL fw 0⟩, ⟨3, 1, .slice none 0 0, 0, iL fr 0⟩]) := by
    refine ⟨fun i p hp => ?_, fun i j p q _ hp _ k e => ?_⟩
    · match i, hp with
      | 0, hp => cases hp; exact World.ownsRow_nil _ _ _ _
      | 1, hp => cases hp; exact World.ownsRow_nil _ _ _ _
    · match i, hp with
      | 0, hp => cases hp; cases e
      | 1, hp => cases hp; cases e
  go_enter Try.func60, Try.ntmps60
  go_wp2_with fail
  generalize (((w.alloc (.cells #[.slice pa nw pc, .slice qa nr qc] 25)).alloc (.cells #[.slice none 0 0, .slice none 0 0] 71)).alloc (.cells #[.slice none 0 0, .slice none 0 0] 71)) = w0 at *
  go_loopw [6] (fun i wr => ∃ k va vc, i = .int .i64 (k : Nat) ∧ k ≤ nw ∧ BF w wr [(w.heap.size, #[.slice pa nw pc, .slice qa nr qc], 25), (w.heap.size + 1, #[.slice none 0 0, .slice none 0 0], 71), (w.heap.size + 2, #[.slice va k vc, .slice none 0 0], 71)] ∧ Rws w.heap.size wr [⟨3, 1, .slice va k vc, k, iL fw k⟩, ⟨3, 1, .slice none 0 0, 0, iL fr 0⟩]) (fun i _ => nw - (intOf i).toNat)
  case atStart => exact ⟨0, none, 0, rfl, Nat.zero_le _, HA0.out, HR0.out⟩
  case round =>
    clear HA0 HR0
    obtain ⟨k, va, vc, rfl, hk, hbf, hrw⟩ := hrel
    have HA0 := Lib.hid hbf; have HR0 := Lib.hid hrw
    clear hbf hrw
    have c0 := HA0.out.cell (.head _) 0; have c1 := HA0.out.cell (.head _) 1
    by_cases hlt : k < nw
    · obtain ⟨b, off, rfl, hb, x0, x1⟩ := HWK.out.at (k := k) hlt
      have HIL : Hid (iL fw (k + 1) = iL fw k ++ [.int .i64 ((fun i => pkV (m.wk i) (wordF n zw (i : Int))) k)]) := by unfold Hid; rw [iL_succ, ← HFWk.out k]
      have ki : (0 : Int) ≤ (k : Int) := by omega
      have kj : (k : Int) < (nw : Int) := by omega
      simp only at HIL
      obtain ⟨wv2, HWV⟩ : ∃ v, Hid (wordF n zw (k : Int) = v) := ⟨_, rfl⟩
      have HWO := HWO0
      have HPI := Lib.hid (HPIW.out k hlt)
      have hwi := kb9
      generalize pkV (m.wk k) (wordF n zw (k : Int)) = pv at *
      generalize (m.wk k).1 = lo at *
      generalize (m.wk k).2 = hi at *
      go_upto_region 5 with fail
      have hsz := HA0.out.fr.size
      have hlO := (HA0.out.lt (.tail _ (.tail _ (.head _)))).2
      have hlR := (HA0.out.lt (.tail _ (.head _))).2
      have hlM := (HA0.out.lt (.head _)).2
      have HAX : Hid (BF w wr.drew [(w.heap.size, #[.slice (some ⟨b, off, none⟩) nw pc, .slice qa nr qc], 25), (w.heap.size + 1, #[.slice none 0 0, .slice none 0 0], 71), (w.heap.size + 2, #[.slice va k vc, .slice none 0 0], 71)]) := HA0.out.below (Below.refl _ _).drew
      have HRX : Hid (Rws w.heap.size wr.drew [⟨3, 1, .slice va k vc, k, iL fw k⟩, ⟨3, 1, .slice none 0 0, 0, iL fr 0⟩]) := HR0.out.below (Below.refl _ _).drew
      clear c0 c1 HA0 HR0
      refine wp_region_Z (S := fun X => X.cell? ⟨b, off + k * 2, none⟩ = some (.int .i64 lo) ∧ X.cell? ⟨b, off + k * 2 + 1, none⟩ = some (.int .i64 hi) ∧ X.cell? ⟨w.heap.size, 0, none⟩ = some (.slice (some ⟨b, off, none⟩) nw pc) ∧ X.cell? ⟨w.heap.size + 2, 0, none⟩ = some (.slice va k vc)) (by kernel_rfl) (⟨kept HAX.out.fr hb x0, kept HAX.out.fr hb x1, HAX.out.cell (.head _) 0, HAX.out.cell (.tail _ (.tail _ (.head _))) 0⟩) (fun hS => ?_)
      generalize wr.drew = X at *
      refine tk [0, 1, 2, 3, 4, 5, 6, 7, 8] ?_
      repeat (refine tkZ (oi := ⟨_, _, _, _, _, _⟩) (v := ?_) rfl (by kernel_rfl) (by rfl) (fun _ _ _ h => h) hS ?_ ?_; rotate_left; (· rintro W' ⟨z0, z1, z2, z3⟩; go_simp; try with_reducible rfl); try simp only [Act.put, putA, putZ, putS])
      refine tk0 ?_
      refine wpAnyZ_next (rs := [9]) (by kernel_rfl) (by simp) ?_
      refine NextZ.cons (o := ⟨some 24, _, _, _, _, _⟩) rfl (fun K hK => ?_) NextZ.nil
      go_simp
      refine (HWO.out X HAX.out.fr (k : Int) (by omega)).mono ?_
      rintro _ X0 ⟨rfl, hb0⟩
      (try go_wp2_with fail)
      have HA0 := Lib.hid (HAX.out.below hb0)
      have HR0 := Lib.hid (HRX.out.below hb0)
      refine hK.out _ _ (⟨kept HA0.out.fr hb x0, kept HA0.out.fr hb x1, HA0.out.cell (.head _) 0, HA0.out.cell (.tail _ (.tail _ (.head _))) 0⟩) (fun hS => ?_)
      clear hK K
      try simp only [Act.put, putA, putZ, putS]
      clear hb0
      refine wpAnyZ_next (rs := [10]) (by kernel_rfl) (by simp) ?_
      refine NextZ.cons (o := ⟨some 25, _, _, _, _, _⟩) rfl (fun K hK => ?_) NextZ.nil
      go_simp
      refine (HPI.out X0).mono ?_
      rintro _ X1 ⟨rfl, hb1⟩
      (try go_wp2_with fail)
      have HA1 := Lib.hid (HA0.out.below hb1)
      have HR1 := Lib.hid (HR0.out.below hb1)
      refine hK.out _ _ (⟨kept HA1.out.fr hb x0, kept HA1.out.fr hb x1, HA1.out.cell (.head _) 0, HA1.out.cell (.tail _ (.tail _ (.head _))) 0⟩) (fun hS => ?_)
      clear hK K
      try simp only [Act.put, putA, putZ, putS]
      clear hb1
      refine wpAnyZ_next (rs := [11]) (by kernel_rfl) (by simp) ?_
      refine NextZ.cons (o := ⟨some 26, _, _, _, _, _⟩) rfl (fun K hK => ?_) NextZ.nil
      go_simp
      have HA2 := Lib.hid (HA1.out.below (below_alloc X1 (.cells #[.int .i64 pv] 3)))
      have HR2 := Lib.hid (HR1.out.below (below_alloc X1 (.cells #[.int .i64 pv] 3)))
      have HJ : Hid ((X1.alloc (.cells #[.int .i64 pv] 3)).heap[X1.heap.size]? = some (.cells #[.int .i64 pv] 3 (0, 0))) := heap_alloc_new _ _
      refine hK.out _ _ (⟨kept HA2.out.fr hb x0, kept HA2.out.fr hb x1, HA2.out.cell (.head _) 0, HA2.out.cell (.tail _ (.tail _ (.head _))) 0⟩) (fun hS => ?_)
      clear hK K
      try simp only [Act.put, putA, putZ, putS]
      generalize X1.heap.size = J at *
      generalize (X1.alloc (.cells #[.int .i64 pv] 3)) = X2 at *
      refine wpAnyZ_next (rs := [12]) (by kernel_rfl) (by simp) ?_
      refine NextZ.cons (o := ⟨some 27, _, _, _, _, _⟩) rfl (fun K hK => ?_) NextZ.nil
      refine step_append_src X2 (by rfl) (.tmp 16) (.tmp 26) 26 (by rfl) w.heap.size 3 i0 (.int .i64 0) 1 8 Try.underlying26 hi0 hz0 hz1 hz2 rfl (by decide) (.slice va k vc) k (iL fw k) (by rfl) (HR2.out.own 0 _ rfl) (some ⟨J, 0, none⟩) 1 1 [.int .i64 pv] (by rfl) ⟨rfl, fun j u hu => ⟨_, rfl, World.news_of_block HJ.out j u hu⟩⟩ (by simp [Value.oneCell']) (by unfold maxLen; omega) (by omega) HA2.out.fr.size ?_
      intro v3 X3 hown hgr hl
      rw [← HIL.out] at hown
      obtain ⟨na, nc, rfl⟩ := own_slice' hown
      have HA3 := Lib.hid (BF.grow HA2.out HR2.out (i := 0) rfl (List.forall_mem_cons.2 ⟨(show 25 ≠ 3 by decide), List.forall_mem_cons.2 ⟨(show 71 ≠ 3 by decide), List.forall_mem_cons.2 ⟨(show 71 ≠ 3 by decide), List.forall_mem_nil _⟩⟩⟩) (Nat.le_refl _) hgr)
      have HR3 : Hid (Rws w.heap.size X3 [⟨3, 1, .slice na (k + 1) nc, (k + 1), iL fw ((k + 1))⟩, ⟨3, 1, .slice none 0 0, 0, iL fr 0⟩]) := HR2.out.app2 (i := 0) rfl hown hgr hl
      clear hown hgr hl
      refine hK.out _ _ (⟨kept HA3.out.fr hb x0, kept HA3.out.fr hb x1, HA3.out.cell (.head _) 0, HA3.out.cell (.tail _ (.tail _ (.head _))) 0⟩) (fun hS => ?_)
      clear hK K
      try simp only [Act.put, putA, putZ, putS]
      refine tZ 13 (oi := ⟨_, _, _, _, _, _⟩) (v := ?_) rfl (by kernel_rfl) (by rfl) (fun _ _ _ h => h) hS ?_ ?_
      rotate_left
      · rintro W' ⟨z0, z1, z2, z3⟩; go_simp; try with_reducible rfl
      try simp only [Act.put, putA, putZ, putS]
      refine wpAnyZ_next (rs := [14]) (by kernel_rfl) (by simp) ?_
      refine NextZ.last (o := ⟨none, _, _, _, _, _⟩) rfl (by kernel_rfl) (fun K hK => ?_)
      have e0 := HA3.out.cell (.tail _ (.tail _ (.head _))) 0
      have f0 := HA3.out.thaw (.tail _ (.tail _ (.head _))) 0
      have HA4 := Lib.hid (BF.set1 (i := 0) (cs' := #[.slice na (k + 1) nc, .slice none 0 0]) HA3.out (.tail _ (.tail _ (.head _))) (.slice na (k + 1) nc) (by simp) rfl (L' := [(w.heap.size, #[.slice (some ⟨b, off, none⟩) nw pc, .slice qa nr qc], 25), (w.heap.size + 1, #[.slice none 0 0, .slice none 0 0], 71)]) (List.forall_mem_cons.2 ⟨⟨show w.heap.size ≠ w.heap.size + 2 by omega, (.head _)⟩, List.forall_mem_cons.2 ⟨⟨show w.heap.size + 1 ≠ w.heap.size + 2 by omega, (.tail _ (.head _))⟩, List.forall_mem_nil _⟩⟩))
      have HR4 := Lib.hid (HR3.out.tab (HA3.out.bk _ _ _ (.tail _ (.tail _ (.head _)))).2 (List.forall_mem_cons.2 ⟨(show 71 ≠ 3 by decide), List.forall_mem_cons.2 ⟨(show 71 ≠ 3 by decide), List.forall_mem_nil _⟩⟩) (Fr.set X3 (w.heap.size + 2) 0 (.slice na (k + 1) nc)))
      go_simp
      refine hK.out _ _ ?_
      clear hK K
      (try simp only [Act.put])
      clear e0 f0
      refine wpAnyZ_done (by kernel_rfl) ?_ _
      go_wp2_with fail
      go_roundw
      case rel => exact ⟨k + 1, na, nc, by go_num, by omega, HA4.out.sub (List.forall_mem_cons.2 ⟨(.tail _ (.head _)), List.forall_mem_cons.2 ⟨(.tail _ (.tail _ (.head _))), List.forall_mem_cons.2 ⟨(.head _), List.forall_mem_nil _⟩⟩⟩), HR4.out⟩
      case measure => simp [intOf]; omega
    · have hkn : nw = k := by omega
      subst hkn
      go_wp2_with fail
      go_loopw [7] (fun i wr => ∃ k sa sc, i = .int .i64 (k : Nat) ∧ k ≤ nr ∧ BF w wr [(w.heap.size, #[.slice pa nw pc, .slice qa nr qc], 25), (w.heap.size + 1, #[.slice none 0 0, .slice none 0 0], 71), (w.heap.size + 2, #[.slice va nw vc, .slice sa k sc], 71)] ∧ Rws w.heap.size wr [⟨3, 1, .slice va nw vc, nw, iL fw nw⟩, ⟨3, 1, .slice sa k sc, k, iL fr k⟩]) (fun i _ => nr - (intOf i).toNat)
      case atStart => exact ⟨0, none, 0, rfl, Nat.zero_le _, HA0.out, HR0.out⟩
      case round =>
        clear HA0 HR0 c0 c1
        obtain ⟨k, sa, sc, rfl, hk2, hbf, hrw⟩ := hrel
        rename World => wy
        have HA0 := Lib.hid hbf; have HR0 := Lib.hid hrw
        clear hbf hrw
        have c0 := HA0.out.cell (.head _) 0; have c1 := HA0.out.cell (.head _) 1
        by_cases hlt2 : k < nr
        · obtain ⟨b, off, rfl, hb, x0, x1, x2, x3⟩ := HRD.out.at (k := k) hlt2
          have HIL : Hid (iL fr (k + 1) = iL fr k ++ [.int .i64 ((fun i => pkV (m.rt i) (wordF n zw ((i : Int) + 9))) k)]) := by unfold Hid; rw [iL_succ, ← HFRk.out k]
          have ki : (0 : Int) ≤ (k : Int) := by omega
          have kj : (k : Int) < (nr : Int) := by omega
          simp only at HIL
          have HWO := HWO0
          have HPI := Lib.hid (HPIR.out k hlt2)
          have hwi := kb9
          have kw9 : IntKind.i64.wrap ((k : Int) + 9) = (k : Int) + 9 := IntWalk.i64_in _ (by omega)
          generalize pkV (m.rt k) (wordF n zw ((k : Int) + 9)) = pv at *
          generalize (m.rt k).1 = lo at *
          generalize (m.rt k).2 = hi at *
          go_upto_region 9 with fail
          have hsz := HA0.out.fr.size
          have hlO := (HA0.out.lt (.tail _ (.tail _ (.head _)))).2
          have hlR := (HA0.out.lt (.tail _ (.head _))).2
          have hlM := (HA0.out.lt (.head _)).2
          have HAX : Hid (BF w wy.drew [(w.heap.size, #[.slice pa nw pc, .slice (some ⟨b, off, none⟩) nr qc], 25), (w.heap.size + 1, #[.slice none 0 0, .slice none 0 0], 71), (w.heap.size + 2, #[.slice va nw vc, .slice sa k sc], 71)]) := HA0.out.below (Below.refl _ _).drew
          have HRX : Hid (Rws w.heap.size wy.drew [⟨3, 1, .slice va nw vc, nw, iL fw nw⟩, ⟨3, 1, .slice sa k sc, k, iL fr k⟩]) := HR0.out.below (Below.refl _ _).drew
          clear c0 c1 HA0 HR0
          refine wp_region_Z (S := fun X => X.cell? ⟨b, off + k * 4 + 2, none⟩ = some (.int .i64 lo) ∧ X.cell? ⟨b, off + k * 4 + 3, none⟩ = some (.int .i64 hi) ∧ X.cell? ⟨w.heap.size, 1, none⟩ = some (.slice (some ⟨b, off, none⟩) nr qc) ∧ X.cell? ⟨w.heap.size + 2, 1, none⟩ = some (.slice sa k sc)) (by kernel_rfl) (⟨kept HAX.out.fr hb x2, kept HAX.out.fr hb x3, HAX.out.cell (.head _) 1, HAX.out.cell (.tail _ (.tail _ (.head _))) 1⟩) (fun hS => ?_)
          generalize wy.drew = X at *
          refine tk [0, 1, 2, 3, 4, 5, 6, 7, 8, 9, 10] ?_
          repeat (refine tkZ (oi := ⟨_, _, _, _, _, _⟩) (v := ?_) rfl (by kernel_rfl) (by rfl) (fun _ _ _ h => h) hS ?_ ?_; rotate_left; (· rintro W' ⟨z0, z1, z2, z3⟩; go_simp; try with_reducible rfl); try simp only [Act.put, putA, putZ, putS])
          refine tk0 ?_
          refine wpAnyZ_next (rs := [11]) (by kernel_rfl) (by simp) ?_
          refine NextZ.cons (o := ⟨some 47, _, _, _, _, _⟩) rfl (fun K hK => ?_) NextZ.nil
          go_simp
          refine (HWO.out X HAX.out.fr ((k : Int) + 9) (by omega)).mono ?_
          rintro _ X0 ⟨rfl, hb0⟩
          (try go_wp2_with fail)
          have HA0 := Lib.hid (HAX.out.below hb0)
          have HR0 := Lib.hid (HRX.out.below hb0)
          refine hK.out _ _ (⟨kept HA0.out.fr hb x2, kept HA0.out.fr hb x3, HA0.out.cell (.head _) 1, HA0.out.cell (.tail _ (.tail _ (.head _))) 1⟩) (fun hS => ?_)
          clear hK K
          try simp only [Act.put, putA, putZ, putS]
          clear hb0
          refine wpAnyZ_next (rs := [12]) (by kernel_rfl) (by simp) ?_
          refine NextZ.cons (o := ⟨some 48, _, _, _, _, _⟩) rfl (fun K hK => ?_) NextZ.nil
          go_simp
          refine (HPI.out X0).mono ?_
          rintro _ X1 ⟨rfl, hb1⟩
          (try go_wp2_with fail)
          have HA1 := Lib.hid (HA0.out.below hb1)
          have HR1 := Lib.hid (HR0.out.below hb1)
          refine hK.out _ _ (⟨kept HA1.out.fr hb x2, kept HA1.out.fr hb x3, HA1.out.cell (.head _) 1, HA1.out.cell (.tail _ (.tail _ (.head _))) 1⟩) (fun hS => ?_)
          clear hK K
          try simp only [Act.put, putA, putZ, putS]
          clear hb1
          refine wpAnyZ_next (rs := [13]) (by kernel_rfl) (by simp) ?_
          refine NextZ.cons (o := ⟨some 49, _, _, _, _, _⟩) rfl (fun K hK => ?_) NextZ.nil
          go_simp
          have HA2 := Lib.hid (HA1.out.below (below_alloc X1 (.cells #[.int .i64 pv] 3)))
          have HR2 := Lib.hid (HR1.out.below (below_alloc X1 (.cells #[.int .i64 pv] 3)))
          have HJ : Hid ((X1.alloc (.cells #[.int .i64 pv] 3)).heap[X1.heap.size]? = some (.cells #[.int .i64 pv] 3 (0, 0))) := heap_alloc_new _ _
          refine hK.out _ _ (⟨kept HA2.out.fr hb x2, kept HA2.out.fr hb x3, HA2.out.cell (.head _) 1, HA2.out.cell (.tail _ (.tail _ (.head _))) 1⟩) (fun hS => ?_)
          clear hK K
          try simp only [Act.put, putA, putZ, putS]
          generalize X1.heap.size = J at *
          generalize (X1.alloc (.cells #[.int .i64 pv] 3)) = X2 at *
          refine wpAnyZ_next (rs := [14]) (by kernel_rfl) (by simp) ?_
          refine NextZ.cons (o := ⟨some 50, _, _, _, _, _⟩) rfl (fun K hK => ?_) NextZ.nil
          refine step_append_src X2 (by rfl) (.tmp 37) (.tmp 49) 26 (by rfl) w.heap.size 3 i0 (.int .i64 0) 1 8 Try.underlying26 hi0 hz0 hz1 hz2 rfl (by decide) (.slice sa k sc) k (iL fr k) (by rfl) (HR2.out.own 1 _ rfl) (some ⟨J, 0, none⟩) 1 1 [.int .i64 pv] (by rfl) ⟨rfl, fun j u hu => ⟨_, rfl, World.news_of_block HJ.out j u hu⟩⟩ (by simp [Value.oneCell']) (by unfold maxLen; omega) (by omega) HA2.out.fr.size ?_
          intro v3 X3 hown hgr hl
          rw [← HIL.out] at hown
          obtain ⟨na, nc, rfl⟩ := own_slice' hown
          have HA3 := Lib.hid (BF.grow HA2.out HR2.out (i := 1) rfl (List.forall_mem_cons.2 ⟨(show 25 ≠ 3 by decide), List.forall_mem_cons.2 ⟨(show 71 ≠ 3 by decide), List.forall_mem_cons.2 ⟨(show 71 ≠ 3 by decide), List.forall_mem_nil _⟩⟩⟩) (Nat.le_refl _) hgr)
          have HR3 : Hid (Rws w.heap.size X3 [⟨3, 1, .slice va nw vc, nw, iL fw nw⟩, ⟨3, 1, .slice na (k + 1) nc, (k + 1), iL fr ((k + 1))⟩]) := HR2.out.app2 (i := 1) rfl hown hgr hl
          clear hown hgr hl
          refine hK.out _ _ (⟨kept HA3.out.fr hb x2, kept HA3.out.fr hb x3, HA3.out.cell (.head _) 1, HA3.out.cell (.tail _ (.tail _ (.head _))) 1⟩) (fun hS => ?_)
          clear hK K
          try simp only [Act.put, putA, putZ, putS]
          refine tZ 15 (oi := ⟨_, _, _, _, _, _⟩) (v := ?_) rfl (by kernel_rfl) (by rfl) (fun _ _ _ h => h) hS ?_ ?_
          rotate_left
          · rintro W' ⟨z0, z1, z2, z3⟩; go_simp; try with_reducible rfl
          try simp only [Act.put, putA, putZ, putS]
          refine wpAnyZ_next (rs := [16]) (by kernel_rfl) (by simp) ?_
          refine NextZ.last (o := ⟨none, _, _, _, _, _⟩) rfl (by kernel_rfl) (fun K hK => ?_)
          have e0 := HA3.out.cell (.tail _ (.tail _ (.head _))) 1
          have f0 := HA3.out.thaw (.tail _ (.tail _ (.head _))) 1
          have HA4 := Lib.hid (BF.set1 (i := 1) (cs' := #[.slice va nw vc, .slice na (k + 1) nc]) HA3.out (.tail _ (.tail _ (.head _))) (.slice na (k + 1) nc) (by simp) rfl (L' := [(w.heap.size, #[.slice pa nw pc, .slice (some ⟨b, off, none⟩) nr qc], 25), (w.heap.size + 1, #[.slice none 0 0, .slice none 0 0], 71)]) (List.forall_mem_cons.2 ⟨⟨show w.heap.size ≠ w.heap.size + 2 by omega, (.head _)⟩, List.forall_mem_cons.2 ⟨⟨show w.heap.size + 1 ≠ w.heap.size + 2 by omega, (.tail _ (.head _))⟩, List.forall_mem_nil _⟩⟩))
          have HR4 := Lib.hid (HR3.out.tab (HA3.out.bk _ _ _ (.tail _ (.tail _ (.head _)))).2 (List.forall_mem_cons.2 ⟨(show 71 ≠ 3 by decide), List.forall_mem_cons.2 ⟨(show 71 ≠ 3 by decide), List.forall_mem_nil _⟩⟩) (Fr.set X3 (w.heap.size + 2) 1 (.slice na (k + 1) nc)))
          go_simp
          refine hK.out _ _ ?_
          clear hK K
          (try simp only [Act.put])
          clear e0 f0
          refine wpAnyZ_done (by kernel_rfl) ?_ _
          go_wp2_with fail
          go_roundw
          case rel => exact ⟨k + 1, na, nc, by go_num, by omega, HA4.out.sub (List.forall_mem_cons.2 ⟨(.tail _ (.head _)), List.forall_mem_cons.2 ⟨(.tail _ (.tail _ (.head _))), List.forall_mem_cons.2 ⟨(.head _), List.forall_mem_nil _⟩⟩⟩), HR4.out⟩
          case measure => simp [intOf]; omega
        · have hkn2 : nr = k := by omega
          subst hkn2
          have o0 := HA0.out.cell (.tail _ (.tail _ (.head _))) 0
          have o1 := HA0.out.cell (.tail _ (.tail _ (.head _))) 1
          have t0 := HA0.out.cell (.tail _ (.head _)) 0
          have t1 := HA0.out.cell (.tail _ (.head _)) 1
          have g0 := HA0.out.thaw (.tail _ (.head _)) 0
          have g1 := HA0.out.thaw (.tail _ (.head _)) 1
          have HA2 := Lib.hid (HA0.out.set2 (.tail _ (.head _)) (.slice va nw vc) (.slice sa nr sc) (L' := []) (List.forall_mem_nil _))
          have HR2 := Lib.hid (HR0.out.tab (HA0.out.bk _ _ _ (.tail _ (.head _))).2 (List.forall_mem_cons.2 ⟨(show 71 ≠ 3 by decide), List.forall_mem_cons.2 ⟨(show 71 ≠ 3 by decide), List.forall_mem_nil _⟩⟩) ((Fr.set wy (w.heap.size + 1) 0 (.slice va nw vc)).trans (Fr.set _ (w.heap.size + 1) 1 (.slice sa nr sc))))
          go_wp2_with fail
          have e0 := HA2.out.cell (.head _) 0
          have e1 := HA2.out.cell (.head _) 1
          exact bodyPost_ret (v := .agg #[.slice va nw vc, .slice sa nr sc]) (by simp [results, Try.results60, go_sem, e0, e1]) rfl ⟨⟨va, vc, sa, sc⟩, rfl, HEND.out _ _ _ _ _ HR2.out, HA2.out.fr⟩
end Go.Proofs.Ytpnkgjkoophckaa
