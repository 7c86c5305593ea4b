/- Walk: the reference's Toured. Printed by gen_vz.py. -/
import Derived.Test.YtpnkgjkoophckaaVX
namespace Go.Proofs.Ytpnkgjkoophckaa
open Go.RowKit Go.Shelf

theorem bit_pow : ∀ n : Fin 9, wrap64 (2 ^ (n : Nat)) = ((2 ^ (n : Nat) : Nat) : Int) := by decide +kernel
set_option maxRecDepth 100000 in
theorem t256_zero : Try.zeroCells58 = t256 fun _ => 0 := by kernel_rfl
set_option maxRecDepth 100000 in
set_option maxHeartbeats 16000000 in
theorem rToured_any {m : Mp} (ok : OkM m) (x : MV) (w : World) (h : MpIn w x m) :
    Calls Try.prog 33 #[.agg #[.slice x.wa m.nw x.wc, .slice x.ra m.nr x.rc]] w fun e w' => e = .returned (.agg (t256 (touM m))) ∧ Below w.heap.size w w' := by
  have hn := ok.nw
  have HAL := Lib.hid (fun W (hW : Below w.heap.size w W) => rAll_any ok x W (h.below hW))
  have HTO := Lib.hid (fun (s : Nat) (hs : s < 2 ^ m.nw) W (hW : Below w.heap.size w W) => rTour_any ok x hs W (h.below hW))
  have KP := bit_pow ⟨m.nw, by omega⟩
  have HST := Lib.hid (touD_step m)
  have hP8 : 2 ^ m.nw ≤ 256 := Nat.pow_le_pow_right (by decide) hn.2
  have HTM : Hid (touM m = touD m (2 ^ m.nw)) := rfl
  simp only at KP
  generalize 2 ^ m.nw = P at *
  clear h
  obtain ⟨z6, hz6⟩ : ∃ z6 : Array Value, z6 = #[.int .i64 0, .int .i64 0, .int .i64 0, .int .i64 0, .int .i64 0, .int .i64 0, .int .i64 0, .int .i64 0, .int .i64 0, .int .i64 0, .int .i64 0, .int .i64 0, .int .i64 0, .int .i64 0, .int .i64 0, .int .i64 0, .int .i64 0, .int .i64 0, .int .i64 0, .int .i64 0, .int .i64 0, .int .i64 0, .int .i64 0, .int .i64 0, .int .i64 0, .int .i64 0, .int .i64 0, .int .i64 0, .int .i64 0, .int .i64 0, .int .i64 0, .int .i64 0, .int .i64 0, .int .i64 0, .int .i64 0, .int .i64 0, .int .i64 0, .int .i64 0, .int .i64 0, .int .i64 0, .int .i64 0, .int .i64 0, .int .i64 0, .int .i64 0, .int .i64 0, .int .i64 0, .int .i64 0, .int .i64 0, .int .i64 0, .int .i64 0, .int .i64 0, .int .i64 0, .int .i64 0, .int .i64 0, .int .i64 0, .int .i64 0, .int .i64 0, .int .i64 0, .int .i64 0, .int .i64 0, .int .i64 0, .int .i64 0, .int .i64 0, .int .i64 0] := ⟨_, rfl⟩
  have HZS : Hid (z6.size = (w64 (allW m)).size) := by rw [hz6, w64_size]; rfl
  have HSZ := Lib.hid (w64_info (allW m))
  obtain ⟨zz, hzz⟩ : ∃ zz : Array Value, zz = Try.zeroCells58 := ⟨_, rfl⟩
  have HZ : Hid (zz = t256 (touD m 0)) := by rw [hzz, touD_zero]; exact t256_zero
  have HA0 : Hid (BF w (((w.alloc (.cells #[.slice x.wa m.nw x.wc, .slice x.ra m.nr x.rc] 25)).alloc (.cells zz 58)).alloc (.cells zz 58)) [(w.heap.size, #[.slice x.wa m.nw x.wc, .slice x.ra m.nr x.rc], 25), (w.heap.size + 1, zz, 58), (w.heap.size + 1 + 1, zz, 58)]) := BF.made3 w _ _ _ _ _ _
  go_enter Try.func33, Try.ntmps33
  go_upto_region 2 with fail
  rw [← hzz]
  clear hzz
  generalize (((w.alloc (.cells #[.slice x.wa m.nw x.wc, .slice x.ra m.nr x.rc] 25)).alloc (.cells zz 58)).alloc (.cells zz 58)) = w0 at *
  have HMO : Hid (w.heap.size ≠ w.heap.size + 1 + 1) := Lib.hid (by omega)
  have HRO : Hid (w.heap.size + 1 ≠ w.heap.size + 1 + 1) := Lib.hid (by omega)
  have HR9 : Hid (w.heap.size ≤ w.heap.size + 1) := Lib.hid (by omega)
  obtain ⟨OB, hOB⟩ : ∃ OB, w.heap.size + 1 + 1 = OB := ⟨_, rfl⟩
  rw [hOB] at HA0 HMO HRO ⊢
  obtain ⟨RB, hRB⟩ : ∃ RB, w.heap.size + 1 = RB := ⟨_, rfl⟩
  rw [hRB] at HA0 HRO HR9 ⊢
  clear hOB hRB
  have c0 := HA0.out.cell (.head _) 0
  have c1 := HA0.out.cell (.head _) 1
  go_wp2_with (first | (go_at_call 26; refine (HAL.out _ HA0.out.fr).mono ?_; rintro _ w1 ⟨rfl, hb⟩; have HA1 := Lib.hid ((HA0.out.below hb).alloc z6 46); have hl0 := ((HA0.out.below hb).lt (.head _)).2; have hl1 := ((HA0.out.below hb).lt (.tail _ (.head _))).2; have hl2 := ((HA0.out.below hb).lt (.tail _ (.tail _ (.head _)))).2; clear hb) | (rw [← hz6]; have HR := Lib.hid (HA1.out.bk _ _ _ (.head _)).2; refine wpList_store_row (o := ⟨none, .store 46 (.tmp 4) (.tmp 7), _, _, _, _⟩) rfl 46 (.tmp 4) (.tmp 7) rfl w1.heap.size (w64 (allW m)) rfl rfl 46 z6 HR.out HSZ.out HZS.out (w64_one _) ?_; have HA2 := Lib.hid (HA1.out.setrow (.head _) (cs' := w64 (allW m)) (L' := [(w.heap.size, #[.slice x.wa m.nw x.wc, .slice x.ra m.nr x.rc], 25), (RB, zz, 58), (OB, zz, 58)]) (List.forall_mem_cons.2 ⟨⟨Nat.ne_of_lt hl0, .tail _ (.head _)⟩, List.forall_mem_cons.2 ⟨⟨Nat.ne_of_lt hl1, .tail _ (.tail _ (.head _))⟩, List.forall_mem_cons.2 ⟨⟨Nat.ne_of_lt hl2, .tail _ (.tail _ (.tail _ (.head _)))⟩, List.forall_mem_nil _⟩⟩⟩)); clear HR))
  rw [← hz6]
  clear hz6
  have HWO : Hid (w1.heap.size ≠ OB) := Lib.hid (by omega)
  generalize ((w1.alloc (.cells z6 46)).setRow w1.heap.size (w64 (allW m))) = w2 at *
  generalize w1.heap.size = WB at *
  rw [HZ.out] at HA2
  clear HA0 HA1 hl0 hl1 hl2 c0 c1 HAL
  go_loopw [5] (fun i wr => ∃ k : Nat, i = .int .i64 k ∧ k ≤ P ∧ BF w wr [(OB, t256 (touD m k), 58), (w.heap.size, #[.slice x.wa m.nw x.wc, .slice x.ra m.nr x.rc], 25), (WB, w64 (allW m), 46), (RB, zz, 58)]) (fun i _ => P - (intOf i).toNat)
  case atStart => exact ⟨0, rfl, Nat.zero_le _, by rw [HZ.out]; exact HA2.out.sub (List.forall_mem_cons.2 ⟨.tail _ (.tail _ (.tail _ (.head _))), List.forall_mem_cons.2 ⟨.tail _ (.head _), List.forall_mem_cons.2 ⟨.head _, List.forall_mem_cons.2 ⟨.tail _ (.tail _ (.head _)), List.forall_mem_nil _⟩⟩⟩⟩)⟩
  case round =>
    clear HA2
    obtain ⟨k, rfl, hk, hbf⟩ := hrel
    have HA3 := Lib.hid hbf
    clear hbf
    have c0 := HA3.out.cell (.tail _ (.head _)) 0
    have c1 := HA3.out.cell (.tail _ (.head _)) 1
    by_cases hlt : k < P
    · have HTK := Lib.hid (HTO.out k hlt)
      have HSK := Lib.hid (HST.out k)
      obtain ⟨tv, htv⟩ : ∃ tv, tv = tuM m k := ⟨_, rfl⟩
      rw [← htv] at HTK HSK
      clear htv
      have hk256 : k < 256 := by omega
      have ki : (0 : Int) ≤ (k : Int) := by omega
      have kP : (k : Int) < (P : Int) := by omega
      have k256 : (k : Int) < 256 := by omega
      have HG := Lib.hid (HA3.out.bk _ _ _ (.tail _ (.tail _ (.head _)))).2
      go_wp2_with (first | (with_reducible refine wpList_load_row (o := ⟨some 19, .load 46 (.tmp 4), _, _, _, _⟩) rfl 46 (.tmp 4) rfl WB rfl 46 (w64 (allW m)) (0, 0) _ HG.out Try.underlying46 rfl HSZ.out ?_) | (go_at_call 25; refine (HTK.out _ HA3.out.fr).mono ?_; rintro _ w4 ⟨rfl, hb⟩; have HA4 := Lib.hid (HA3.out.below hb); have e0 := (HA4.out.cell (.head _) k).trans (t256_get _ hk256); have f0 := HA4.out.thaw (.head _) k; have HA5 := Lib.hid (BF.set1 (i := k) (cs' := t256 (touD m (k + 1))) HA4.out (.head _) (.int .i64 tv) (by rw [t256_size]; exact hk256) (by rw [t256_set _ _ hk256, HSK.out]) (L' := [(w.heap.size, #[.slice x.wa m.nw x.wc, .slice x.ra m.nr x.rc], 25), (WB, w64 (allW m), 46), (RB, zz, 58)]) (List.forall_mem_cons.2 ⟨⟨HMO.out, .tail _ (.head _)⟩, List.forall_mem_cons.2 ⟨⟨HWO.out, .tail _ (.tail _ (.head _))⟩, List.forall_mem_cons.2 ⟨⟨HRO.out, .tail _ (.tail _ (.tail _ (.head _)))⟩, List.forall_mem_nil _⟩⟩⟩)); clear hb))
      go_roundw
      case rel => exact ⟨k + 1, by go_num, by omega, HA5.out⟩
      case measure => simp [intOf]; omega
    · have hkP : k = P := by omega
      subst hkP
      have kq : ¬ ((k : Int) < (k : Int)) := by omega
      go_upto_region 7 with fail
      have HG := Lib.hid (HA3.out.bk _ _ _ (.head _)).2
      have HR := Lib.hid (HA3.out.bk _ _ _ (.tail _ (.tail _ (.tail _ (.head _))))).2
      have HS2 := Lib.hid (t256_info (touD m k))
      have HZ2 : Hid (zz.size = (t256 (touD m k)).size) := by rw [HZ.out, t256_size]; unfold Hid; rw [t256_size]
      refine wp_region_lit ?_
      refine wpList_load_row (o := ⟨some 23, _, _, _, _, _⟩) rfl 58 (.tmp 3) rfl OB rfl 58 (t256 (touD m k)) (0, 0) _ HG.out Try.underlying58 rfl HS2.out ?_
      refine wpList_store_row (o := ⟨none, .store 58 (.tmp 2) (.tmp 23), _, _, _, _⟩) rfl 58 (.tmp 2) (.tmp 23) rfl RB (t256 (touD m k)) rfl rfl 58 zz HR.out HS2.out HZ2.out (t256_one _) ?_
      go_wp2_with fail
      refine bodyPost_ret (v := .agg (t256 (touD m k))) (results_cell_row rfl _ _ RB 58 _ (0, 0) _ rfl (setRow_heap _ _ _ _ _ _ HR.out) Try.underlying58 rfl HS2.out) rfl ⟨by rw [HTM.out], ?_⟩
      exact HA3.out.fr.trans ⟨rfl, rfl, rfl, by simp, fun q hq => setRow_other _ _ _ _ (by have := HR9.out; omega)⟩
end Go.Proofs.Ytpnkgjkoophckaa
