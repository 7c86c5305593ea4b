/- Walk: rows of 256 times; the reference's Toured and Whole. By hand. | Walk: the reference's Toured. Printed by gen_vz.py. | Walk: facts for the reference's Least and Fewest. By hand. | Walk: the reference's Least. Printed by gen_zb.py. | Walk: the reference's Fewest. By hand. -/
import Derived.Test.YtpnkgjkoophckaaPD
namespace Go.Proofs.Ytpnkgjkoophckaa
open Go.RowKit Go.Shelf

theorem BF.setrow {w X : World} {L : List (Nat × Array Value × TypeId)} {b : Nat} {cs cs' : Array Value} {T : TypeId} (h : BF w X L) (hb : (b, cs, T) ∈ L) {L' : List (Nat × Array Value × TypeId)} (hl : ∀ y, y ∈ L' → y.1 ≠ b ∧ y ∈ L) : BF w (X.setRow b cs') ((b, cs', T) :: L') := by
  obtain ⟨hb1, hb2⟩ := h.bk b _ _ hb
  refine ⟨h.fr.trans ⟨rfl, rfl, rfl, by simp [World.setRow], fun q hq => setRow_other _ _ _ _ (by omega)⟩, fun b' cs2 T' hm => ?_⟩
  rcases List.mem_cons.1 hm with hm | hm
  · cases hm
    exact ⟨hb1, setRow_heap _ _ _ _ _ _ hb2⟩
  · obtain ⟨hn, hm2⟩ := hl _ hm
    obtain ⟨q1, q2⟩ := h.bk _ _ _ hm2
    exact ⟨q1, (setRow_other _ _ _ _ hn).trans q2⟩
/-- 256 times. -/
def t256 (F : Nat → Int) : Array Value := eA (fun j => .int .i64 (F j)) 256
theorem t256_size (F : Nat → Int) : (t256 F).size = 256 := by simp [t256, eA]
theorem t256_get (F : Nat → Int) {k : Nat} (h : k < 256) : (t256 F)[k]? = some (.int .i64 (F k)) := eA_get (fun j => .int .i64 (F j)) h
theorem t256_set (F : Nat → Int) {k : Nat} (v : Int) (h : k < 256) : (t256 F).setIfInBounds k (.int .i64 v) = t256 fun j => if j = k then v else F j := by
  unfold t256
  rw [eA_set _ _ h]
  congr 1
  funext j
  by_cases e : j = k
  · rw [if_pos e]; simp only; rw [if_pos e]
  · rw [if_neg e]; simp only; rw [if_neg e]
theorem t256_one (F : Nat → Int) : (t256 F).all (·.oneCell') = true := by
  rw [Array.all_eq_true]
  intro i hi
  have h1 : i < 256 := by rw [t256_size] at hi; exact hi
  have h2 := t256_get F h1
  rw [Array.getElem?_eq_getElem hi] at h2
  injection h2 with h2
  rw [h2]; rfl
theorem t256_info (F : Nat → Int) : (Try.prog.info? 58).map (fun i => i.size) = some (t256 F).size := by rw [t256_size]; kernel_rfl
/-- What Toured has when k sets are done. -/
def touD (m : Mp) (k j : Nat) : Int := if j < k then tuM m j else 0
theorem touD_zero (m : Mp) : touD m 0 = fun _ => 0 := by
  funext j; unfold touD; rw [if_neg (Nat.not_lt_zero j)]
theorem touD_step (m : Mp) (k : Nat) : (fun j => if j = k then tuM m k else touD m k j) = touD m (k + 1) := by
  funext j
  unfold touD
  by_cases h : j = k
  · rw [if_pos h, if_pos (by omega), h]
  · rw [if_neg h]
    by_cases h2 : j < k
    · rw [if_pos h2, if_pos (by omega)]
    · rw [if_neg h2, if_neg (by omega)]
/-- What Toured returns. -/
def touM (m : Mp) : Nat → Int := touD m (2 ^ m.nw)
theorem touM_get (m : Mp) {s : Nat} (hs : s < 2 ^ m.nw) : touM m s = tuM m s := if_pos hs
set_option maxHeartbeats 1000000 in
theorem rWhole_any (x : MV) (m : Mp) (w : World) (h8 : m.nw ≤ 8) :
    Calls Try.prog 34 #[.agg #[.slice x.wa m.nw x.wc, .slice x.ra m.nr x.rc]] w fun e w' => e = .returned (.int .i64 ((2 ^ m.nw - 1 : Nat) : Int)) ∧ Below w.heap.size w w' := by
  have HW := Lib.hid (bit_whole ⟨m.nw, by omega⟩)
  go_enter Try.func34, Try.ntmps34
  go_wp2_with fail
  go_ret
  exact ⟨congrArg (fun z => Ending.returned (.int .i64 z)) HW.out, below_alloc _ _⟩
end Go.Proofs.Ytpnkgjkoophckaa

namespace Go.Proofs.Ytpnkgjkoophckaa
open Go.RowKit Go.Shelf

theorem bit_pow : ∀ n : Fin 9, wrap64 (2 ^ (n : Nat)) = ((2 ^ (n : Nat) : Nat) : Int) := by decide +kernel
set_option maxRecDepth 100000 in
theorem t256_zero : Try.zeroCells58 = t256 fun _ => 0 := by kernel_rfl
set_option maxRecDepth 100000 in
set_option maxHeartbeats 16000000 in
theorem rToured_any {m : Mp} (ok : OkM m) (x : MV) (w : World) (h : MpIn w x m) :
    Calls Try.prog 33 #[.agg #[.slice x.wa m.nw x.wc, .slice x.ra m.nr x.rc]] w fun e w' => e = .returned (.agg (t256 (touM m))) ∧ Below w.heap.size w w' := by
  have hn := ok.nw
  have HAL := Lib.hid (fun W (hW : Below w.heap.size w W) => rAll_any ok x W (h.below hW))
  have HTO := Lib.hid (fun (s : Nat) (hs : s < 2 ^ m.nw) W (hW : Below w.heap.size w W) => rTour_any ok x hs W (h.below hW))
  have KP := bit_pow ⟨m.nw, by omega⟩
  have HST := Lib.hid (touD_step m)
  have hP8 : 2 ^ m.nw ≤ 256 := Nat.pow_le_pow_right (by decide) hn.2
  have HTM : Hid (touM m = touD m (2 ^ m.nw)) := rfl
  simp only at KP
  generalize 2 ^ m.nw = P at *
  clear h
  obtain ⟨z6, hz6⟩ : ∃ z6 : Array Value, z6 = #[.int .i64 0, .int .i64 0, .int .i64 0, .int .i64 0, .int .i64 0, .int .i64 0, .int .i64 0, .int .i64 0, .int .i64 0, .int .i64 0, .int .i64 0, .int .i64 0, .int .i64 0, .int .i64 0, .int .i64 0, .int .i64 0, .int .i64 0, .int .i64 0, .int .i64 0, .int .i64 0, .int .i64 0, .int .i64 0, .int .i64 0, .int .i64 0, .int .i64 0, .int .i64 0, .int .i64 0, .int .i64 0, .int .i64 0, .int .i64 0, .int .i64 0, .int .i64 0, .int .i64 0, .int .i64 0, .int .i64 0, .int .i64 0, .int .i64 0, .int .i64 0, .int .i64 0, .int .i64 0, .int .i64 0, .int .i64 0, .int .i64 0, .int .i64 0, .int .i64 0, .int .i64 0, .int .i64 0, .int .i64 0, .int .i64 0, .int .i64 0, .int .i64 0, .int .i64 0, .int .i64 0, .int .i64 0, .int .i64 0, .int .i64 0, .int .i64 0, .int .i64 0, .int .i64 0, .int .i64 0, .int .i64 0, .int .i64 0, .int .i64 0, .int .i64 0] := ⟨_, rfl⟩
  have HZS : Hid (z6.size = (w64 (allW m)).size) := by rw [hz6, w64_size]; rfl
  have HSZ := Lib.hid (w64_info (allW m))
  obtain ⟨zz, hzz⟩ : ∃ zz : Array Value, zz = Try.zeroCells58 := ⟨_, rfl⟩
  have HZ : Hid (zz = t256 (touD m 0)) := by rw [hzz, touD_zero]; exact t256_zero
  have HA0 : Hid (BF w (((w.alloc (.cells #[.slice x.wa m.nw x.wc, .slice x.ra m.nr x.rc] 25)).alloc (.cells zz 58)).alloc (.cells zz 58)) [(w.heap.size, #[.slice x.wa m.nw x.wc, .slice x.ra m.nr x.rc], 25), (w.heap.size + 1, zz, 58), (w.heap.size + 1 + 1, zz, 58)]) := BF.made3 w _ _ _ _ _ _
  go_enter Try.func33, Try.ntmps33
  go_upto_region 2 with fail
  rw [← hzz]
  clear hzz
  generalize (((w.alloc (.cells #[.slice x.wa m.nw x.wc, .slice x.ra m.nr x.rc] 25)).alloc (.cells zz 58)).alloc (.cells zz 58)) = w0 at *
  have HMO : Hid (w.heap.size ≠ w.heap.size + 1 + 1) := Lib.hid (by omega)
  have HRO : Hid (w.heap.size + 1 ≠ w.heap.size + 1 + 1) := Lib.hid (by omega)
  have HR9 : Hid (w.heap.size ≤ w.heap.size + 1) := Lib.hid (by omega)
  obtain ⟨OB, hOB⟩ : ∃ OB, w.heap.size + 1 + 1 = OB := ⟨_, rfl⟩
  rw [hOB] at HA0 HMO HRO ⊢
  obtain ⟨RB, hRB⟩ : ∃ RB, w.heap.size + 1 = RB := ⟨_, rfl⟩
  rw [hRB] at HA0 HRO HR9 ⊢
  clear hOB hRB
  have c0 := HA0.out.cell (.head _) 0
  have c1 := HA0.out.cell (.head _) 1
  go_wp2_with (first | (go_at_call 26; refine (HAL.out _ HA0.out.fr).mono ?_; rintro _ w1 ⟨rfl, hb⟩; have HA1 := Lib.hid ((HA0.out.below hb).alloc z6 46); have hl0 := ((HA0.out.below hb).lt (.head _)).2; have hl1 := ((HA0.out.below hb).lt (.tail _ (.head _))).2; have hl2 := ((HA0.out.below hb).lt (.tail _ (.tail _ (.head _)))).2; clear hb) | (rw [← hz6]; have HR := Lib.hid (HA1.out.bk _ _ _ (.head _)).2; refine wpList_store_row (o := ⟨none, .store 46 (.tmp 4) (.tmp 7), _, _, _, _⟩) rfl 46 (.tmp 4) (.tmp 7) rfl w1.heap.size (w64 (allW m)) rfl rfl 46 z6 HR.out HSZ.out HZS.out (w64_one _) ?_; have HA2 := Lib.hid (HA1.out.setrow (.head _) (cs' := w64 (allW m)) (L' := [(w.heap.size, #[.slice x.wa m.nw x.wc, .slice x.ra m.nr x.rc], 25), (RB, zz, 58), (OB, zz, 58)]) (List.forall_mem_cons.2 ⟨⟨Nat.ne_of_lt hl0, .tail _ (.head _)⟩, List.forall_mem_cons.2 ⟨⟨Nat.ne_of_lt hl1, .tail _ (.tail _ (.head _))⟩, List.forall_mem_cons.2 ⟨⟨Nat.ne_of_lt hl2, .tail _ (.tail _ (.tail _ (.head _)))⟩, List.forall_mem_nil _⟩⟩⟩)); clear HR))
  rw [← hz6]
  clear hz6
  have HWO : Hid (w1.heap.size ≠ OB) := Lib.hid (by omega)
  generalize ((w1.alloc (.cells z6 46)).setRow w1.heap.size (w64 (allW m))) = w2 at *
  generalize w1.heap.size = WB at *
  rw [HZ.out] at HA2
  clear HA0 HA1 hl0 hl1 hl2 c0 c1 HAL
  go_loopw [5] (fun i wr => ∃ k : Nat, i = .int .i64 k ∧ k ≤ P ∧ BF w wr [(OB, t256 (touD m k), 58), (w.heap.size, #[.slice x.wa m.nw x.wc, .slice x.ra m.nr x.rc], 25), (WB, w64 (allW m), 46), (RB, zz, 58)]) (fun i _ => P - (intOf i).toNat)
  case atStart => exact ⟨0, rfl, Nat.zero_le _, by rw [HZ.out]; exact HA2.out.sub (List.forall_mem_cons.2 ⟨.tail _ (.tail _ (.tail _ (.head _))), List.forall_mem_cons.2 ⟨.tail _ (.head _), List.forall_mem_cons.2 ⟨.head _, List.forall_mem_cons.2 ⟨.tail _ (.tail _ (.head _)), List.forall_mem_nil _⟩⟩⟩⟩)⟩
  case round =>
    clear HA2
    obtain ⟨k, rfl, hk, hbf⟩ := hrel
    have HA3 := Lib.hid hbf
    clear hbf
    have c0 := HA3.out.cell (.tail _ (.head _)) 0
    have c1 := HA3.out.cell (.tail _ (.head _)) 1
    by_cases hlt : k < P
    · have HTK := Lib.hid (HTO.out k hlt)
      have HSK := Lib.hid (HST.out k)
      obtain ⟨tv, htv⟩ : ∃ tv, tv = tuM m k := ⟨_, rfl⟩
      rw [← htv] at HTK HSK
      clear htv
      have hk256 : k < 256 := by omega
      have ki : (0 : Int) ≤ (k : Int) := by omega
      have kP : (k : Int) < (P : Int) := by omega
      have k256 : (k : Int) < 256 := by omega
      have HG := Lib.hid (HA3.out.bk _ _ _ (.tail _ (.tail _ (.head _)))).2
      go_wp2_with (first | (with_reducible refine wpList_load_row (o := ⟨some 19, .load 46 (.tmp 4), _, _, _, _⟩) rfl 46 (.tmp 4) rfl WB rfl 46 (w64 (allW m)) (0, 0) _ HG.out Try.underlying46 rfl HSZ.out ?_) | (go_at_call 25; refine (HTK.out _ HA3.out.fr).mono ?_; rintro _ w4 ⟨rfl, hb⟩; have HA4 := Lib.hid (HA3.out.below hb); have e0 := (HA4.out.cell (.head _) k).trans (t256_get _ hk256); have f0 := HA4.out.thaw (.head _) k; have HA5 := Lib.hid (BF.set1 (i := k) (cs' := t256 (touD m (k + 1))) HA4.out (.head _) (.int .i64 tv) (by rw [t256_size]; exact hk256) (by rw [t256_set _ _ hk256, HSK.out]) (L' := [(w.heap.size, #[.slice x.wa m.nw x.wc, .slice x.ra m.nr x.rc], 25), (WB, w64 (allW m), 46), (RB, zz, 58)]) (List.forall_mem_cons.2 ⟨⟨HMO.out, .tail _ (.head _)⟩, List.forall_mem_cons.2 ⟨⟨HWO.out, .tail _ (.tail _ (.head _))⟩, List.forall_mem_cons.2 ⟨⟨HRO.out, .tail _ (.tail _ (.tail _ (.head _)))⟩, List.forall_mem_nil _⟩⟩⟩)); clear hb))
      go_roundw
      case rel => exact ⟨k + 1, by go_num, by omega, HA5.out⟩
      case measure => simp [intOf]; omega
    · have hkP : k = P := by omega
      subst hkP
      have kq : ¬ ((k : Int) < (k : Int)) := by omega
      go_upto_region 7 with fail
      have HG := Lib.hid (HA3.out.bk _ _ _ (.head _)).2
      have HR := Lib.hid (HA3.out.bk _ _ _ (.tail _ (.tail _ (.tail _ (.head _))))).2
      have HS2 := Lib.hid (t256_info (touD m k))
      have HZ2 : Hid (zz.size = (t256 (touD m k)).size) := by rw [HZ.out, t256_size]; unfold Hid; rw [t256_size]
      refine wp_region_lit ?_
      refine wpList_load_row (o := ⟨some 23, _, _, _, _, _⟩) rfl 58 (.tmp 3) rfl OB rfl 58 (t256 (touD m k)) (0, 0) _ HG.out Try.underlying58 rfl HS2.out ?_
      refine wpList_store_row (o := ⟨none, .store 58 (.tmp 2) (.tmp 23), _, _, _, _⟩) rfl 58 (.tmp 2) (.tmp 23) rfl RB (t256 (touD m k)) rfl rfl 58 zz HR.out HS2.out HZ2.out (t256_one _) ?_
      go_wp2_with fail
      refine bodyPost_ret (v := .agg (t256 (touD m k))) (results_cell_row rfl _ _ RB 58 _ (0, 0) _ rfl (setRow_heap _ _ _ _ _ _ HR.out) Try.underlying58 rfl HS2.out) rfl ⟨by rw [HTM.out], ?_⟩
      exact HA3.out.fr.trans ⟨rfl, rfl, rfl, by simp, fun q hq => setRow_other _ _ _ _ (by have := HR9.out; omega)⟩
end Go.Proofs.Ytpnkgjkoophckaa

namespace Go.Proofs.Ytpnkgjkoophckaa
open Go.RowKit Go.Shelf

theorem bit_and64 (a b : Nat) (ha : a < 256) (hb : b < 256) : bits BinOp.and IntKind.i64 (a : Int) (b : Int) = ((a &&& b : Nat) : Int) := by
  have h : a &&& b < 256 := Nat.lt_of_le_of_lt Nat.and_le_left ha
  show IntKind.i64.wrap (((BitVec.ofInt 64 (a : Int) &&& BitVec.ofInt 64 (b : Int)).toNat : Nat) : Int) = _
  rw [BitVec.toNat_and, BitVec.ofInt_natCast, BitVec.ofInt_natCast, BitVec.toNat_ofNat, BitVec.toNat_ofNat, Nat.mod_eq_of_lt (by omega), Nat.mod_eq_of_lt (by omega)]
  exact IntWalk.i64_in _ (by omega)
theorem bit_low : ∀ s : Fin 256, 0 < (s : Nat) → bits BinOp.and IntKind.i64 ((s : Nat) : Int) (-((s : Nat) : Int)) = ((2 ^ lowb s : Nat) : Int) := by decide +kernel
theorem lowb_8 : ∀ s : Fin 256, lowb s < 8 := by decide +kernel
theorem low_bit (p l : Nat) : (p &&& 2 ^ l = 0) ↔ p.testBit l = false := by
  constructor
  · intro h
    have h2 : (p &&& 2 ^ l).testBit l = false := by rw [h]; simp
    rw [Nat.testBit_and, Nat.testBit_two_pow_self, Bool.and_true] at h2
    exact h2
  · intro h
    refine Nat.eq_of_testBit_eq fun i => ?_
    rw [Nat.testBit_and, Nat.testBit_two_pow]
    by_cases e : l = i
    · subst e; simp [h]
    · simp [e]
/-- A load of 256 times in a drawn region. -/
def t256L (F : Nat → Int) : List Value := (List.range 256).map fun j => .int .i64 (F j)
theorem ld_tours {ops : Array Oper} {S : World → Prop} {op : Oper} {a : Act} (F : Nat → Int) (hw : Region.wanted op (yielded ops a.tmps) = true) (x : Operand) (ho : op.op = .load 58 x) (b : Nat) (hx : a.eval x = .pointer (some ⟨b, 0, none⟩)) (hS : ∀ w, S w → w.rangeAt b 0 (t256L F)) : YieldsIf Try.prog ops S op (.agg (t256 F)) a :=
  yieldsIf_load_mid hw 58 x ho b 0 hx (t256L F) _ hS Try.underlying58 rfl (by rw [show (t256L F).length = 256 by simp [t256L]]; kernel_rfl)
/-- The best of the first parts. -/
def lsB (F : Nat → Int) (k s j : Nat) : Int := ((List.range j).map (· + 1)).foldl (lsStep F s (lsF F k)) 1048576
theorem lsB_zero (F : Nat → Int) (k s : Nat) : lsB F k s 0 = 1048576 := rfl
theorem lsB_succ (F : Nat → Int) (k s j : Nat) : lsB F k s (j + 1) = if (j + 1) &&& s = j + 1 ∧ (j + 1).testBit (lowb s) = true then min (lsB F k s j) (max (F (j + 1)) (lsF F k (s - (j + 1)))) else lsB F k s j := by
  unfold lsB
  rw [List.range_succ, List.map_append, List.foldl_append]
  rfl
theorem lsB_end (F : Nat → Int) (k : Nat) {s : Nat} (h0 : s ≠ 0) : lsB F k s s = lsF F (k + 1) s := by
  show _ = if s = 0 then 0 else _
  rw [if_neg h0]
  rfl
theorem lsF_zero (F : Nat → Int) (k : Nat) : lsF F k 0 = 0 := by cases k <;> rfl
theorem lsF_none (F : Nat → Int) {s : Nat} (h0 : s ≠ 0) : lsF F 0 s = 1048576 := if_neg h0
end Go.Proofs.Ytpnkgjkoophckaa

namespace Go.Proofs.Ytpnkgjkoophckaa
open Go.RowKit Go.Shelf

set_option maxRecDepth 100000 in
set_option maxHeartbeats 16000000 in
theorem least_step (F : Nat → Int) (s k kk : Nat) (hkk : kk = k + 1) (hs : s < 256) (hk : k < 100000) (h0 : s ≠ 0) (w : World) (HI : ∀ q : Nat, q < 256 → ∀ W, Below w.heap.size w W → Calls Try.prog 32 #[.agg (t256 F), .int .i64 (q : Int), .int .i64 (k : Int)] W fun e w' => e = .returned (.int .i64 (lsF F k q)) ∧ Below W.heap.size W w') :
    Calls Try.prog 32 #[.agg (t256 F), .int .i64 (s : Int), .int .i64 (kk : Int)] w fun e w' => e = .returned (.int .i64 (lsF F kk s)) ∧ Below w.heap.size w w' := by
  have HIH := Lib.hid HI
  clear HI
  have HSU := Lib.hid (lsB_succ F k s)
  have HEN : Hid (lsF F kk s = lsB F k s s) := by unfold Hid; rw [hkk]; exact (lsB_end F k h0).symm
  have hl8 := lowb_8 ⟨s, hs⟩
  have hlow := bit_low ⟨s, hs⟩ (by show 0 < s; omega)
  have hf : 2 ^ lowb s < 256 := Nat.lt_of_lt_of_le (Nat.pow_lt_pow_right (by decide) hl8) (show 2 ^ 8 ≤ 256 by decide)
  have HLB := Lib.hid (fun p => low_bit p (lowb s))
  simp only at hlow
  generalize 2 ^ lowb s = f at *
  have hk1 : IntKind.i64.wrap ((kk : Int) - 1) = (k : Int) := (IntWalk.i64_in _ (by omega)).trans (by omega)
  have HK1 := Lib.hid hk1
  have kpos : (0 : Int) < (kk : Int) := by omega
  have kpos2 : 0 < kk := by omega
  have kz : ((s : Int) == 0) = false := by simp; omega
  have HAND := Lib.hid (fun a b ha hb => bit_and64 a b ha hb)
  have HA0 : Hid (BF w (w.alloc (.cells (t256 F) 58)) [(w.heap.size, t256 F, 58)]) := (BF.base w).alloc _ _
  clear hkk hk1 hl8
  go_enter Try.func32, Try.ntmps32
  go_upto_region 1 with (refine wpList_box_row (o := ⟨some 3, .box 58 (.tmp 0), _, _, _, _⟩) rfl 58 (.tmp 0) rfl (t256 F) rfl ?_)
  generalize w.alloc (.cells (t256 F) 58) = w0 at *
  go_wp2_with fail
  go_loopw [7, 9] (fun s7 i wr => ∃ p j : Nat, i = .int .i64 p ∧ Hid (p = j + 1) ∧ j ≤ s ∧ s7 = .int .i64 (lsB F k s j) ∧ BF w wr [(w.heap.size, t256 F, 58)]) (fun _ i _ => s + 1 - (intOf i).toNat)
  case atStart => exact ⟨1, 0, rfl, Lib.hid rfl, Nat.zero_le _, rfl, HA0.out⟩
  case round =>
    clear HA0
    obtain ⟨p, j, rfl, HPJ, hj, rfl, hbf⟩ := hrel
    have HA1 := Lib.hid hbf
    clear hbf
    have hpj := HPJ.out
    by_cases hlt : p ≤ s
    · have kle : (p : Int) ≤ (s : Int) := by omega
      have hp256 : p < 256 := by omega
      have hsu := HSU.out j
      rw [← hpj] at hsu
      have q1 := HAND.out p s hp256 hs
      have q2 := HAND.out p f hp256 hf
      have hlb := HLB.out p
      have hps : p &&& s = p → p ≤ s := fun h => by omega
      obtain ⟨u, hu⟩ : ∃ u, p &&& s = u := ⟨_, rfl⟩
      obtain ⟨v, hv⟩ : ∃ v, p &&& f = v := ⟨_, rfl⟩
      rw [hu] at q1 hsu
      rw [hv] at q2 hlb
      obtain ⟨bv, hbv⟩ : ∃ bv, lsB F k s j = bv := ⟨_, rfl⟩
      obtain ⟨bn, hbn⟩ : ∃ bn, lsB F k s p = bn := ⟨_, rfl⟩
      have HBS := Lib.hid hbn
      rw [hbv, hbn] at hsu
      rw [hbv]
      clear hbv hbn hu hv hps hpj
      by_cases e1 : u = p
      · have e1' := e1.symm
        subst e1'
        clear e1
        by_cases e2 : v = 0
        · subst e2
          have hbe : bn = bv := by rw [hsu, if_neg]; rintro ⟨_, h⟩; rw [hlb.1 rfl] at h; cases h
          clear hsu hlb
          subst hbe
          go_wp2_with fail
          go_roundw
          case rel => exact ⟨p + 1, p, by go_num, Lib.hid rfl, hlt, by rw [HBS.out], HA1.out⟩
          case measure => simp [intOf]; omega
        · have hvb : p.testBit (lowb s) = true := by
            cases h : p.testBit (lowb s)
            · exact absurd (hlb.2 h) e2
            · rfl
          rw [if_pos ⟨rfl, hvb⟩] at hsu
          have kv : ((v : Int) != 0) = true := by simp; omega
          have HIK := Lib.hid (HIH.out (s - p) (by omega))
          obtain ⟨fp, hfp⟩ : ∃ fp, F p = fp := ⟨_, rfl⟩
          have HFP := Lib.hid hfp
          obtain ⟨lr, hlr⟩ : ∃ lr, lsF F k (s - p) = lr := ⟨_, rfl⟩
          rw [hfp, hlr] at hsu
          rw [hlr] at HIK
          clear hfp hlr hlb hvb
          have KS : Hid (IntKind.i64.wrap ((s : Int) - (p : Int)) = ((s - p : Nat) : Int)) := (IntWalk.i64_in _ (by omega)).trans (by omega)
          have hmx : bn ≤ bv ∧ (bn = bv ∨ bn = fp ∨ bn = lr) ∧ (bn ≤ fp ∨ bn ≤ lr) ∧ (bn = bv ∨ (fp ≤ bn ∧ lr ≤ bn)) := by omega
          have HBN := Lib.hid hsu
          clear hsu hmx
          have kp0 : (0 : Int) ≤ (p : Int) := by omega
          have kp256 : (p : Int) < 256 := by omega
          go_upto_region 8 with fail
          have HAX : Hid (BF w wr.drew [(w.heap.size, t256 F, 58)]) := HA1.out.below (Below.refl _ _).drew
          clear HA1
          refine wp_region_Z (S := fun X => X.cell? ⟨w.heap.size, p, none⟩ = some (.int .i64 fp) ∧ X.rangeAt w.heap.size 0 (t256L F)) (by kernel_rfl) (⟨(HAX.out.cell (.head _) p).trans ((t256_get _ hp256).trans (by rw [HFP.out])), row_range (HAX.out.bk _ _ _ (.head _)).2⟩) (fun hS => ?_)
          generalize wr.drew = X at *
          refine tk [0, 1, 2, 3] ?_
          repeat (refine tkZ (oi := ⟨_, _, _, _, _, _⟩) (v := ?_) rfl (by kernel_rfl) (by rfl) (fun _ _ _ h => h) hS ?_ ?_; rotate_left; (· rintro W' ⟨z0, z1⟩; go_simp; try with_reducible rfl); try simp only [Act.put, putA, putZ, putS])
          refine tk0 ?_
          refine wpAnyZ_take (i := 4) (oi := ⟨some 40, _, _, _, _, _⟩) (v := .agg (t256 F)) rfl (by kernel_rfl) (by kernel_rfl) (by kernel_rfl) (fun _ _ _ h => h) (ld_tours F (by rfl) (.tmp 3) rfl w.heap.size rfl (fun _ h => h.2)) hS ?_
          try simp only [Act.put, putA, putZ, putS]
          refine tk [5, 6, 7, 8, 9] ?_
          repeat (refine tkZ (oi := ⟨_, _, _, _, _, _⟩) (v := ?_) rfl (by kernel_rfl) (by rfl) (fun _ _ _ h => h) hS ?_ ?_; rotate_left; (· rintro W' ⟨z0, z1⟩; go_simp; try with_reducible rfl); try simp only [Act.put, putA, putZ, putS])
          refine tk0 ?_
          refine wpAnyZ_next (rs := [10]) (by kernel_rfl) (by simp) ?_
          refine NextZ.cons (o := ⟨some 46, _, _, _, _, _⟩) rfl (fun K hK => ?_) NextZ.nil
          go_simp
          ((try rw [KS.out]); (try rw [HK1.out]))
          refine (HIK.out X HAX.out.fr).mono ?_
          rintro _ X0 ⟨rfl, hb0⟩
          (try go_wp2_with fail)
          have HA0 := Lib.hid (HAX.out.below hb0)
          refine hK.out _ _ (⟨(HA0.out.cell (.head _) p).trans ((t256_get _ hp256).trans (by rw [HFP.out])), row_range (HA0.out.bk _ _ _ (.head _)).2⟩) (fun hS => ?_)
          clear hK K
          try simp only [Act.put, putA, putZ, putS]
          clear hb0
          refine tZ 11 (oi := ⟨_, _, _, _, _, _⟩) (v := ?_) rfl (by kernel_rfl) (by rfl) (fun _ _ _ h => h) hS ?_ ?_
          rotate_left
          · rintro W' ⟨z0, z1⟩; go_simp; try with_reducible rfl
          try simp only [Act.put, putA, putZ, putS]
          refine tZ 12 (oi := ⟨_, _, _, _, _, _⟩) (v := .int .i64 bn) rfl (by kernel_rfl) (by rfl) (fun _ _ _ h => h) hS ?_ ?_
          · rintro W' ⟨z0, z1⟩; go_simp; (first | (with_reducible rfl) | (have hq := HBN.out; repeat' split) <;> (first | rfl | (congr 2; omega)) | (have hq := HBN.out; congr 2; omega))
          try simp only [Act.put, putA, putZ, putS]
          refine tZ 13 (oi := ⟨_, _, _, _, _, _⟩) (v := ?_) rfl (by kernel_rfl) (by rfl) (fun _ _ _ h => h) hS ?_ ?_
          rotate_left
          · rintro W' ⟨z0, z1⟩; go_simp; try with_reducible rfl
          try simp only [Act.put, putA, putZ, putS]
          refine wpAnyZ_done (by kernel_rfl) ?_ _
          go_wp2_with fail
          go_roundw
          case rel => exact ⟨p + 1, p, by go_num, Lib.hid rfl, hlt, by rw [HBS.out], HA0.out⟩
          case measure => simp [intOf]; omega
      · have hbe : bn = bv := by rw [hsu, if_neg (fun h => e1 h.1)]
        clear hsu hlb
        subst hbe
        have ku : ((u : Int) == (p : Int)) = false := by simp; omega
        go_wp2_with fail
        go_roundw
        case rel => exact ⟨p + 1, p, by go_num, Lib.hid rfl, hlt, by rw [HBS.out], HA1.out⟩
        case measure => simp [intOf]; omega
    · have hjs : j = s := by omega
      have kle : ¬ ((p : Int) ≤ (s : Int)) := by omega
      rw [hjs]
      clear hjs hpj
      go_wp2_with fail
      go_ret
      exact ⟨congrArg (fun z => Ending.returned (.int .i64 z)) HEN.out.symm, HA1.out.fr⟩
set_option maxRecDepth 100000 in
set_option maxHeartbeats 4000000 in
theorem least_nil (F : Nat → Int) (k : Nat) (w : World) :
    Calls Try.prog 32 #[.agg (t256 F), .int .i64 ((0 : Nat) : Int), .int .i64 (k : Int)] w fun e w' => e = .returned (.int .i64 (lsF F k 0)) ∧ Below w.heap.size w w' := by
  rw [lsF_zero]
  have HA0 : Hid (BF w (w.alloc (.cells (t256 F) 58)) [(w.heap.size, t256 F, 58)]) := (BF.base w).alloc _ _
  go_enter Try.func32, Try.ntmps32
  go_upto_region 1 with (refine wpList_box_row (o := ⟨some 3, .box 58 (.tmp 0), _, _, _, _⟩) rfl 58 (.tmp 0) rfl (t256 F) rfl ?_)
  generalize w.alloc (.cells (t256 F) 58) = w0 at *
  go_wp2_with fail
  go_ret
  exact ⟨rfl, HA0.out.fr⟩
set_option maxRecDepth 100000 in
set_option maxHeartbeats 4000000 in
theorem least_none (F : Nat → Int) (s : Nat) (hs : s < 256) (h0 : s ≠ 0) (w : World) :
    Calls Try.prog 32 #[.agg (t256 F), .int .i64 (s : Int), .int .i64 ((0 : Nat) : Int)] w fun e w' => e = .returned (.int .i64 (lsF F 0 s)) ∧ Below w.heap.size w w' := by
  rw [lsF_none F h0]
  have kz : ((s : Int) == 0) = false := by simp; omega
  have kle : (1 : Int) ≤ (s : Int) := by omega
  have hlow := bit_low ⟨s, hs⟩ (by show 0 < s; omega)
  simp only at hlow
  generalize 2 ^ lowb s = f at *
  have HA0 : Hid (BF w (w.alloc (.cells (t256 F) 58)) [(w.heap.size, t256 F, 58)]) := (BF.base w).alloc _ _
  go_enter Try.func32, Try.ntmps32
  go_upto_region 1 with (refine wpList_box_row (o := ⟨some 3, .box 58 (.tmp 0), _, _, _, _⟩) rfl 58 (.tmp 0) rfl (t256 F) rfl ?_)
  generalize w.alloc (.cells (t256 F) 58) = w0 at *
  go_wp2_with fail
  go_loopw [7, 9] (fun s7 i wr => i = .int .i64 1 ∧ s7 = .int .i64 1048576 ∧ BF w wr [(w.heap.size, t256 F, 58)]) (fun _ i _ => 0)
  case atStart => exact ⟨rfl, rfl, HA0.out⟩
  case round =>
    clear HA0
    obtain ⟨rfl, rfl, hbf⟩ := hrel
    have HA1 := Lib.hid hbf
    clear hbf
    go_wp2_with fail
    go_ret
    exact ⟨rfl, HA1.out.fr⟩
theorem least_any (F : Nat → Int) : ∀ (k s : Nat), s < 256 → k < 100000 → ∀ w, Calls Try.prog 32 #[.agg (t256 F), .int .i64 (s : Int), .int .i64 (k : Int)] w fun e w' => e = .returned (.int .i64 (lsF F k s)) ∧ Below w.heap.size w w'
  | 0, s, hs, hk, w => by
    by_cases h0 : s = 0
    · subst h0; exact least_nil F 0 w
    · exact least_none F s hs h0 w
  | k + 1, s, hs, hk, w => by
    by_cases h0 : s = 0
    · subst h0; exact least_nil F (k + 1) w
    · exact least_step F s k (k + 1) rfl hs (by omega) h0 w (fun q hq W _ => least_any F k q hq (by omega) W)
end Go.Proofs.Ytpnkgjkoophckaa

namespace Go.Proofs.Ytpnkgjkoophckaa
open Go.RowKit Go.Shelf

def fwT (F : Nat → Int) (L : Int) (p : Nat) : Bool := decide (F p ≤ L)
/-- The reference's number. -/
def fwV (F : Nat → Int) (L : Int) (s : Nat) : Int := fw (fwT F L) s
/-- The best of the first parts. -/
def fwB (F : Nat → Int) (L : Int) (s j : Nat) : Int := ((List.range j).map (· + 1)).foldl (fwStep (fwT F L) s (fw (fwT F L))) 1048576
theorem fwB_succ (F : Nat → Int) (L : Int) (s j : Nat) : fwB F L s (j + 1) = if (j + 1) &&& s = j + 1 ∧ (j + 1).testBit (lowb s) = true ∧ F (j + 1) ≤ L then min (fwB F L s j) (1 + fwV F L (s - (j + 1))) else fwB F L s j := by
  unfold fwB
  rw [List.range_succ, List.map_append, List.foldl_append]
  simp only [List.map_cons, List.map_nil, List.foldl_cons, List.foldl_nil]
  rw [show ∀ b, fwStep (fwT F L) s (fw (fwT F L)) b (j + 1) = if (j + 1) &&& s = j + 1 ∧ (j + 1).testBit (lowb s) = true ∧ fwT F L (j + 1) = true then min b (1 + fw (fwT F L) (s - (j + 1))) else b from fun b => rfl]
  unfold fwT fwV
  simp only [decide_eq_true_eq]
  rfl
theorem fwB_end (F : Nat → Int) (L : Int) {s : Nat} (h0 : s ≠ 0) : fwB F L s s = fwV F L s := (fw_eq _ h0).symm
theorem fwV_bd (F : Nat → Int) (L : Int) {s : Nat} (hs : s < 256) : 0 ≤ fwV F L s ∧ fwV F L s ≤ 1048576 := (fw_spec s s (Nat.le_refl _) hs).2.2
set_option maxRecDepth 100000 in
set_option maxHeartbeats 16000000 in
theorem fewest_step (F : Nat → Int) (L : Int) (s : Nat) (hs : s < 256) (h0 : s ≠ 0) (w : World) (HI : ∀ q : Nat, q < s → ∀ W, Below w.heap.size w W → Calls Try.prog 46 #[.agg (t256 F), .int .i64 (q : Int), .int .i64 L] W fun e w' => e = .returned (.int .i64 (fwV F L q)) ∧ Below W.heap.size W w') :
    Calls Try.prog 46 #[.agg (t256 F), .int .i64 (s : Int), .int .i64 L] w fun e w' => e = .returned (.int .i64 (fwV F L s)) ∧ Below w.heap.size w w' := by
  have HIH := Lib.hid HI
  clear HI
  have HSU := Lib.hid (fwB_succ F L s)
  have HBD := Lib.hid (fun q (hq : q < 256) => fwV_bd F L hq)
  have HEN : Hid (fwV F L s = fwB F L s s) := (fwB_end F L h0).symm
  have hl8 := lowb_8 ⟨s, hs⟩
  have hlow := bit_low ⟨s, hs⟩ (by show 0 < s; omega)
  have hf : 2 ^ lowb s < 256 := Nat.lt_of_lt_of_le (Nat.pow_lt_pow_right (by decide) hl8) (show 2 ^ 8 ≤ 256 by decide)
  have HLB := Lib.hid (fun p => low_bit p (lowb s))
  simp only at hlow
  generalize 2 ^ lowb s = f at *
  have kz : ((s : Int) == 0) = false := by simp; omega
  have HAND := Lib.hid (fun a b ha hb => bit_and64 a b ha hb)
  have HA0 : Hid (BF w (w.alloc (.cells (t256 F) 58)) [(w.heap.size, t256 F, 58)]) := (BF.base w).alloc _ _
  have HSZ := Lib.hid (t256_info F)
  clear hl8
  go_enter Try.func46, Try.ntmps46
  go_upto_region 1 with (refine wpList_box_row (o := ⟨some 3, .box 58 (.tmp 0), _, _, _, _⟩) rfl 58 (.tmp 0) rfl (t256 F) rfl ?_)
  generalize w.alloc (.cells (t256 F) 58) = w0 at *
  go_wp2_with fail
  go_loopw [7, 9] (fun s7 i wr => ∃ p j : Nat, i = .int .i64 p ∧ Hid (p = j + 1) ∧ j ≤ s ∧ s7 = .int .i64 (fwB F L s j) ∧ BF w wr [(w.heap.size, t256 F, 58)]) (fun _ i _ => s + 1 - (intOf i).toNat)
  case atStart => exact ⟨1, 0, rfl, Lib.hid rfl, Nat.zero_le _, rfl, HA0.out⟩
  case round =>
    clear HA0
    obtain ⟨p, j, rfl, HPJ, hj, rfl, hbf⟩ := hrel
    have HA1 := Lib.hid hbf
    clear hbf
    have hpj := HPJ.out
    by_cases hlt : p ≤ s
    · have kle : (p : Int) ≤ (s : Int) := by omega
      have hp256 : p < 256 := by omega
      have hsu := HSU.out j
      rw [← hpj] at hsu
      have q1 := HAND.out p s hp256 hs
      have q2 := HAND.out p f hp256 hf
      have hlb := HLB.out p
      have hps : p &&& s = p → p ≤ s := fun h => by omega
      obtain ⟨u, hu⟩ : ∃ u, p &&& s = u := ⟨_, rfl⟩
      obtain ⟨v, hv⟩ : ∃ v, p &&& f = v := ⟨_, rfl⟩
      rw [hu] at q1 hsu
      rw [hv] at q2 hlb
      obtain ⟨bv, hbv⟩ : ∃ bv, fwB F L s j = bv := ⟨_, rfl⟩
      obtain ⟨bn, hbn⟩ : ∃ bn, fwB F L s p = bn := ⟨_, rfl⟩
      have HBS := Lib.hid hbn
      rw [hbv, hbn] at hsu
      rw [hbv]
      have hp1 : 1 ≤ p := by omega
      clear hbv hbn hu hv hps hpj
      by_cases e1 : u = p
      · have e1' := e1.symm
        subst e1'
        clear e1
        by_cases e2 : v = 0
        · subst e2
          have hbe : bn = bv := by rw [hsu, if_neg]; rintro ⟨_, h, _⟩; rw [hlb.1 rfl] at h; cases h
          clear hsu hlb
          subst hbe
          go_wp2_with fail
          go_roundw
          case rel => exact ⟨p + 1, p, by go_num, Lib.hid rfl, hlt, by rw [HBS.out], HA1.out⟩
          case measure => simp [intOf]; omega
        · have hvb : p.testBit (lowb s) = true := by
            cases h : p.testBit (lowb s)
            · exact absurd (hlb.2 h) e2
            · rfl
          have kv : ((v : Int) != 0) = true := by simp; omega
          have kp0 : (0 : Int) ≤ (p : Int) := by omega
          have kp256 : (p : Int) < 256 := by omega
          obtain ⟨fp, hfp⟩ : ∃ fp, F p = fp := ⟨_, rfl⟩
          have cp : wr.cell? ⟨w.heap.size, p, none⟩ = some (.int .i64 fp) := (HA1.out.cell (.head _) p).trans ((t256_get _ hp256).trans (by rw [hfp]))
          rw [hfp] at hsu
          by_cases e3 : fp ≤ L
          · rw [if_pos ⟨rfl, hvb, e3⟩] at hsu
            have HIK := Lib.hid (HIH.out (s - p) (by omega))
            have hbd := HBD.out (s - p) (by omega)
            obtain ⟨lr, hlr⟩ : ∃ lr, fwV F L (s - p) = lr := ⟨_, rfl⟩
            rw [hlr] at hsu HIK hbd
            clear hlr hlb hvb hfp
            have KS2 : Hid ((s : Int) - (p : Int) = ((s - p : Nat) : Int)) := by show (s : Int) - (p : Int) = ((s - p : Nat) : Int); omega
            have HBN := Lib.hid hsu
            clear hsu
            have HG := Lib.hid (HA1.out.bk _ _ _ (.head _)).2
            go_wp2_with (first | (with_reducible refine wpList_load_row (o := ⟨some 40, .load 58 (.tmp 3), _, _, _, _⟩) rfl 58 (.tmp 3) rfl w.heap.size rfl 58 (t256 F) (0, 0) _ HG.out Try.underlying58 rfl HSZ.out ?_) | (go_at_call 46; rw [KS2.out]; refine (HIK.out _ HA1.out.fr).mono ?_; rintro _ w2 ⟨rfl, hb2⟩; have HA2 := Lib.hid (HA1.out.below hb2); clear hb2 cp HG))
            go_roundw
            case rel => exact ⟨p + 1, p, by go_num, Lib.hid rfl, hlt, by rw [HBS.out, HBN.out]; congr 1; omega, HA2.out⟩
            case measure => simp [intOf]; omega
          · have hbe : bn = bv := by rw [hsu, if_neg]; rintro ⟨_, _, h⟩; exact e3 h
            clear hsu hlb hfp
            subst hbe
            go_wp2_with fail
            go_roundw
            case rel => exact ⟨p + 1, p, by go_num, Lib.hid rfl, hlt, by rw [HBS.out], HA1.out⟩
            case measure => simp [intOf]; omega
      · have hbe : bn = bv := by rw [hsu, if_neg (fun h => e1 h.1)]
        clear hsu hlb
        subst hbe
        have ku : ((u : Int) == (p : Int)) = false := by simp; omega
        go_wp2_with fail
        go_roundw
        case rel => exact ⟨p + 1, p, by go_num, Lib.hid rfl, hlt, by rw [HBS.out], HA1.out⟩
        case measure => simp [intOf]; omega
    · have hjs : j = s := by omega
      have kle : ¬ ((p : Int) ≤ (s : Int)) := by omega
      rw [hjs]
      clear hjs hpj
      go_wp2_with fail
      go_ret
      exact ⟨congrArg (fun z => Ending.returned (.int .i64 z)) HEN.out.symm, HA1.out.fr⟩
set_option maxRecDepth 100000 in
set_option maxHeartbeats 4000000 in
theorem fewest_nil (F : Nat → Int) (L : Int) (w : World) :
    Calls Try.prog 46 #[.agg (t256 F), .int .i64 ((0 : Nat) : Int), .int .i64 L] w fun e w' => e = .returned (.int .i64 (fwV F L 0)) ∧ Below w.heap.size w w' := by
  rw [show fwV F L 0 = 0 from rfl]
  have HA0 : Hid (BF w (w.alloc (.cells (t256 F) 58)) [(w.heap.size, t256 F, 58)]) := (BF.base w).alloc _ _
  go_enter Try.func46, Try.ntmps46
  go_upto_region 1 with (refine wpList_box_row (o := ⟨some 3, .box 58 (.tmp 0), _, _, _, _⟩) rfl 58 (.tmp 0) rfl (t256 F) rfl ?_)
  generalize w.alloc (.cells (t256 F) 58) = w0 at *
  go_wp2_with fail
  go_ret
  exact ⟨rfl, HA0.out.fr⟩
theorem rFewest_any (F : Nat → Int) (L : Int) : ∀ (k s : Nat), s ≤ k → s < 256 → ∀ w, Calls Try.prog 46 #[.agg (t256 F), .int .i64 (s : Int), .int .i64 L] w fun e w' => e = .returned (.int .i64 (fwV F L s)) ∧ Below w.heap.size w w'
  | 0, s, hk, hs, w => by
    obtain rfl : s = 0 := by omega
    exact fewest_nil F L w
  | k + 1, s, hk, hs, w => by
    by_cases h0 : s = 0
    · subst h0; exact fewest_nil F L w
    · exact fewest_step F L s hs h0 w (fun q hq W _ => rFewest_any F L k q (by omega) (by omega) W)
end Go.Proofs.Ytpnkgjkoophckaa
