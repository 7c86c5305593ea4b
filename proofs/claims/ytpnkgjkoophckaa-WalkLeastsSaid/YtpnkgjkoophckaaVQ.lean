/- Walk: the reference's Round and Tour. Printed by gen_vq.py. -/
import Derived.Test.YtpnkgjkoophckaaVP
import Derived.Test.YtpnkgjkoophckaaVM
namespace Go.Proofs.Ytpnkgjkoophckaa
open Go.RowKit Go.Shelf

def w64L (D : Nat → Nat → Int) : List Value := (List.range 64).map fun j => .int .i64 (D (j / 8) (j % 8))
theorem row_range {W : World} {b : Nat} {L : List Value} {T : TypeId} (h : W.heap[b]? = some (.cells L.toArray T (0, 0))) : W.rangeAt b 0 L := fun j v hv => by
  rw [Nat.zero_add, cell_of_row _ _ _ _ _ _ h]; simpa using hv
theorem ld_ways {ops : Array Oper} {S : World → Prop} {op : Oper} {a : Act} (D : Nat → Nat → Int) (hw : Region.wanted op (yielded ops a.tmps) = true) (x : Operand) (ho : op.op = .load 46 x) (b : Nat) (hx : a.eval x = .pointer (some ⟨b, 0, none⟩)) (hS : ∀ w, S w → w.rangeAt b 0 (w64L D)) : YieldsIf Try.prog ops S op (.agg (w64 D)) a :=
  yieldsIf_load_mid hw 46 x ho b 0 hx (w64L D) _ hS Try.underlying46 rfl (by rw [show (w64L D).length = 64 by simp [w64L]]; kernel_rfl)
theorem bit_raw : ∀ n : Fin 8, IntKind.i64.wrap (2 ^ min (IntKind.u64.wrap ((n : Nat) : Int)).toNat 64) = ((2 ^ (n : Nat) : Nat) : Int) := by decide +kernel
/-- The best of the first places. -/
def bsT (m : Mp) (a s k : Nat) : Int := (bestL (fun n => tmA m a n + rsT m n (s - 2 ^ n)) (plcN k s)).1
theorem bsT_zero (m : Mp) (a s : Nat) : bsT m a s 0 = 1048576 := rfl
theorem bsT_succ (m : Mp) (a s k : Nat) : bsT m a s (k + 1) = if s.testBit k = true then min (bsT m a s k) (tmA m a k + rsT m k (s - 2 ^ k)) else bsT m a s k := by
  unfold bsT
  rw [plcN_succ]
  by_cases h : s.testBit k = true
  · rw [if_pos h, if_pos h, bestL_snoc]
    split
    · simp only; omega
    · omega
  · rw [if_neg h, if_neg h]
theorem plcN_up {nw s : Nat} (hs : s < 2 ^ nw) : ∀ d, plcN (nw + d) s = plcN nw s
  | 0 => rfl
  | d + 1 => by
    rw [show nw + (d + 1) = (nw + d) + 1 from rfl, plcN_succ, Nat.testBit_lt_two_pow (Nat.lt_of_lt_of_le hs (Nat.pow_le_pow_right (by decide) (Nat.le_add_right nw d)))]
    exact plcN_up hs d
theorem plcN_nw {m : Mp} (ok : OkM m) {s : Nat} (hs : s < 2 ^ m.nw) : plcN m.nw s = plc s := by
  have h := plcN_up hs (8 - m.nw)
  rw [show m.nw + (8 - m.nw) = 8 by have := ok.nw; omega] at h
  exact h.symm
theorem bsT_end {m : Mp} (ok : OkM m) {a s : Nat} (hs : s < 2 ^ m.nw) (h0 : s ≠ 0) : bsT m a s m.nw = rsT m a s := by
  unfold bsT
  rw [plcN_nw ok hs]
  unfold rsT
  rw [rest_eq _ _ h0]
theorem bsT_bd {m : Mp} (ok : OkM m) {a s : Nat} (ha : a < m.nw) (hs : s < 2 ^ m.nw) : ∀ k, 0 ≤ bsT m a s k ∧ bsT m a s k ≤ 1048576
  | 0 => by rw [bsT_zero]; decide
  | k + 1 => by
    have h := bsT_bd ok ha hs k
    rw [bsT_succ]
    split
    · rename_i hb
      have hk := sub_sub hs hb
      have h1 := tmA_bd ok ha hk
      have h2 := rsT_bd ok hk (s := s - 2 ^ k) (Nat.lt_of_le_of_lt (Nat.sub_le _ _) hs)
      omega
    · exact h
set_option maxRecDepth 100000 in
set_option maxHeartbeats 16000000 in
theorem round_step {m : Mp} (ok : OkM m) (x : MV) (s a : Nat) (hs : s < 2 ^ m.nw) (ha : a < m.nw) (w : World) (HI : ∀ n, s.testBit n = true → n < m.nw → ∀ W, Below w.heap.size w W → Calls Try.prog 74 #[.agg #[.slice x.wa m.nw x.wc, .slice x.ra m.nr x.rc], .agg (w64 (allW m)), .int .i64 (n : Int), .int .i64 ((s - 2 ^ n : Nat) : Int)] W fun e w' => e = .returned (.int .i64 (rsT m n (s - 2 ^ n))) ∧ Below W.heap.size W w') :
    Calls Try.prog 74 #[.agg #[.slice x.wa m.nw x.wc, .slice x.ra m.nr x.rc], .agg (w64 (allW m)), .int .i64 (a : Int), .int .i64 (s : Int)] w fun e w' => e = .returned (.int .i64 (rsT m a s)) ∧ Below w.heap.size w w' := by
  have hn := ok.nw
  have h8 := two8 ok hs
  have HIH := Lib.hid HI
  clear HI
  have HAW : Hid (∀ n, n < m.nw → allW m a n = tmA m a n) := fun n hn => by unfold allW; rw [if_pos ⟨ha, hn⟩]
  have HBD := Lib.hid (bsT_bd ok ha hs)
  have HSU := Lib.hid (bsT_succ m a s)
  have HTB := Lib.hid (fun n (hn : n < m.nw) => tmA_bd ok ha hn)
  have HRB := Lib.hid (fun n (hn : n < m.nw) => rsT_bd ok hn (s := s - 2 ^ n) (Nat.lt_of_le_of_lt (Nat.sub_le _ _) hs))
  have HEN : Hid (s ≠ 0 → bsT m a s m.nw = rsT m a s) := bsT_end ok hs
  have HZE : Hid (s = 0 → rsT m a s = tmA m a 0) := fun e => by subst e; exact rsT_zero m a
  have ha8 : a < 8 := by omega
  have HA0 : Hid (BF w ((w.alloc (.cells #[.slice x.wa m.nw x.wc, .slice x.ra m.nr x.rc] 25)).alloc (.cells (w64 (allW m)) 46)) [(w.heap.size, #[.slice x.wa m.nw x.wc, .slice x.ra m.nr x.rc], 25), (w.heap.size + 1, w64 (allW m), 46)]) := BF.made2 _ _ _ _ _
  clear ok
  go_enter Try.func74, Try.ntmps74
  go_upto_region 1 with (refine wpList_box_row (o := ⟨some 5, .box 46 (.tmp 1), _, _, _, _⟩) rfl 46 (.tmp 1) rfl (w64 (allW m)) rfl ?_)
  generalize ((w.alloc (.cells #[.slice x.wa m.nw x.wc, .slice x.ra m.nr x.rc] 25)).alloc (.cells (w64 (allW m)) 46)) = w0 at *
  have qa : (0 : Int) ≤ (a : Int) := by omega
  have qa8 : (a : Int) < 8 := by omega
  by_cases h0 : s = 0
  · have e0 := (HA0.out.cell (.tail _ (.head _)) (a * 8 + 0)).trans (w64_get _ ha8 (show 0 < 8 by decide))
    rw [HAW.out 0 (by omega), ← HZE.out h0] at e0
    obtain ⟨rv, hrv⟩ : ∃ rv, rsT m a s = rv := ⟨_, rfl⟩
    rw [hrv] at e0
    have HRV := Lib.hid hrv
    clear hrv
    subst h0
    clear HIH HBD HSU HEN HZE HTB HRB
    replace e0 : w0.cell? ⟨w.heap.size + 1, a * 8, none⟩ = some (.int .i64 rv) := e0
    go_wp2_with fail
    go_ret
    exact ⟨congrArg (fun z => Ending.returned (.int .i64 z)) HRV.out.symm, HA0.out.fr⟩
  have k0 : ((s : Int) == 0) = false := by simp; omega
  have HEN2 : Hid (bsT m a s m.nw = rsT m a s) := HEN.out h0
  clear HEN HZE
  go_wp2_with fail
  go_loopw [9, 10] (fun s9 i wr => ∃ n : Nat, i = .int .i64 n ∧ n ≤ m.nw ∧ s9 = .int .i64 (bsT m a s n) ∧ BF w wr [(w.heap.size, #[.slice x.wa m.nw x.wc, .slice x.ra m.nr x.rc], 25), (w.heap.size + 1, w64 (allW m), 46)]) (fun _ i _ => m.nw - (intOf i).toNat)
  case atStart => exact ⟨0, rfl, Nat.zero_le _, rfl, HA0.out⟩
  case round =>
    clear HA0
    obtain ⟨n, rfl, hnn, rfl, hbf⟩ := hrel
    have HA1 := Lib.hid hbf
    clear hbf
    have c0 := HA1.out.cell (.head _) 0
    have c1 := HA1.out.cell (.head _) 1
    by_cases hlt : n < m.nw
    · have hn8 : n < 8 := by omega
      have hb2 : ((((s : Nat) : Int) / 2 ^ n).tmod 2 == 1) = s.testBit n := bit_two ⟨s, h8⟩ ⟨n, hn8⟩
      have hsk := HSU.out n
      have hbd := HBD.out n
      have ki : (0 : Int) ≤ (n : Int) := by omega
      have kj : (n : Int) < (m.nw : Int) := by omega
      have k8 : (n : Int) < 8 := by omega
      obtain ⟨bv, hbv⟩ : ∃ bv, bsT m a s n = bv := ⟨_, rfl⟩
      obtain ⟨bn, hbn⟩ : ∃ bn, bsT m a s (n + 1) = bn := ⟨_, rfl⟩
      have HBS := Lib.hid hbn
      rw [hbv, hbn] at hsk
      rw [hbv] at hbd ⊢
      clear hbv hbn
      cases hbb : s.testBit n
      · rw [hbb] at hb2 hsk
        have hbe : bn = bv := hsk
        clear hsk hbb
        subst hbe
        go_wp2_with fail
        go_roundw
        case rel => exact ⟨n + 1, by go_num, by omega, by rw [HBS.out], HA1.out⟩
        case measure => simp [intOf]; omega
      · have HIK := Lib.hid (HIH.out n hbb hlt)
        have hp2 := testBit_le hbb
        rw [hbb] at hb2 hsk
        rw [if_pos rfl] at hsk
        have htb := HTB.out n hlt
        have hrb := HRB.out n hlt
        have HTN : Hid (allW m a n = tmA m a n) := HAW.out n hlt
        obtain ⟨tn, htn⟩ : ∃ tn, tmA m a n = tn := ⟨_, rfl⟩
        rw [htn] at hsk htb HTN
        clear htn
        obtain ⟨rn, hrn⟩ : ∃ rn, rsT m n (s - 2 ^ n) = rn := ⟨_, rfl⟩
        rw [hrn] at hsk hrb HIK
        clear hrn
        have hmn : bn ≤ bv ∧ bn ≤ tn + rn ∧ (bn = bv ∨ bn = tn + rn) := by omega
        clear hsk hbb
        have hsb : (s : Int) - ((2 ^ n : Nat) : Int) = ((s - 2 ^ n : Nat) : Int) := by generalize 2 ^ n = q at *; omega
        have hwb : IntKind.i64.wrap ((s : Int) - ((2 ^ n : Nat) : Int)) = ((s - 2 ^ n : Nat) : Int) := by rw [hsb]; exact IntWalk.i64_in _ (by generalize 2 ^ n = q at *; omega)
        have KS : Hid (IntKind.i64.wrap ((s : Int) - IntKind.i64.wrap (2 ^ min (IntKind.u64.wrap (n : Int)).toNat 64)) = ((s - 2 ^ n : Nat) : Int)) := by
          unfold Hid
          rw [show IntKind.i64.wrap (2 ^ min (IntKind.u64.wrap (n : Int)).toNat 64) = ((2 ^ n : Nat) : Int) from bit_raw ⟨n, hn8⟩]
          exact hwb
        clear hp2 hsb hwb
        have kw : IntKind.i64.wrap (tn + rn) = tn + rn := IntWalk.i64_in _ (by omega)
        go_upto_region 8 with fail
        have HAX : Hid (BF w wr.drew [(w.heap.size, #[.slice x.wa m.nw x.wc, .slice x.ra m.nr x.rc], 25), (w.heap.size + 1, w64 (allW m), 46)]) := HA1.out.below (Below.refl _ _).drew
        clear HA1 c0 c1
        refine wp_region_Z (S := fun X => X.cell? ⟨w.heap.size, 0, none⟩ = some (.slice x.wa m.nw x.wc) ∧ X.cell? ⟨w.heap.size, 1, none⟩ = some (.slice x.ra m.nr x.rc) ∧ X.cell? ⟨w.heap.size + 1, a * 8 + n, none⟩ = some (.int .i64 tn) ∧ X.rangeAt (w.heap.size + 1) 0 (w64L (allW m))) (by kernel_rfl) (⟨HAX.out.cell (.head _) 0, HAX.out.cell (.head _) 1, (HAX.out.cell (.tail _ (.head _)) (a * 8 + n)).trans ((w64_get _ ha8 hn8).trans (by rw [HTN.out])), row_range (HAX.out.bk _ _ _ (.tail _ (.head _))).2⟩) (fun hS => ?_)
        generalize wr.drew = X at *
        refine tk [0, 1, 2, 3, 4, 5, 6] ?_
        repeat (refine tkZ (oi := ⟨_, _, _, _, _, _⟩) (v := ?_) rfl (by kernel_rfl) (by rfl) (fun _ _ _ h => h) hS ?_ ?_; rotate_left; (· rintro W' ⟨z0, z1, z2, z3⟩; go_simp; try with_reducible rfl); try simp only [Act.put, putA, putZ, putS])
        refine tk0 ?_
        refine wpAnyZ_take (i := 7) (oi := ⟨some 37, _, _, _, _, _⟩) (v := .agg (w64 (allW m))) rfl (by kernel_rfl) (by kernel_rfl) (by kernel_rfl) (fun _ _ _ h => h) (ld_ways (allW m) (by rfl) (.tmp 5) rfl (w.heap.size + 1) rfl (fun _ h => h.2.2.2)) hS ?_
        try simp only [Act.put, putA, putZ, putS]
        refine tk [8, 9, 10, 11, 12, 13] ?_
        repeat (refine tkZ (oi := ⟨_, _, _, _, _, _⟩) (v := ?_) rfl (by kernel_rfl) (by rfl) (fun _ _ _ h => h) hS ?_ ?_; rotate_left; (· rintro W' ⟨z0, z1, z2, z3⟩; go_simp; try with_reducible rfl); try simp only [Act.put, putA, putZ, putS])
        refine tk0 ?_
        refine wpAnyZ_next (rs := [14]) (by kernel_rfl) (by simp) ?_
        refine NextZ.cons (o := ⟨some 44, _, _, _, _, _⟩) rfl (fun K hK => ?_) NextZ.nil
        go_simp
        (try rw [KS.out])
        refine (HIK.out X HAX.out.fr).mono ?_
        rintro _ X0 ⟨rfl, hb0⟩
        (try go_wp2_with fail)
        have HA0 := Lib.hid (HAX.out.below hb0)
        refine hK.out _ _ (⟨HA0.out.cell (.head _) 0, HA0.out.cell (.head _) 1, (HA0.out.cell (.tail _ (.head _)) (a * 8 + n)).trans ((w64_get _ ha8 hn8).trans (by rw [HTN.out])), row_range (HA0.out.bk _ _ _ (.tail _ (.head _))).2⟩) (fun hS => ?_)
        clear hK K
        try simp only [Act.put, putA, putZ, putS]
        clear hb0
        refine tZ 15 (oi := ⟨_, _, _, _, _, _⟩) (v := ?_) rfl (by kernel_rfl) (by rfl) (fun _ _ _ h => h) hS ?_ ?_
        rotate_left
        · rintro W' ⟨z0, z1, z2, z3⟩; go_simp; try with_reducible rfl
        try simp only [Act.put, putA, putZ, putS]
        refine tZ 16 (oi := ⟨_, _, _, _, _, _⟩) (v := .int .i64 bn) rfl (by kernel_rfl) (by rfl) (fun _ _ _ h => h) hS ?_ ?_
        · rintro W' ⟨z0, z1, z2, z3⟩; go_simp; (first | (with_reducible rfl) | (split <;> (first | rfl | (congr 2; omega))) | (congr 2; omega))
        try simp only [Act.put, putA, putZ, putS]
        refine tZ 17 (oi := ⟨_, _, _, _, _, _⟩) (v := ?_) rfl (by kernel_rfl) (by rfl) (fun _ _ _ h => h) hS ?_ ?_
        rotate_left
        · rintro W' ⟨z0, z1, z2, z3⟩; go_simp; try with_reducible rfl
        try simp only [Act.put, putA, putZ, putS]
        refine wpAnyZ_done (by kernel_rfl) ?_ _
        go_wp2_with fail
        go_roundw
        case rel => exact ⟨n + 1, by go_num, by omega, by rw [HBS.out], HA0.out⟩
        case measure => simp [intOf]; omega
    · have hnw : n = m.nw := by omega
      have hni : (n : Int) = (m.nw : Int) := by omega
      have hbd := HBD.out m.nw
      rw [hnw, HEN2.out]
      rw [HEN2.out] at hbd
      clear hnw hlt hnn hni
      obtain ⟨rv, hrv⟩ : ∃ rv, rsT m a s = rv := ⟨_, rfl⟩
      rw [hrv] at hbd ⊢
      have HRV := Lib.hid hrv
      clear hrv HEN2
      have kmin : ¬ ((1048576 : Int) < rv) := by omega
      have kq : ¬ ((m.nw : Int) < (m.nw : Int)) := by omega
      go_wp2_with fail
      go_ret
      exact ⟨congrArg (fun z => Ending.returned (.int .i64 z)) HRV.out.symm, HA1.out.fr⟩
theorem round_ind {m : Mp} (ok : OkM m) (x : MV) : ∀ (p s a : Nat), s ≤ p → s < 2 ^ m.nw → a < m.nw → ∀ w, Calls Try.prog 74 #[.agg #[.slice x.wa m.nw x.wc, .slice x.ra m.nr x.rc], .agg (w64 (allW m)), .int .i64 (a : Int), .int .i64 (s : Int)] w fun e w' => e = .returned (.int .i64 (rsT m a s)) ∧ Below w.heap.size w w'
  | 0, s, a, h, hs, ha, w => round_step ok x s a hs ha w (fun n hb _ => by
      obtain rfl : s = 0 := by omega
      simp at hb)
  | p + 1, s, a, h, hs, ha, w => round_step ok x s a hs ha w (fun n hb hn W _ => round_ind ok x p (s - 2 ^ n) n (by have := testBit_le hb; have := Nat.two_pow_pos n; omega) (Nat.lt_of_le_of_lt (Nat.sub_le _ _) hs) hn W)
theorem rRound_any {m : Mp} (ok : OkM m) (x : MV) {s a : Nat} (hs : s < 2 ^ m.nw) (ha : a < m.nw) (w : World) : Calls Try.prog 74 #[.agg #[.slice x.wa m.nw x.wc, .slice x.ra m.nr x.rc], .agg (w64 (allW m)), .int .i64 (a : Int), .int .i64 (s : Int)] w fun e w' => e = .returned (.int .i64 (rsT m a s)) ∧ Below w.heap.size w w' := round_ind ok x s s a (Nat.le_refl _) hs ha w
end Go.Proofs.Ytpnkgjkoophckaa
