/- Walk, plain: ways and tours as lists of places. | Walk: the reference's Round and Tour. Printed by gen_vq.py. | Walk: the reference's Tour. By hand. | Walk, plain: the tours as lists of places. By hand. | Walk: the law's Back and ints, the reference's Longest. Printed by gen_vt.py. -/
import Derived.Test.YtpnkgjkoophckaaVH
import Derived.Test.YtpnkgjkoophckaaVP
import Derived.Test.YtpnkgjkoophckaaVE
import Derived.Test.YtpnkgjkoophckaaVC
namespace Go.Proofs.Ytpnkgjkoophckaa

/-- From a place along a list to another place: so long. -/
inductive Pl (m : Mp) : Nat → List Nat → Nat → Int → Prop
  | nil (a : Nat) : Pl m a [] a 0
  | cons {a f b : Nat} {h K : Int} {l : List Nat} : Ed m a f h → Pl m f l b K → Pl m a (f :: l) b (h + K)
theorem Pl.append {m : Mp} {a b c : Nat} {K1 K2 : Int} {l1 l2 : List Nat} (p : Pl m a l1 b K1) (q : Pl m b l2 c K2) : Pl m a (l1 ++ l2) c (K1 + K2) := by
  induction p with
  | nil a => rw [Int.zero_add]; exact q
  | cons e _ ih => rw [Int.add_assoc]; exact .cons e (ih q)
theorem wayL_pl {m : Mp} (ok : OkM m) {b : Nat} (hb : b < m.nw) : ∀ (N a : Nat), a < m.nw → (tmA m a b).toNat < N → tmA m a b < 1048576 → ∃ l, wayL m a b = a :: l ∧ Pl m a l b (tmA m a b)
  | 0, _, _, h, _ => by omega
  | N + 1, a, ha, hN, hf => by
    by_cases e : a = b
    · subst e
      rw [wayL_self ok ha, tmA_self ok ha]
      exact ⟨[], rfl, .nil a⟩
    · obtain ⟨f, h, h1, h2, h3, h4, h5, h6⟩ := wayL_step ok ha hb e hf
      have hfd := tmA_bd ok h2 hb
      obtain ⟨l, e1, p⟩ := wayL_pl ok hb N f h2 (by omega) (by omega)
      rw [h6, e1, h4]
      exact ⟨f :: l, rfl, .cons h3 p⟩
theorem road_symm (m : Mp) (a b : Int) : m.road a b = m.road b a := by
  have h : (fun k => joinsB (m.ra k) (m.rb k) a b) = fun k => joinsB (m.ra k) (m.rb k) b a := by
    funext k
    unfold joinsB
    rw [Bool.or_comm]
  unfold Mp.road
  rw [h]
theorem Ed.road {m : Mp} (ok : OkM m) {x y : Nat} {h : Int} (e : Ed m x y h) : ∃ r : Nat, m.road x y = r ∧ r < m.nr ∧ h = (m.rt r).2 := by
  obtain ⟨k, hk, h1, h2⟩ := e
  refine ⟨k, ?_, hk, h2⟩
  have := ok.rd k hk
  rcases h1 with ⟨e1, e2⟩ | ⟨e1, e2⟩
  · rw [e1, e2] at this; exact this
  · rw [e1, e2] at this; rw [road_symm]; exact this
theorem along_shift {m : Mp} {z tr : Nat → Int} : ∀ n, alongZ m z tr (n + 1) = tr (m.road (z 0) (z 1)).toNat + alongZ m (fun k => z (k + 1)) tr n
  | 0 => by simp [alongZ]
  | n + 1 => by
    have h : alongZ m z tr (n + 1 + 1) = alongZ m z tr (n + 1) + tr (m.road (z (n + 1)) (z (n + 1 + 1))).toNat := rfl
    have h2 : alongZ m (fun k => z (k + 1)) tr (n + 1) = alongZ m (fun k => z (k + 1)) tr n + tr (m.road (z (n + 1)) (z (n + 1 + 1))).toNat := rfl
    rw [h, along_shift n, h2]
    omega
theorem zL_cons (a : Nat) (l : List Nat) (k : Nat) : zL (a :: l) (k + 1) = zL l k := by
  unfold zL; simp
theorem zL_zero (a : Nat) (l : List Nat) : zL (a :: l) 0 = a := by unfold zL; simp
/-- What a way is, as the reference sees it. -/
theorem Pl.spec {m : Mp} (ok : OkM m) {a b : Nat} {K : Int} {l : List Nat} (p : Pl m a l b K) : zL (a :: l) l.length = b ∧ (∀ k, k < l.length → ∃ r : Nat, m.road (zL (a :: l) k) (zL (a :: l) (k + 1)) = r ∧ r < m.nr) ∧ alongZ m (zL (a :: l)) (fun i => (m.rt i).2) l.length = K := by
  induction p with
  | nil a => exact ⟨zL_zero a [], fun k hk => absurd hk (Nat.not_lt_zero k), rfl⟩
  | @cons a f b h K l e _ ih =>
    obtain ⟨i1, i2, i3⟩ := ih
    obtain ⟨r, r1, r2, r3⟩ := e.road ok
    refine ⟨?_, ?_, ?_⟩
    · rw [List.length_cons, zL_cons]; exact i1
    · intro k hk
      cases k with
      | zero => rw [zL_zero, zL_cons, zL_zero]; exact ⟨r, r1, r2⟩
      | succ k => rw [zL_cons, zL_cons]; exact i2 k (by simp only [List.length_cons] at hk; omega)
    · rw [List.length_cons, along_shift, zL_zero, zL_cons, zL_zero, r1, Int.toNat_natCast]
      have : (fun k => zL (a :: f :: l) (k + 1)) = zL (f :: l) := by funext k; rw [zL_cons]
      rw [this, i3, r3]
theorem Pl.isPath {m : Mp} (ok : OkM m) {a b : Nat} {K : Int} {l : List Nat} (p : Pl m a l b K) (ha : a < m.nw) : isPathB m (zL (a :: l)) (l.length + 1) a b = true := by
  obtain ⟨i1, i2, _⟩ := p.spec ok
  have hin : inB (a : Int) 0 ((m.nw : Int) - 1) = true := by simp only [inB, Bool.and_eq_true, decide_eq_true_eq]; omega
  unfold isPathB pathB
  rw [decide_eq_true (show 1 ≤ l.length + 1 by omega), zL_zero, decide_eq_true rfl, Nat.add_sub_cancel, i1, decide_eq_true rfl, hin, allB_true (fun q hq => by obtain ⟨r, e, _⟩ := i2 q hq; rw [e]; exact decide_eq_true (by omega))]
  rfl
end Go.Proofs.Ytpnkgjkoophckaa

namespace Go.Proofs.Ytpnkgjkoophckaa
open Go.RowKit Go.Shelf

def w64L (D : Nat → Nat → Int) : List Value := (List.range 64).map fun j => .int .i64 (D (j / 8) (j % 8))
theorem row_range {W : World} {b : Nat} {L : List Value} {T : TypeId} (h : W.heap[b]? = some (.cells L.toArray T (0, 0))) : W.rangeAt b 0 L := fun j v hv => by
  rw [Nat.zero_add, cell_of_row _ _ _ _ _ _ h]; simpa using hv
theorem ld_ways {ops : Array Oper} {S : World → Prop} {op : Oper} {a : Act} (D : Nat → Nat → Int) (hw : Region.wanted op (yielded ops a.tmps) = true) (x : Operand) (ho : op.op = .load 46 x) (b : Nat) (hx : a.eval x = .pointer (some ⟨b, 0, none⟩)) (hS : ∀ w, S w → w.rangeAt b 0 (w64L D)) : YieldsIf Try.prog ops S op (.agg (w64 D)) a :=
  yieldsIf_load_mid hw 46 x ho b 0 hx (w64L D) _ hS Try.underlying46 rfl (by rw [show (w64L D).length = 64 by simp [w64L]]; kernel_rfl)
theorem bit_raw : ∀ n : Fin 8, IntKind.i64.wrap (2 ^ min (IntKind.u64.wrap ((n : Nat) : Int)).toNat 64) = ((2 ^ (n : Nat) : Nat) : Int) := by decide +kernel
/-- The best of the first places. -/
def bsT (m : Mp) (a s k : Nat) : Int := (bestL (fun n => tmA m a n + rsT m n (s - 2 ^ n)) (plcN k s)).1
theorem bsT_zero (m : Mp) (a s : Nat) : bsT m a s 0 = 1048576 := rfl
theorem bsT_succ (m : Mp) (a s k : Nat) : bsT m a s (k + 1) = if s.testBit k = true then min (bsT m a s k) (tmA m a k + rsT m k (s - 2 ^ k)) else bsT m a s k := by
  unfold bsT
  rw [plcN_succ]
  by_cases h : s.testBit k = true
  · rw [if_pos h, if_pos h, bestL_snoc]
    split
    · simp only; omega
    · omega
  · rw [if_neg h, if_neg h]
theorem plcN_up {nw s : Nat} (hs : s < 2 ^ nw) : ∀ d, plcN (nw + d) s = plcN nw s
  | 0 => rfl
  | d + 1 => by
    rw [show nw + (d + 1) = (nw + d) + 1 from rfl, plcN_succ, Nat.testBit_lt_two_pow (Nat.lt_of_lt_of_le hs (Nat.pow_le_pow_right (by decide) (Nat.le_add_right nw d)))]
    exact plcN_up hs d
theorem plcN_nw {m : Mp} (ok : OkM m) {s : Nat} (hs : s < 2 ^ m.nw) : plcN m.nw s = plc s := by
  have h := plcN_up hs (8 - m.nw)
  rw [show m.nw + (8 - m.nw) = 8 by have := ok.nw; omega] at h
  exact h.symm
theorem bsT_end {m : Mp} (ok : OkM m) {a s : Nat} (hs : s < 2 ^ m.nw) (h0 : s ≠ 0) : bsT m a s m.nw = rsT m a s := by
  unfold bsT
  rw [plcN_nw ok hs]
  unfold rsT
  rw [rest_eq _ _ h0]
theorem bsT_bd {m : Mp} (ok : OkM m) {a s : Nat} (ha : a < m.nw) (hs : s < 2 ^ m.nw) : ∀ k, 0 ≤ bsT m a s k ∧ bsT m a s k ≤ 1048576
  | 0 => by rw [bsT_zero]; decide
  | k + 1 => by
    have h := bsT_bd ok ha hs k
    rw [bsT_succ]
    split
    · rename_i hb
      have hk := sub_sub hs hb
      have h1 := tmA_bd ok ha hk
      have h2 := rsT_bd ok hk (s := s - 2 ^ k) (Nat.lt_of_le_of_lt (Nat.sub_le _ _) hs)
      omega
    · exact h
set_option maxRecDepth 100000 in
set_option maxHeartbeats 16000000 in
theorem round_step {m : Mp} (ok : OkM m) (x : MV) (s a : Nat) (hs : s < 2 ^ m.nw) (ha : a < m.nw) (w : World) (HI : ∀ n, s.testBit n = true → n < m.nw → ∀ W, Below w.heap.size w W → Calls Try.prog 74 #[.agg #[.slice x.wa m.nw x.wc, .slice x.ra m.nr x.rc], .agg (w64 (allW m)), .int .i64 (n : Int), .int .i64 ((s - 2 ^ n : Nat) : Int)] W fun e w' => e = .returned (.int .i64 (rsT m n (s - 2 ^ n))) ∧ Below W.heap.size W w') :
    Calls Try.prog 74 #[.agg #[.slice x.wa m.nw x.wc, .slice x.ra m.nr x.rc], .agg (w64 (allW m)), .int .i64 (a : Int), .int .i64 (s : Int)] w fun e w' => e = .returned (.int .i64 (rsT m a s)) ∧ Below w.heap.size w w' := by
  have hn := ok.nw
  have h8 := two8 ok hs
  have HIH := Lib.hid HI
  clear HI
  have HAW : Hid (∀ n, n < m.nw → allW m a n = tmA m a n) := fun n hn => by unfold allW; rw [if_pos ⟨ha, hn⟩]
  have HBD := Lib.hid (bsT_bd ok ha hs)
  have HSU := Lib.hid (bsT_succ m a s)
  have HTB := Lib.hid (fun n (hn : n < m.nw) => tmA_bd ok ha hn)
  have HRB := Lib.hid (fun n (hn : n < m.nw) => rsT_bd ok hn (s := s - 2 ^ n) (Nat.lt_of_le_of_lt (Nat.sub_le _ _) hs))
  have HEN : Hid (s ≠ 0 → bsT m a s m.nw = rsT m a s) := bsT_end ok hs
  have HZE : Hid (s = 0 → rsT m a s = tmA m a 0) := fun e => by subst e; exact rsT_zero m a
  have ha8 : a < 8 := by omega
  have HA0 : Hid (BF w ((w.alloc (.cells #[.slice x.wa m.nw x.wc, .slice x.ra m.nr x.rc] 25)).alloc (.cells (w64 (allW m)) 46)) [(w.heap.size, #[.slice x.wa m.nw x.wc, .slice x.ra m.nr x.rc], 25), (w.heap.size + 1, w64 (allW m), 46)]) := BF.made2 _ _ _ _ _
  clear ok
  go_enter Try.func74, Try.ntmps74
  go_upto_region 1 with (refine wpList_box_row (o := ⟨some 5, .box 46 (.tmp 1), _, _, _, _⟩) rfl 46 (.tmp 1) rfl (w64 (allW m)) rfl ?_)
  generalize ((w.alloc (.cells #[.slice x.wa m.nw x.wc, .slice x.ra m.nr x.rc] 25)).alloc (.cells (w64 (allW m)) 46)) = w0 at *
  have qa : (0 : Int) ≤ (a : Int) := by omega
  have qa8 : (a : Int) < 8 := by omega
  by_cases h0 : s = 0
  · have e0 := (HA0.out.cell (.tail _ (.head _)) (a * 8 + 0)).trans (w64_get _ ha8 (show 0 < 8 by decide))
    rw [HAW.out 0 (by omega), ← HZE.out h0] at e0
    obtain ⟨rv, hrv⟩ : ∃ rv, rsT m a s = rv := ⟨_, rfl⟩
    rw [hrv] at e0
    have HRV := Lib.hid hrv
    clear hrv
    subst h0
    clear HIH HBD HSU HEN HZE HTB HRB
    replace e0 : w0.cell? ⟨w.heap.size + 1, a * 8, none⟩ = some (.int .i64 rv) := e0
    go_wp2_with fail
    go_ret
    exact ⟨congrArg (fun z => Ending.returned (.int .i64 z)) HRV.out.symm, HA0.out.fr⟩
  have k0 : ((s : Int) == 0) = false := by simp; omega
  have HEN2 : Hid (bsT m a s m.nw = rsT m a s) := HEN.out h0
  clear HEN HZE
  go_wp2_with fail
  go_loopw [9, 10] (fun s9 i wr => ∃ n : Nat, i = .int .i64 n ∧ n ≤ m.nw ∧ s9 = .int .i64 (bsT m a s n) ∧ BF w wr [(w.heap.size, #[.slice x.wa m.nw x.wc, .slice x.ra m.nr x.rc], 25), (w.heap.size + 1, w64 (allW m), 46)]) (fun _ i _ => m.nw - (intOf i).toNat)
  case atStart => exact ⟨0, rfl, Nat.zero_le _, rfl, HA0.out⟩
  case round =>
    clear HA0
    obtain ⟨n, rfl, hnn, rfl, hbf⟩ := hrel
    have HA1 := Lib.hid hbf
    clear hbf
    have c0 := HA1.out.cell (.head _) 0
    have c1 := HA1.out.cell (.head _) 1
    by_cases hlt : n < m.nw
    · have hn8 : n < 8 := by omega
      have hb2 : ((((s : Nat) : Int) / 2 ^ n).tmod 2 == 1) = s.testBit n := bit_two ⟨s, h8⟩ ⟨n, hn8⟩
      have hsk := HSU.out n
      have hbd := HBD.out n
      have ki : (0 : Int) ≤ (n : Int) := by omega
      have kj : (n : Int) < (m.nw : Int) := by omega
      have k8 : (n : Int) < 8 := by omega
      obtain ⟨bv, hbv⟩ : ∃ bv, bsT m a s n = bv := ⟨_, rfl⟩
      obtain ⟨bn, hbn⟩ : ∃ bn, bsT m a s (n + 1) = bn := ⟨_, rfl⟩
      have HBS := Lib.hid hbn
      rw [hbv, hbn] at hsk
      rw [hbv] at hbd ⊢
      clear hbv hbn
      cases hbb : s.testBit n
      · rw [hbb] at hb2 hsk
        have hbe : bn = bv := hsk
        clear hsk hbb
        subst hbe
        go_wp2_with fail
        go_roundw
        case rel => exact ⟨n + 1, by go_num, by omega, by rw [HBS.out], HA1.out⟩
        case measure => simp [intOf]; omega
      · have HIK := Lib.hid (HIH.out n hbb hlt)
        have hp2 := testBit_le hbb
        rw [hbb] at hb2 hsk
        rw [if_pos rfl] at hsk
        have htb := HTB.out n hlt
        have hrb := HRB.out n hlt
        have HTN : Hid (allW m a n = tmA m a n) := HAW.out n hlt
        obtain ⟨tn, htn⟩ : ∃ tn, tmA m a n = tn := ⟨_, rfl⟩
        rw [htn] at hsk htb HTN
        clear htn
        obtain ⟨rn, hrn⟩ : ∃ rn, rsT m n (s - 2 ^ n) = rn := ⟨_, rfl⟩
        rw [hrn] at hsk hrb HIK
        clear hrn
        have hmn : bn ≤ bv ∧ bn ≤ tn + rn ∧ (bn = bv ∨ bn = tn + rn) := by omega
        clear hsk hbb
        have hsb : (s : Int) - ((2 ^ n : Nat) : Int) = ((s - 2 ^ n : Nat) : Int) := by generalize 2 ^ n = q at *; omega
        have hwb : IntKind.i64.wrap ((s : Int) - ((2 ^ n : Nat) : Int)) = ((s - 2 ^ n : Nat) : Int) := by rw [hsb]; exact IntWalk.i64_in _ (by generalize 2 ^ n = q at *; omega)
        have KS : Hid (IntKind.i64.wrap ((s : Int) - IntKind.i64.wrap (2 ^ min (IntKind.u64.wrap (n : Int)).toNat 64)) = ((s - 2 ^ n : Nat) : Int)) := by
          unfold Hid
          rw [show IntKind.i64.wrap (2 ^ min (IntKind.u64.wrap (n : Int)).toNat 64) = ((2 ^ n : Nat) : Int) from bit_raw ⟨n, hn8⟩]
          exact hwb
        clear hp2 hsb hwb
        have kw : IntKind.i64.wrap (tn + rn) = tn + rn := IntWalk.i64_in _ (by omega)
        go_upto_region 8 with fail
        have HAX : Hid (BF w wr.drew [(w.heap.size, #[.slice x.wa m.nw x.wc, .slice x.ra m.nr x.rc], 25), (w.heap.size + 1, w64 (allW m), 46)]) := HA1.out.below (Below.refl _ _).drew
        clear HA1 c0 c1
        refine wp_region_Z (S := fun X => X.cell? ⟨w.heap.size, 0, none⟩ = some (.slice x.wa m.nw x.wc) ∧ X.cell? ⟨w.heap.size, 1, none⟩ = some (.slice x.ra m.nr x.rc) ∧ X.cell? ⟨w.heap.size + 1, a * 8 + n, none⟩ = some (.int .i64 tn) ∧ X.rangeAt (w.heap.size + 1) 0 (w64L (allW m))) (by kernel_rfl) (⟨HAX.out.cell (.head _) 0, HAX.out.cell (.head _) 1, (HAX.out.cell (.tail _ (.head _)) (a * 8 + n)).trans ((w64_get _ ha8 hn8).trans (by rw [HTN.out])), row_range (HAX.out.bk _ _ _ (.tail _ (.head _))).2⟩) (fun hS => ?_)
        generalize wr.drew = X at *
        refine tk [0, 1, 2, 3, 4, 5, 6] ?_
        repeat (refine tkZ (oi := ⟨_, _, _, _, _, _⟩) (v := ?_) rfl (by kernel_rfl) (by rfl) (fun _ _ _ h => h) hS ?_ ?_; rotate_left; (· rintro W' ⟨z0, z1, z2, z3⟩; go_simp; try with_reducible rfl); try simp only [Act.put, putA, putZ, putS])
        refine tk0 ?_
        refine wpAnyZ_take (i := 7) (oi := ⟨some 37, _, _, _, _, _⟩) (v := .agg (w64 (allW m))) rfl (by kernel_rfl) (by kernel_rfl) (by kernel_rfl) (fun _ _ _ h => h) (ld_ways (allW m) (by rfl) (.tmp 5) rfl (w.heap.size + 1) rfl (fun _ h => h.2.2.2)) hS ?_
        try simp only [Act.put, putA, putZ, putS]
        refine tk [8, 9, 10, 11, 12, 13] ?_
        repeat (refine tkZ (oi := ⟨_, _, _, _, _, _⟩) (v := ?_) rfl (by kernel_rfl) (by rfl) (fun _ _ _ h => h) hS ?_ ?_; rotate_left; (· rintro W' ⟨z0, z1, z2, z3⟩; go_simp; try with_reducible rfl); try simp only [Act.put, putA, putZ, putS])
        refine tk0 ?_
        refine wpAnyZ_next (rs := [14]) (by kernel_rfl) (by simp) ?_
        refine NextZ.cons (o := ⟨some 44, _, _, _, _, _⟩) rfl (fun K hK => ?_) NextZ.nil
        go_simp
        (try rw [KS.out])
        refine (HIK.out X HAX.out.fr).mono ?_
        rintro _ X0 ⟨rfl, hb0⟩
        (try go_wp2_with fail)
        have HA0 := Lib.hid (HAX.out.below hb0)
        refine hK.out _ _ (⟨HA0.out.cell (.head _) 0, HA0.out.cell (.head _) 1, (HA0.out.cell (.tail _ (.head _)) (a * 8 + n)).trans ((w64_get _ ha8 hn8).trans (by rw [HTN.out])), row_range (HA0.out.bk _ _ _ (.tail _ (.head _))).2⟩) (fun hS => ?_)
        clear hK K
        try simp only [Act.put, putA, putZ, putS]
        clear hb0
        refine tZ 15 (oi := ⟨_, _, _, _, _, _⟩) (v := ?_) rfl (by kernel_rfl) (by rfl) (fun _ _ _ h => h) hS ?_ ?_
        rotate_left
        · rintro W' ⟨z0, z1, z2, z3⟩; go_simp; try with_reducible rfl
        try simp only [Act.put, putA, putZ, putS]
        refine tZ 16 (oi := ⟨_, _, _, _, _, _⟩) (v := .int .i64 bn) rfl (by kernel_rfl) (by rfl) (fun _ _ _ h => h) hS ?_ ?_
        · rintro W' ⟨z0, z1, z2, z3⟩; go_simp; (first | (with_reducible rfl) | (split <;> (first | rfl | (congr 2; omega))) | (congr 2; omega))
        try simp only [Act.put, putA, putZ, putS]
        refine tZ 17 (oi := ⟨_, _, _, _, _, _⟩) (v := ?_) rfl (by kernel_rfl) (by rfl) (fun _ _ _ h => h) hS ?_ ?_
        rotate_left
        · rintro W' ⟨z0, z1, z2, z3⟩; go_simp; try with_reducible rfl
        try simp only [Act.put, putA, putZ, putS]
        refine wpAnyZ_done (by kernel_rfl) ?_ _
        go_wp2_with fail
        go_roundw
        case rel => exact ⟨n + 1, by go_num, by omega, by rw [HBS.out], HA0.out⟩
        case measure => simp [intOf]; omega
    · have hnw : n = m.nw := by omega
      have hni : (n : Int) = (m.nw : Int) := by omega
      have hbd := HBD.out m.nw
      rw [hnw, HEN2.out]
      rw [HEN2.out] at hbd
      clear hnw hlt hnn hni
      obtain ⟨rv, hrv⟩ : ∃ rv, rsT m a s = rv := ⟨_, rfl⟩
      rw [hrv] at hbd ⊢
      have HRV := Lib.hid hrv
      clear hrv HEN2
      have kmin : ¬ ((1048576 : Int) < rv) := by omega
      have kq : ¬ ((m.nw : Int) < (m.nw : Int)) := by omega
      go_wp2_with fail
      go_ret
      exact ⟨congrArg (fun z => Ending.returned (.int .i64 z)) HRV.out.symm, HA1.out.fr⟩
theorem round_ind {m : Mp} (ok : OkM m) (x : MV) : ∀ (p s a : Nat), s ≤ p → s < 2 ^ m.nw → a < m.nw → ∀ w, Calls Try.prog 74 #[.agg #[.slice x.wa m.nw x.wc, .slice x.ra m.nr x.rc], .agg (w64 (allW m)), .int .i64 (a : Int), .int .i64 (s : Int)] w fun e w' => e = .returned (.int .i64 (rsT m a s)) ∧ Below w.heap.size w w'
  | 0, s, a, h, hs, ha, w => round_step ok x s a hs ha w (fun n hb _ => by
      obtain rfl : s = 0 := by omega
      simp at hb)
  | p + 1, s, a, h, hs, ha, w => round_step ok x s a hs ha w (fun n hb hn W _ => round_ind ok x p (s - 2 ^ n) n (by have := testBit_le hb; have := Nat.two_pow_pos n; omega) (Nat.lt_of_le_of_lt (Nat.sub_le _ _) hs) hn W)
theorem rRound_any {m : Mp} (ok : OkM m) (x : MV) {s a : Nat} (hs : s < 2 ^ m.nw) (ha : a < m.nw) (w : World) : Calls Try.prog 74 #[.agg #[.slice x.wa m.nw x.wc, .slice x.ra m.nr x.rc], .agg (w64 (allW m)), .int .i64 (a : Int), .int .i64 (s : Int)] w fun e w' => e = .returned (.int .i64 (rsT m a s)) ∧ Below w.heap.size w w' := round_ind ok x s s a (Nat.le_refl _) hs ha w
end Go.Proofs.Ytpnkgjkoophckaa

namespace Go.Proofs.Ytpnkgjkoophckaa
open Go.RowKit Go.Shelf

/-- The longest times of the counted places among the first. -/
def hsN (m : Mp) (s k : Nat) : Int := hiS m (plcN k s)
theorem hsN_zero (m : Mp) (s : Nat) : hsN m s 0 = 0 := rfl
theorem hsN_succ (m : Mp) (s k : Nat) : hsN m s (k + 1) = if s.testBit k = true then hsN m s k + (m.wk k).2 else hsN m s k := by
  unfold hsN
  rw [plcN_succ]
  split
  · exact hiS_snoc m _ k
  · rfl
theorem hsN_bd {m : Mp} (ok : OkM m) {s : Nat} (hs : s < 2 ^ m.nw) (k : Nat) (hk : k ≤ 8) : 0 ≤ hsN m s k ∧ hsN m s k ≤ 400 := by
  have h := hiS_bd ok (plcN k s) (fun p hp => sub_sub hs (plcN_mem.1 hp).2)
  have h2 := plcN_len k s
  unfold hsN
  omega
theorem hsN_end {m : Mp} (ok : OkM m) {s : Nat} (hs : s < 2 ^ m.nw) : rsT m 0 s + hsN m s m.nw = lgM m s := by
  unfold hsN
  rw [plcN_nw ok hs]
  rfl
/-- What the reference's Tour returns. -/
def tuM (m : Mp) (s : Nat) : Int := min (lgM m s) 1048576
set_option maxRecDepth 100000 in
set_option maxHeartbeats 16000000 in
theorem rTour_any {m : Mp} (ok : OkM m) (x : MV) {s : Nat} (hs : s < 2 ^ m.nw) (w : World) (h : MpIn w x m) :
    Calls Try.prog 25 #[.agg #[.slice x.wa m.nw x.wc, .slice x.ra m.nr x.rc], .agg (w64 (allW m)), .int .i64 (s : Int)] w fun e w' => e = .returned (.int .i64 (tuM m s)) ∧ Below w.heap.size w w' := by
  obtain ⟨pa, pc, qa, qc⟩ := x
  simp only at *
  have hn := ok.nw
  have h8 := two8 ok hs
  have HRO := Lib.hid (fun W => rRound_any ok ⟨pa, pc, qa, qc⟩ hs hn.1 W)
  have HWK := Lib.hid (fun W (hW : Below w.heap.size w W) => (h.below hW).wk)
  have HBD := Lib.hid (hsN_bd ok hs)
  have HSU := Lib.hid (hsN_succ m s)
  have hrb := rsT_bd ok hn.1 hs
  have hEN := hsN_end ok hs
  have HWB := Lib.hid (fun n (hn : n < m.nw) => (ok.wk n hn))
  obtain ⟨rv, hrv⟩ : ∃ rv, rsT m 0 s = rv := ⟨_, rfl⟩
  rw [hrv] at hrb hEN HRO
  clear hrv
  have HEN : Hid (tuM m s = min (rv + hsN m s m.nw) 1048576) := by unfold Hid tuM; rw [hEN]
  clear hEN ok h
  have HA0 : Hid (BF w ((w.alloc (.cells #[.slice pa m.nw pc, .slice qa m.nr qc] 25)).alloc (.cells (w64 (allW m)) 46)) [(w.heap.size, #[.slice pa m.nw pc, .slice qa m.nr qc], 25), (w.heap.size + 1, w64 (allW m), 46)]) := BF.made2 _ _ _ _ _
  go_enter Try.func25, Try.ntmps25
  go_upto_region 1 with (refine wpList_box_row (o := ⟨some 4, .box 46 (.tmp 1), _, _, _, _⟩) rfl 46 (.tmp 1) rfl (w64 (allW m)) rfl ?_)
  generalize ((w.alloc (.cells #[.slice pa m.nw pc, .slice qa m.nr qc] 25)).alloc (.cells (w64 (allW m)) 46)) = w0 at *
  have c0 := HA0.out.cell (.head _) 0
  have c1 := HA0.out.cell (.head _) 1
  have HG := Lib.hid (HA0.out.bk _ _ _ (.tail _ (.head _))).2
  have HSZ := Lib.hid (w64_info (allW m))
  go_wp2_with (first | (with_reducible refine wpList_load_row (o := ⟨some 10, .load 46 (.tmp 4), _, _, _, _⟩) rfl 46 (.tmp 4) rfl (w.heap.size + 1) rfl 46 (w64 (allW m)) (0, 0) _ HG.out Try.underlying46 rfl HSZ.out ?_) | (go_at_call 74; refine (HRO.out _).mono ?_; rintro _ w1 ⟨rfl, hb⟩; have HA1 := Lib.hid (HA0.out.below hb); clear hb HG HSZ c0 c1))
  clear HA0 HRO
  go_loopw [7, 8] (fun s7 i wr => ∃ n : Nat, i = .int .i64 n ∧ n ≤ m.nw ∧ s7 = .int .i64 (rv + hsN m s n) ∧ BF w wr [(w.heap.size, #[.slice pa m.nw pc, .slice qa m.nr qc], 25), (w.heap.size + 1, w64 (allW m), 46)]) (fun _ i _ => m.nw - (intOf i).toNat)
  case atStart => exact ⟨0, rfl, Nat.zero_le _, by rw [hsN_zero, Int.add_zero], HA1.out⟩
  case round =>
    clear HA1
    obtain ⟨n, rfl, hnn, rfl, hbf⟩ := hrel
    have HA1 := Lib.hid hbf
    clear hbf
    have c0 := HA1.out.cell (.head _) 0
    by_cases hlt : n < m.nw
    · have hn8 : n < 8 := by omega
      have hb2 : ((((s : Nat) : Int) / 2 ^ n).tmod 2 == 1) = s.testBit n := bit_two ⟨s, h8⟩ ⟨n, hn8⟩
      have hsk := HSU.out n
      have hbd := HBD.out n (by omega)
      have hwb := HWB.out n hlt
      have ki : (0 : Int) ≤ (n : Int) := by omega
      have kj : (n : Int) < (m.nw : Int) := by omega
      have k8 : (n : Int) < 8 := by omega
      obtain ⟨bv, hbv⟩ : ∃ bv, hsN m s n = bv := ⟨_, rfl⟩
      obtain ⟨bn, hbn⟩ : ∃ bn, hsN m s (n + 1) = bn := ⟨_, rfl⟩
      have HBS := Lib.hid hbn
      rw [hbv, hbn] at hsk
      rw [hbv] at hbd ⊢
      clear hbv hbn
      cases hbb : s.testBit n
      · rw [hbb] at hb2 hsk
        have hbe : bn = bv := hsk
        clear hsk hbb
        subst hbe
        go_wp2_with fail
        go_roundw
        case rel => exact ⟨n + 1, by go_num, by omega, by rw [HBS.out], HA1.out⟩
        case measure => simp [intOf]; omega
      · rw [hbb] at hb2 hsk
        rw [if_pos rfl] at hsk
        obtain ⟨b, off, rfl, hb, x0, x1⟩ := (HWK.out _ HA1.out.fr).at (k := n) hlt
        clear hb x0
        obtain ⟨pv, hpv⟩ : ∃ pv, (m.wk n).2 = pv := ⟨_, rfl⟩
        rw [hpv] at hsk hwb x1
        clear hpv
        have kw : IntKind.i64.wrap (rv + bv + pv) = rv + bn := (IntWalk.i64_in _ (by omega)).trans (by omega)
        clear hsk hbb
        go_wp2_with fail
        go_roundw
        case rel => exact ⟨n + 1, by go_num, by omega, by rw [HBS.out], HA1.out⟩
        case measure => simp [intOf]; omega
    · have hnw : n = m.nw := by omega
      have hni : (n : Int) = (m.nw : Int) := by omega
      have hbd := HBD.out m.nw (by omega)
      have he := HEN.out
      rw [hnw]
      clear hnw hlt hnn hni
      obtain ⟨bv, hbv⟩ : ∃ bv, hsN m s m.nw = bv := ⟨_, rfl⟩
      rw [hbv] at hbd he ⊢
      have HRV := Lib.hid he
      clear hbv he HEN
      have kq : ¬ ((m.nw : Int) < (m.nw : Int)) := by omega
      by_cases kmin : (1048576 : Int) < rv + bv
      · go_wp2_with fail
        go_ret
        exact ⟨congrArg (fun z => Ending.returned (.int .i64 z)) (by rw [HRV.out]; omega), HA1.out.fr⟩
      · go_wp2_with fail
        go_ret
        exact ⟨congrArg (fun z => Ending.returned (.int .i64 z)) (by rw [HRV.out]; omega), HA1.out.fr⟩
end Go.Proofs.Ytpnkgjkoophckaa

namespace Go.Proofs.Ytpnkgjkoophckaa

theorem Pl.last {m : Mp} {a b : Nat} {K : Int} {l : List Nat} (p : Pl m a l b K) : b ∈ a :: l := by
  induction p with
  | nil a => exact .head _
  | cons _ _ ih => exact .tail _ ih
theorem tourF_pl {m : Mp} (ok : OkM m) (a s : Nat) (ha : a < m.nw) (hs : s < 2 ^ m.nw) (hf : rsT m a s < 1048576) : Pl m a (tourF m s a s) 0 (rsT m a s) ∧ (∀ i, s.testBit i = true → i ∈ a :: tourF m s a s) ∧ (tourF m s a s).length ≤ 7 * ((plc s).length + 1) := by
  have hn := ok.nw
  by_cases h0 : s = 0
  · subst h0
    rw [rsT_zero] at hf ⊢
    obtain ⟨l, e, p⟩ := wayL_pl ok (show 0 < m.nw by omega) _ a ha (Nat.lt_succ_self _) hf
    have h8 := wayL_8 ok ha (show 0 < m.nw by omega) hf
    have ht : tourF m 0 a 0 = l := by show (wayL m a 0).tail = l; rw [e]; rfl
    rw [ht]
    refine ⟨p, fun i hi => by simp at hi, ?_⟩
    rw [e] at h8
    simp only [List.length_cons] at h8
    omega
  · obtain ⟨j, j1, j2, j3, j4, j5, j6, j7⟩ := rest_next ok ha hs h0 hf
    obtain ⟨l, e, p⟩ := wayL_pl ok j4 _ a ha (Nat.lt_succ_self _) j5
    have h8 := wayL_8 ok ha j4 j5
    rw [e] at h8
    simp only [List.length_cons] at h8
    have hp := testBit_le j3
    have h2 := Nat.two_pow_pos j
    have s8 := two8 ok hs
    obtain ⟨q1, q2, q3⟩ := tourF_pl ok j (s - 2 ^ j) j4 (by omega) j6
    have hl := plc_off ⟨s, s8⟩ ⟨j, j2⟩ j3
    simp only at hl
    have ht : tourF m s a s = l ++ tourF m (s - 2 ^ j) j (s - 2 ^ j) := by rw [tourF_step ok hs h0 hf j1 j3 j4 j6, e]; rfl
    rw [ht, show rsT m a s = tmA m a j + rsT m j (s - 2 ^ j) from j7]
    refine ⟨p.append q1, fun i hi => ?_, by rw [List.length_append]; omega⟩
    have hj : j ∈ a :: l := p.last
    by_cases ei : i = j
    · subst ei
      rw [← List.cons_append]
      exact List.mem_append_left _ hj
    · have := q2 i (by rw [off_bit s8 j3, hi]; simp [ei])
      rcases List.mem_cons.1 this with h | h
      · exact absurd h ei
      · rw [← List.cons_append]; exact List.mem_append_right _ h
termination_by s
decreasing_by omega
def tourY (m : Mp) (s : Nat) : Wl := ⟨(tourL m s).length, zL (tourL m s), (plc s).length, zL (plc s)⟩
theorem work_congr {ct ct' tw : Nat → Int} : ∀ n, (∀ k, k < n → ct k = ct' k) → workZ ct tw n = workZ ct' tw n
  | 0, _ => rfl
  | n + 1, h => by
    simp only [workZ]
    rw [work_congr n (fun k hk => h k (by omega)), h n (by omega)]
theorem zL_app {L : List Nat} {p k : Nat} (h : k < L.length) : zL (L ++ [p]) k = zL L k := by
  rw [zL_get (by rw [List.length_append]; omega), zL_get h, List.getElem_append_left h]
theorem work_hiS (m : Mp) (L : List Nat) : workZ (zL L) (fun i => (m.wk i).2) L.length = hiS m L := by
  rcases List.eq_nil_or_concat L with rfl | ⟨L, n, rfl⟩
  · rfl
  · rw [List.concat_eq_append, hiS_snoc, ← work_hiS m L, List.length_append]
    simp only [List.length_cons, List.length_nil, workZ]
    rw [work_congr L.length (fun k hk => zL_app hk), zL_get (L := L ++ [n]) (j := L.length) (by simp)]
    simp
termination_by L.length
decreasing_by simp_all
theorem tour_walk {m : Mp} (ok : OkM m) {s : Nat} (hs : s < 2 ^ m.nw) (hf : rsT m 0 s < 1048576) : isWalkB m (tourY m s) = true ∧ timeZ m (tourY m s) (fun i => (m.wk i).2) (fun i => (m.rt i).2) = lgM m s := by
  have hn := ok.nw
  obtain ⟨p, q2, q3⟩ := tourF_pl ok 0 s (by omega) hs hf
  have hl : (tourL m s).length = (tourF m s 0 s).length + 1 := List.length_cons
  have h8 := plc_lt ⟨s, two8 ok hs⟩
  simp only at h8
  have hr : risesB (zL (plc s)) (plc s).length = true := rises_list (List.pairwise_lt_range.filter _)
  constructor
  · unfold isWalkB tourY
    simp only
    rw [hl, decide_eq_true (show (tourF m s 0 s).length + 1 ≤ 64 by omega), Bool.true_and, Bool.and_eq_true]
    refine ⟨p.isPath ok (show 0 < m.nw by omega), allB_true (fun j hj => ?_)⟩
    rw [Bool.and_eq_true]
    constructor
    · rw [hasB_iff, zL_get hj]
      have hm := q2 _ (plc_mem.1 (List.getElem_mem hj)).2
      obtain ⟨k, hk, ek⟩ := List.getElem_of_mem hm
      exact ⟨k, by simpa using hk, by rw [show tourL m s = 0 :: tourF m s 0 s from rfl, zL_get hk, ek]⟩
    · have := rises_iff.1 hr j hj
      simpa only [Bool.or_eq_true, decide_eq_true_eq] using this
  · unfold timeZ tourY
    simp only
    rw [hl, Nat.add_sub_cancel, show tourL m s = 0 :: tourF m s 0 s from rfl, (p.spec ok).2.2, work_hiS, lgM_rs]
theorem sorted_ext : ∀ A B : List Nat, A.Pairwise (· < ·) → B.Pairwise (· < ·) → (∀ i, i ∈ A ↔ i ∈ B) → A = B
  | [], B, _, _, h => by
    cases B with
    | nil => rfl
    | cons b B => exact absurd ((h b).2 (.head _)) (by simp)
  | a :: A, [], _, _, h => absurd ((h a).1 (.head _)) (by simp)
  | a :: A, b :: B, hA, hB, h => by
    rw [List.pairwise_cons] at hA hB
    have e : a = b := by
      rcases List.mem_cons.1 ((h a).1 (.head _)) with h1 | h1
      · exact h1
      · rcases List.mem_cons.1 ((h b).2 (.head _)) with h2 | h2
        · exact h2.symm
        · have := hB.1 a h1; have := hA.1 b h2; omega
    subst e
    rw [sorted_ext A B hA.2 hB.2 (fun i => ?_)]
    have hi := h i
    constructor
    · intro h1
      rcases List.mem_cons.1 (hi.1 (.tail _ h1)) with h2 | h2
      · have := hA.1 i h1; omega
      · exact h2
    · intro h1
      rcases List.mem_cons.1 (hi.2 (.tail _ h1)) with h2 | h2
      · have := hB.1 i h1; omega
      · exact h2
theorem rises_lt {z : Nat → Int} {n : Nat} (h : risesB z n = true) : ∀ d i, i + d + 1 < n → z i < z (i + d + 1)
  | 0, i, hi => by
    rcases rises_iff.1 h (i + 1) (by omega) with h1 | h1
    · omega
    · exact h1
  | d + 1, i, hi => by
    have h1 := rises_lt h d i (by omega)
    rcases rises_iff.1 h (i + (d + 1) + 1) (by omega) with h2 | h2
    · omega
    · have e : i + (d + 1) + 1 - 1 = i + d + 1 := by omega
      rw [e] at h2; omega
/-- The places of a list are the list. -/
theorem plc_list {m : Mp} (ok : OkM m) {z : Nat → Int} {n : Nat} (h : placesB m z n = true) : (plc (orL z n)).length = n ∧ ∀ j, j < n → zL (plc (orL z n)) j = z j := by
  have hn := ok.nw
  unfold placesB at h
  rw [Bool.and_eq_true] at h
  obtain ⟨h1, h2⟩ := h
  have hb : ∀ j, j < n → 0 ≤ z j ∧ z j < m.nw := fun j hj => by have := allB_iff.1 h2 j hj; simp only [inB, Bool.and_eq_true, decide_eq_true_eq] at this; omega
  have e : plc (orL z n) = (List.range n).map fun j => (z j).toNat := by
    refine sorted_ext _ _ (List.pairwise_lt_range.filter _) ?_ (fun i => ?_)
    · rw [List.pairwise_iff_getElem]
      intro i j hi hj hij
      simp only [List.length_map, List.length_range] at hi hj
      simp only [List.getElem_map, List.getElem_range]
      have := rises_lt h1 (j - i - 1) i (by omega)
      rw [show i + (j - i - 1) + 1 = j by omega] at this
      have := hb i hi
      omega
    · rw [plc_mem, orL_bit, List.mem_map]
      constructor
      · rintro ⟨_, j, hj, rfl⟩
        exact ⟨j, List.mem_range.2 hj, rfl⟩
      · rintro ⟨j, hj, rfl⟩
        have hj := List.mem_range.1 hj
        have := hb j hj
        exact ⟨by omega, j, hj, rfl⟩
  rw [e]
  refine ⟨by simp, fun j hj => ?_⟩
  rw [zL_get (by simpa using hj)]
  simp only [List.getElem_map, List.getElem_range]
  have := hb j hj
  omega
end Go.Proofs.Ytpnkgjkoophckaa

namespace Go.Proofs.Ytpnkgjkoophckaa
open Go.RowKit Go.Shelf

set_option maxRecDepth 100000 in
set_option maxHeartbeats 8000000 in
theorem backC_own (p1 p2 : Option Addr) (n1 c1 n2 c2 : Nat) (z1 z2 : Nat → Int) (w : World) (h1 : IntsIn w (.slice p1 n1 c1) n1 z1) (h2 : IntsIn w (.slice p2 n2 c2) n2 z2) (k1 : n1 ≤ 100000) (k2 : n2 ≤ 100000) :
    Calls Try.prog 28 #[.agg #[.slice p1 n1 c1, .slice p2 n2 c2]] w fun e w' => ∃ a1 d1 a2 d2, e = .returned (.agg #[.slice a1 n1 d1, .slice a2 n2 d2]) ∧ w'.ownsRow w.heap.size 3 1 (.slice a1 n1 d1) n1 (iL z1 n1) ∧ w'.ownsRow w.heap.size 3 1 (.slice a2 n2 d2) n2 (iL z2 n2) ∧ Below w.heap.size w w' := by
  have HLA := Lib.hid (fun W (hW : Below w.heap.size w W) => listC_any p1 n1 c1 z1 W k1 (h1.below hW))
  have HLB := Lib.hid (fun W (hW : Below w.heap.size w W) => listC_any p2 n2 c2 z2 W k2 (h2.below hW))
  clear h1 h2
  have HA0 : Hid (BF w ((w.alloc (.cells #[.slice p1 n1 c1, .slice p2 n2 c2] 30)).alloc (.cells #[.slice none 0 0, .slice none 0 0] 49)) [(w.heap.size, #[.slice p1 n1 c1, .slice p2 n2 c2], 30), (w.heap.size + 1, #[.slice none 0 0, .slice none 0 0], 49)]) := BF.made2 _ _ _ _ _
  go_enter Try.func28, Try.ntmps28
  go_upto_region 1 with fail
  generalize ((w.alloc (.cells #[.slice p1 n1 c1, .slice p2 n2 c2] 30)).alloc (.cells #[.slice none 0 0, .slice none 0 0] 49)) = w0 at *
  have HAX : Hid (BF w w0.drew [(w.heap.size, #[.slice p1 n1 c1, .slice p2 n2 c2], 30), (w.heap.size + 1, #[.slice none 0 0, .slice none 0 0], 49)]) := HA0.out.below (Below.refl _ _).drew
  clear HA0
  refine wp_region_Z (S := fun X => X.cell? ⟨w.heap.size, 0, none⟩ = some (.slice p1 n1 c1) ∧ X.cell? ⟨w.heap.size, 1, none⟩ = some (.slice p2 n2 c2)) (by kernel_rfl) (⟨HAX.out.cell (.head _) 0, HAX.out.cell (.head _) 1⟩) (fun hS => ?_)
  generalize w0.drew = X at *
  refine tk [0, 1, 3, 4] ?_
  repeat (refine tkZ (oi := ⟨_, _, _, _, _, _⟩) (v := ?_) rfl (by kernel_rfl) (by rfl) (fun _ _ _ h => h) hS ?_ ?_; rotate_left; (· rintro W' ⟨z0, z1⟩; go_simp; try with_reducible rfl); try simp only [Act.put, putA, putZ, putS])
  refine tk0 ?_
  refine wpAnyZ_next (rs := [2]) (by kernel_rfl) (by simp) ?_
  refine NextZ.cons (o := ⟨some 5, _, _, _, _, _⟩) rfl (fun K hK => ?_) NextZ.nil
  go_simp
  refine (HLA.out X HAX.out.fr).mono ?_
  rintro _ X0 ⟨aA, cA, rfl, ho0, hb0⟩
  (try go_wp2_with fail)
  have HA0 := Lib.hid (HAX.out.below hb0)
  have HOA0 : Hid (X0.ownsRow w.heap.size 3 1 (.slice aA n1 cA) n1 (iL z1 n1)) := own_mono ho0 HAX.out.fr.size
  refine hK.out _ _ (⟨HA0.out.cell (.head _) 0, HA0.out.cell (.head _) 1⟩) (fun hS => ?_)
  clear hK K
  try simp only [Act.put, putA, putZ, putS]
  clear hb0 ho0
  refine wpAnyZ_next (rs := [5]) (by kernel_rfl) (by simp) ?_
  refine NextZ.cons (o := ⟨some 8, _, _, _, _, _⟩) rfl (fun K hK => ?_) NextZ.nil
  go_simp
  refine (HLB.out X0 HA0.out.fr).mono ?_
  rintro _ X1 ⟨aB, cB, rfl, ho1, hb1⟩
  (try go_wp2_with fail)
  have HA1 := Lib.hid (HA0.out.below hb1)
  have HOA1 := Lib.hid (own_below HOA0.out hb1)
  have HOB1 : Hid (X1.ownsRow w.heap.size 3 1 (.slice aB n2 cB) n2 (iL z2 n2)) := own_mono ho1 HA0.out.fr.size
  refine hK.out _ _ (⟨HA1.out.cell (.head _) 0, HA1.out.cell (.head _) 1⟩) (fun hS => ?_)
  clear hK K
  try simp only [Act.put, putA, putZ, putS]
  clear hb1 ho1
  refine tZ 6 (oi := ⟨_, _, _, _, _, _⟩) (v := ?_) rfl (by kernel_rfl) (by rfl) (fun _ _ _ h => h) hS ?_ ?_
  rotate_left
  · rintro W' ⟨z0, z1⟩; go_simp; try with_reducible rfl
  try simp only [Act.put, putA, putZ, putS]
  refine wpAnyZ_next (rs := [7]) (by kernel_rfl) (by simp) ?_
  refine NextZ.last (o := ⟨none, _, _, _, _, _⟩) rfl (by kernel_rfl) (fun K hK => ?_)
  have e0 := HA1.out.cell (.tail _ (.head _)) 0
  have e1 := HA1.out.cell (.tail _ (.head _)) 1
  have f0 := HA1.out.thaw (.tail _ (.head _)) 0
  have f1 := HA1.out.thaw (.tail _ (.head _)) 1
  have hF := (Fr.set X1 (w.heap.size + 1) 0 (.slice aA n1 cA)).trans (Fr.set _ (w.heap.size + 1) 1 (.slice aB n2 cB))
  have hX := (HA1.out.bk _ _ _ (.tail _ (.head _))).2
  have HOA2 := Lib.hid (own_fr HOA1.out hF (fun g' cur _ _ hc e => by subst e; rw [hX] at hc; cases hc))
  have HOB2 := Lib.hid (own_fr HOB1.out hF (fun g' cur _ _ hc e => by subst e; rw [hX] at hc; cases hc))
  have HA2 := Lib.hid (BF.set2 HA1.out (.tail _ (.head _)) (.slice aA n1 cA) (.slice aB n2 cB) (L' := [(w.heap.size, #[.slice p1 n1 c1, .slice p2 n2 c2], 30)]) (List.forall_mem_cons.2 ⟨⟨show w.heap.size ≠ w.heap.size + 1 by omega, (.head _)⟩, List.forall_mem_nil _⟩))
  clear hF hX
  go_simp
  refine hK.out _ _ ?_
  clear hK K
  (try simp only [Act.put])
  clear e0 e1 f0 f1
  refine wpAnyZ_done (by kernel_rfl) ?_ _
  have g0 := HA2.out.cell (.head _) 0
  have g1 := HA2.out.cell (.head _) 1
  go_wp2_with fail
  exact bodyPost_ret (v := .agg #[.slice aA n1 cA, .slice aB n2 cB]) (by simp [results, Try.results28, go_sem, g0, g1]) rfl ⟨aA, cA, aB, cB, rfl, HOA2.out, HOB2.out, HA2.out.fr⟩
theorem backC_any (p1 p2 : Option Addr) (n1 c1 n2 c2 : Nat) (z1 z2 : Nat → Int) (w : World) (h1 : IntsIn w (.slice p1 n1 c1) n1 z1) (h2 : IntsIn w (.slice p2 n2 c2) n2 z2) (k1 : n1 ≤ 100000) (k2 : n2 ≤ 100000) :
    Calls Try.prog 28 #[.agg #[.slice p1 n1 c1, .slice p2 n2 c2]] w fun e w' => ∃ a1 d1 a2 d2, e = .returned (.agg #[.slice a1 n1 d1, .slice a2 n2 d2]) ∧ IntsIn w' (.slice a1 n1 d1) n1 z1 ∧ IntsIn w' (.slice a2 n2 d2) n2 z2 ∧ Below w.heap.size w w' := by
  refine (backC_own p1 p2 n1 c1 n2 c2 z1 z2 w h1 h2 k1 k2).mono ?_
  rintro _ w' ⟨a1, d1, a2, d2, rfl, o1, o2, hb⟩
  exact ⟨a1, d1, a2, d2, rfl, (IntsAt.own o1).toIn, (IntsAt.own o2).toIn, hb⟩
set_option maxHeartbeats 4000000 in
theorem ints_eq (p1 p2 : Option Addr) (n c1 c2 : Nat) (z1 z2 : Nat → Int) (w : World) (hn : n ≤ 100000) (h1 : IntsIn w (.slice p1 n c1) n z1) (h2 : IntsIn w (.slice p2 n c2) n z2) (he : ∀ j, j < n → z1 j = z2 j) :
    Calls Try.prog 29 #[.slice p1 n c1, .slice p2 n c2] w fun e w' => e = .returned (.bool true) ∧ Below w.heap.size w w' := by
  have H1 := Lib.hid h1
  have H2 := Lib.hid h2
  have HE := Lib.hid he
  clear h1 h2 he
  go_enter Try.func29, Try.ntmps29
  go_wp2_with fail
  go_loopw [5] (fun i wr => ∃ k : Nat, i = .int .i64 k ∧ k ≤ n ∧ Below w.heap.size w wr) (fun i _ => n - (intOf i).toNat)
  case atStart => exact ⟨0, rfl, Nat.zero_le _, Below.refl _ _⟩
  case round =>
    obtain ⟨k, rfl, hk, hb⟩ := hrel
    have HBQ := Lib.hid hb
    clear hb
    by_cases hlt : k < n
    · obtain ⟨b1, o1, rfl, hb1, x0⟩ := H1.out.at hlt
      obtain ⟨b2, o2, rfl, hb2, y0⟩ := H2.out.at hlt
      rw [HE.out k hlt] at x0
      have ki : (0 : Int) ≤ (k : Int) := by omega
      have kn : (k : Int) < (n : Int) := by omega
      obtain ⟨zk, hzk⟩ : ∃ zk, z2 k = zk := ⟨_, rfl⟩
      rw [hzk] at x0 y0
      clear hzk
      have x1 := kept HBQ.out hb1 x0
      have y1 := kept HBQ.out hb2 y0
      go_upto_region 6 with fail
      go_quiet (fail)
      go_wp2_with fail
      go_roundw
      case rel => exact ⟨k + 1, by go_num, by omega, HBQ.out.trans (below_drewS _ _ _)⟩
      case measure => simp [intOf]; omega
    · have hkn : k = n := by omega
      have hki : (k : Int) = (n : Int) := by omega
      have kq : ¬ ((k : Int) < (n : Int)) := by omega
      clear hkn hlt hk
      go_wp2_with fail
      go_ret
      exact ⟨rfl, HBQ.out⟩
set_option maxRecDepth 100000 in
set_option maxHeartbeats 16000000 in
theorem rLongest_any {m : Mp} (ok : OkM m) (x : MV) (u : LV) (y : Wl) (w : World) (h : MpIn w x m) (hu : WlIn w u y) (hy : WlOk m y) (hc : y.nc ≤ 100000) :
    Calls Try.prog 30 #[.agg #[.slice x.wa m.nw x.wc, .slice x.ra m.nr x.rc], .agg #[.slice u.ra y.nl u.rc, .slice u.ca y.nc u.cc]] w fun e w' => e = .returned (.int .i64 (timeZ m y (fun i => (m.wk i).2) (fun i => (m.rt i).2))) ∧ Below w.heap.size w w' := by
  have hn := ok.nw
  have hr := ok.nr
  have HSL := Lib.hid (fun W (hW : Below w.heap.size w W) => rSlow_any x m W (h.below hW) (by omega) (by omega))
  have HTM := Lib.hid (fun W (hW : Below w.heap.size w W) (t : TV) (ht : TrIn W t m (fun i => (m.wk i).2) (fun i => (m.rt i).2)) => rTime_any x m u y t _ _ W (h.below hW) (hu.below hW) ht hy (by omega) hc (trBd_high ok))
  clear h hu hy ok
  generalize timeZ m y (fun i => (m.wk i).2) (fun i => (m.rt i).2) = tz at *
  have HA0 : Hid (BF w ((w.alloc (.cells #[.slice x.wa m.nw x.wc, .slice x.ra m.nr x.rc] 25)).alloc (.cells #[.slice u.ra y.nl u.rc, .slice u.ca y.nc u.cc] 49)) [(w.heap.size, #[.slice x.wa m.nw x.wc, .slice x.ra m.nr x.rc], 25), (w.heap.size + 1, #[.slice u.ra y.nl u.rc, .slice u.ca y.nc u.cc], 49)]) := BF.made2 _ _ _ _ _
  go_enter Try.func30, Try.ntmps30
  go_upto_region 1 with fail
  generalize ((w.alloc (.cells #[.slice x.wa m.nw x.wc, .slice x.ra m.nr x.rc] 25)).alloc (.cells #[.slice u.ra y.nl u.rc, .slice u.ca y.nc u.cc] 49)) = w0 at *
  have HAX : Hid (BF w w0.drew [(w.heap.size, #[.slice x.wa m.nw x.wc, .slice x.ra m.nr x.rc], 25), (w.heap.size + 1, #[.slice u.ra y.nl u.rc, .slice u.ca y.nc u.cc], 49)]) := HA0.out.below (Below.refl _ _).drew
  clear HA0
  refine wp_region_Z (S := fun X => X.cell? ⟨w.heap.size, 0, none⟩ = some (.slice x.wa m.nw x.wc) ∧ X.cell? ⟨w.heap.size, 1, none⟩ = some (.slice x.ra m.nr x.rc) ∧ X.cell? ⟨w.heap.size + 1, 0, none⟩ = some (.slice u.ra y.nl u.rc) ∧ X.cell? ⟨w.heap.size + 1, 1, none⟩ = some (.slice u.ca y.nc u.cc)) (by kernel_rfl) (⟨HAX.out.cell (.head _) 0, HAX.out.cell (.head _) 1, HAX.out.cell (.tail _ (.head _)) 0, HAX.out.cell (.tail _ (.head _)) 1⟩) (fun hS => ?_)
  generalize w0.drew = X at *
  refine tk [0, 1, 2] ?_
  repeat (refine tkZ (oi := ⟨_, _, _, _, _, _⟩) (v := ?_) rfl (by kernel_rfl) (by rfl) (fun _ _ _ h => h) hS ?_ ?_; rotate_left; (· rintro W' ⟨z0, z1, z2, z3⟩; go_simp; try with_reducible rfl); try simp only [Act.put, putA, putZ, putS])
  refine tk0 ?_
  refine wpAnyZ_next (rs := [3]) (by kernel_rfl) (by simp) ?_
  refine NextZ.cons (o := ⟨some 8, _, _, _, _, _⟩) rfl (fun K hK => ?_) NextZ.nil
  go_simp
  refine (HSL.out X HAX.out.fr).mono ?_
  rintro _ X0 ⟨⟨h1, h2, h3, h4⟩, rfl, ht0, hb0⟩
  (try go_wp2_with fail)
  have HA0 := Lib.hid (HAX.out.below hb0)
  have HT0 := Lib.hid (ht0.tr)
  refine hK.out _ _ (⟨HA0.out.cell (.head _) 0, HA0.out.cell (.head _) 1, HA0.out.cell (.tail _ (.head _)) 0, HA0.out.cell (.tail _ (.head _)) 1⟩) (fun hS => ?_)
  clear hK K
  try simp only [Act.put, putA, putZ, putS]
  clear hb0 ht0
  refine wpAnyZ_next (rs := [4]) (by kernel_rfl) (by simp) ?_
  refine NextZ.cons (o := ⟨some 9, _, _, _, _, _⟩) rfl (fun K hK => ?_) NextZ.nil
  go_simp
  refine (HTM.out X0 HA0.out.fr ⟨h1, h2, h3, h4⟩ HT0.out).mono ?_
  rintro _ X1 ⟨rfl, hb1⟩
  (try go_wp2_with fail)
  have HA1 := Lib.hid (HA0.out.below hb1)
  refine hK.out _ _ (⟨HA1.out.cell (.head _) 0, HA1.out.cell (.head _) 1, HA1.out.cell (.tail _ (.head _)) 0, HA1.out.cell (.tail _ (.head _)) 1⟩) (fun hS => ?_)
  clear hK K
  try simp only [Act.put, putA, putZ, putS]
  clear hb1
  refine tZ 5 (oi := ⟨_, _, _, _, _, _⟩) (v := ?_) rfl (by kernel_rfl) (by rfl) (fun _ _ _ h => h) hS ?_ ?_
  rotate_left
  · rintro W' ⟨z0, z1, z2, z3⟩; go_simp; try with_reducible rfl
  try simp only [Act.put, putA, putZ, putS]
  refine wpAnyZ_done (by kernel_rfl) ?_ _
  go_wp2
  go_ret
  exact ⟨rfl, HA1.out.fr⟩
end Go.Proofs.Ytpnkgjkoophckaa
