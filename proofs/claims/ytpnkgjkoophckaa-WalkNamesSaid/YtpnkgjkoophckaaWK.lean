/- Walk: next, as an iterator: the roads at a place. -/
import Derived.Test.YtpnkgjkoophckaaWJ
namespace Go.Proofs.Ytpnkgjkoophckaa
open Go.RowKit Go.Shelf

def isAt (m : Mp) (n : Int) (k : Nat) : Bool := decide (0 ≤ otherR m k n)
/-- The roads at a place, by number. -/
def atL (m : Mp) (n : Int) : List Nat := (List.range m.nr).filter (isAt m n)
def cntA (m : Mp) (n : Int) (k : Nat) : Nat := ((List.range k).filter (isAt m n)).length
def encN (m : Mp) (n : Int) (k : Nat) : Array Value := #[.int .i64 (otherR m ((atL m n).getD k 0) n), .int .i64 (m.rt ((atL m n).getD k 0)).2]
theorem cntA_succ (m : Mp) (n : Int) (k : Nat) : cntA m n (k + 1) = cntA m n k + if isAt m n k = true then 1 else 0 := by
  unfold cntA
  rw [List.range_succ, List.filter_append, List.length_append]
  cases h : isAt m n k <;> simp [h]
theorem atL_get (m : Mp) (n : Int) {k : Nat} (hk : k < m.nr) (h : isAt m n k = true) : cntA m n k < (atL m n).length ∧ (atL m n).getD (cntA m n k) 0 = k := by
  have e : atL m n = (List.range k).filter (isAt m n) ++ k :: ((List.range (m.nr - k - 1)).map (fun i => k + 1 + i)).filter (isAt m n) := by
    unfold atL
    rw [show m.nr = k + 1 + (m.nr - k - 1) from by omega, List.range_add, List.range_succ, List.filter_append, List.filter_append]
    have e1 : k + 1 + (m.nr - k - 1) - k - 1 = m.nr - k - 1 := by omega
    rw [e1]
    simp [h]
  rw [e]
  unfold cntA
  refine ⟨by simp, ?_⟩
  rw [List.getD_eq_getElem?_getD, List.getElem?_append_right (Nat.le_refl _), Nat.sub_self]
  rfl
def MBox (X : World) (Bm : Nat) (x : MV) (m : Mp) : Prop := X.heap[Bm]? = some (.cells #[.slice x.wa m.nw x.wc, .slice x.ra m.nr x.rc] 37 (0, 0)) ∧ MpIn X x m
attribute [local go_sem] Oper.semAt_some
set_option maxRecDepth 100000 in
set_option maxHeartbeats 4000000 in
theorem next1_in (n l Bm Bn N0 : Nat) (ex : Nat → Prop) (x : MV) (m : Mp) (ok : OkM m) (nv : Int) (J : Nat → World → Prop) (W : World) (hN : N0 ≤ W.heap.size)
    (hT : ∀ X, Kx N0 ex W X → MBox X Bm x m ∧ X.cell? ⟨Bn, 0, none⟩ = some (.int .i64 nv)) (hB : Bm < W.heap.size ∧ Bn < W.heap.size)
    (hJ : OwnFrom W.heap.size J)
    (hY : ∀ k W1, k < (atL m nv).length → J k W1 → YieldAt Fence.wide (n - 1) Try.prog l (encN m nv k) W1 fun e W' => e = .returned (.bool true) ∧ J (k + 1) W' ∧ Kx N0 ex W1 W') (h0 : J 0 W) :
    CallsIn Fence.wide n Try.prog 113 #[.func (.yield l) #[] #[], .pointer (some ⟨Bm, 0, none⟩), .pointer (some ⟨Bn, 0, none⟩)] W fun e W' => (∃ v, e = .returned v) ∧ J (atL m nv).length W' := by
  have HT := Lib.hid hT
  have HY := Lib.hid hY
  have HJ := Lib.hid hJ
  have HOK := Lib.hid ok
  have hnr := ok.nr
  have HC : Hid (∀ X, Kx N0 ex W X → X.cell? ⟨Bm, 0, none⟩ = some (.slice x.wa m.nw x.wc) ∧ X.cell? ⟨Bm, 1, none⟩ = some (.slice x.ra m.nr x.rc) ∧ X.cell? ⟨Bn, 0, none⟩ = some (.int .i64 nv)) := fun X hX => ⟨(cells2 (hT X hX).1.1).1, (cells2 (hT X hX).1.1).2, (hT X hX).2⟩
  have HRD : Hid (∀ X, Kx N0 ex W X → RdIn X (.slice x.ra m.nr x.rc) m.nr m) := fun X hX => (hT X hX).1.2.rd
  have HEND : Hid (cntA m nv m.nr = (atL m nv).length) := rfl
  have HGET := Lib.hid (fun k => atL_get m nv (k := k))
  have HSUC := Lib.hid (cntA_succ m nv)
  obtain ⟨k0, k1, k2⟩ := HC.out W (Kx.refl _ _ _)
  obtain ⟨wa, wc, ra, rc⟩ := x
  simp only at *
  clear hT hY hJ ok
  obtain ⟨nr, HNR⟩ : ∃ nr, Hid (m.nr = nr) := ⟨_, rfl⟩
  rw [HNR.out] at HC HRD HEND hnr k1
  have HGET2 : Hid (∀ k, k < nr → isAt m nv k = true → cntA m nv k < (atL m nv).length ∧ (atL m nv).getD (cntA m nv k) 0 = k) := fun k hk h => HGET.out k (by rw [HNR.out]; exact hk) h
  have HOR : Hid (∀ k, k < nr → (nv = m.ra k → otherR m k nv = m.rb k ∧ 0 ≤ m.rb k) ∧ (¬ nv = m.ra k → nv = m.rb k → otherR m k nv = m.ra k ∧ 0 ≤ m.ra k) ∧ (¬ nv = m.ra k → ¬ nv = m.rb k → otherR m k nv = -1)) := fun k hk => by
    have h1 := HOK.out.ra k (by rw [HNR.out]; exact hk)
    have h2 := HOK.out.rb k (by rw [HNR.out]; exact hk)
    unfold otherR
    refine ⟨fun h => ⟨by rw [if_pos h], h2.1⟩, fun h h3 => ⟨by rw [if_neg h, if_pos h3], h1.1⟩, fun h h3 => by rw [if_neg h, if_neg h3]⟩
  clear HGET HNR HOK
  refine callsIn_of_wp Try.func113 rfl trivial ?_ rfl
  simp only [Try.ntmps113, List.size_toArray, List.length_cons, List.length_nil, Nat.reduceAdd, Nat.reduceSub, Array.replicate_succ, Array.replicate_zero, List.push_toArray, List.append_toArray, List.nil_append, List.cons_append]
  gi_wp2
  gi_loopw [10] (fun i wr => ∃ k : Nat, k ≤ nr ∧ i = .int .i64 k ∧ J (cntA m nv k) wr ∧ Kx N0 ex W wr) (fun i _ => nr - (intOf i).toNat)
  case atStart => exact ⟨0, Nat.zero_le _, rfl, h0, Kx.refl _ _ _⟩
  case round =>
    clear k0 k1 k2 h0
    obtain ⟨k, hk, rfl, hj, hkx⟩ := hrel
    have HJ1 := Lib.hid hj; have HK := Lib.hid hkx
    clear hj hkx
    obtain ⟨k0, k1, k2⟩ := HC.out wr HK.out
    by_cases hlt : k < nr
    · obtain ⟨b, off, rfl, hb, x0, x1, x2, x3⟩ := (HRD.out wr HK.out).at hlt
      have hbn : Bn < wr.heap.size := Nat.lt_of_lt_of_le hB.2 HK.out.size
      have HJ2 : Hid (J (cntA m nv k) (wr.alloc (.cells #[.int .i64 (m.ra k), .int .i64 (m.rb k), .int .i64 (m.rt k).1, .int .i64 (m.rt k).2] 120))) := HJ.out _ wr _ none HJ1.out (below_grown (below_alloc _ _)) (fun r e => by cases e)
      have HK2 : Hid (Kx N0 ex W (wr.alloc (.cells #[.int .i64 (m.ra k), .int .i64 (m.rb k), .int .i64 (m.rt k).1, .int .i64 (m.rt k).2] 120))) := HK.out.trans (Kx.below (Nat.le_trans hN HK.out.size) (below_alloc _ _))
      have HSK := Lib.hid (HSUC.out k)
      obtain ⟨o1, o2, o3⟩ := HOR.out k hlt
      have HGK := Lib.hid (HGET2.out k hlt)
      have ki : (0 : Int) ≤ (k : Int) := by omega
      have kj : (k : Int) < (nr : Int) := by omega
      clear k0 k1 HC HRD HOR HGET2 HSUC HEND
      by_cases e1 : nv = m.ra k
      · obtain ⟨e2, e3⟩ := o1 e1
        have hat : isAt m nv k = true := by unfold isAt; rw [e2]; exact decide_eq_true e3
        obtain ⟨g1, g2⟩ := HGK.out hat
        obtain ⟨fn, tmps, assign, body, hy, hR⟩ := HY.out _ _ g1 HJ2.out
        unfold encN at hy
        rw [g2, e2] at hy
        have HR := Lib.hid hR
        rw [hat, if_pos rfl] at HSK
        clear hR g1 g2 hat o1 o2 o3 e2 HGK HJ1
        generalize m.ra k = za at *
        generalize m.rb k = zb at *
        generalize (m.rt k).1 = lo at *
        generalize (m.rt k).2 = hi at *
        subst e1
        gi_wp2
        refine ⟨(fun h => by cases h), ?_⟩
        refine HR.out.mono ?_
        rintro e W3 ⟨rfl, hJ4, hk4⟩
        have HJ4 := Lib.hid hJ4
        have HK4 := Lib.hid hk4
        clear hJ4 hk4 hy HR
        gi_wp2
        go_roundw
        case rel => exact ⟨k + 1, by omega, by go_num, by rw [HSK.out]; exact HJ4.out, HK2.out.trans HK4.out⟩
        case measure => simp [intOf]; omega
      by_cases e2 : nv = m.rb k
      · obtain ⟨e4, e3⟩ := o2 e1 e2
        have hat : isAt m nv k = true := by unfold isAt; rw [e4]; exact decide_eq_true e3
        obtain ⟨g1, g2⟩ := HGK.out hat
        obtain ⟨fn, tmps, assign, body, hy, hR⟩ := HY.out _ _ g1 HJ2.out
        unfold encN at hy
        rw [g2, e4] at hy
        have HR := Lib.hid hR
        rw [hat, if_pos rfl] at HSK
        clear hR g1 g2 hat o1 o2 o3 e4 HGK HJ1
        generalize m.ra k = za at *
        generalize m.rb k = zb at *
        generalize (m.rt k).1 = lo at *
        generalize (m.rt k).2 = hi at *
        subst e2
        have kb : (nv == za) = false := by simp [e1]
        gi_wp2
        refine ⟨(fun h => by cases h), ?_⟩
        refine HR.out.mono ?_
        rintro e W3 ⟨rfl, hJ4, hk4⟩
        have HJ4 := Lib.hid hJ4
        have HK4 := Lib.hid hk4
        clear hJ4 hk4 hy HR
        gi_wp2
        go_roundw
        case rel => exact ⟨k + 1, by omega, by go_num, by rw [HSK.out]; exact HJ4.out, HK2.out.trans HK4.out⟩
        case measure => simp [intOf]; omega
      have hat : isAt m nv k = false := by unfold isAt; rw [o3 e1 e2]; rfl
      rw [hat] at HSK
      have HSK2 : Hid (cntA m nv (k + 1) = cntA m nv k) := HSK.out
      clear hat o1 o2 o3 HGK HSK
      generalize m.ra k = za at *
      generalize m.rb k = zb at *
      have kb : (nv == za) = false := by simp [e1]
      have kc : (nv == zb) = false := by simp [e2]
      gi_wp2
      refine ⟨(fun f h => by cases h), ?_⟩
      gi_wp2
      go_roundw
      case rel => exact ⟨k + 1, by omega, by go_num, by rw [HSK2.out]; exact HJ2.out, HK2.out⟩
      case measure => simp [intOf]; omega
    · obtain rfl : k = nr := by omega
      gi_wp2
      go_end0
      exact ⟨⟨_, rfl⟩, HEND.out ▸ HJ1.out⟩
theorem next_listed (Bm Bn N0 : Nat) (ex : Nat → Prop) (x : MV) (m : Mp) (ok : OkM m) (nv : Int) (w : World) (hN : N0 ≤ w.heap.size) (hB : Bm < w.heap.size ∧ Bn < w.heap.size)
    (hT : ∀ X, Kx N0 ex w X → MBox X Bm x m ∧ X.cell? ⟨Bn, 0, none⟩ = some (.int .i64 nv)) :
    SeqL Try.prog 113 #[.pointer (some ⟨Bm, 0, none⟩), .pointer (some ⟨Bn, 0, none⟩)] (atL m nv).length (encN m nv) (Kx N0 ex) w := fun n l J W hW hJ hY h0 =>
  next1_in n l Bm Bn N0 ex x m ok nv J W (Nat.le_trans hN hW.size) (fun X hX => hT X ((Kx.below hN hW).trans hX)) ⟨Nat.lt_of_lt_of_le hB.1 hW.size, Nat.lt_of_lt_of_le hB.2 hW.size⟩ hJ (fun k W1 hk hj => YieldAt.wide (hY k W1 hk hj)) h0
/-- next makes the iterator. -/
theorem next_any (v1 v2 : Value) (nv : Int) (w : World) :
    Calls Try.prog 97 #[.agg #[v1, v2], .int .i64 nv] w fun e w' => e = .returned (.func (.func 113) #[] #[.pointer (some ⟨w.heap.size, 0, none⟩), .pointer (some ⟨w.heap.size + 1, 0, none⟩)]) ∧ w' = (w.alloc (.cells #[v1, v2] 37)).alloc (.cells #[.int .i64 nv] 3) := by
  go_enter Try.func97, Try.ntmps97
  go_wp2
  go_ret
  exact ⟨rfl, rfl⟩
end Go.Proofs.Ytpnkgjkoophckaa
