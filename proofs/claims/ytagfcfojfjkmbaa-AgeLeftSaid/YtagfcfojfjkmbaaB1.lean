/- slices.Backward over ranges: the iterator's contract. -/
import Derived.RangeFuncNested
import Derived.RangeFuncBound
import Derived.RangeFuncCalls
import Derived.RangeFuncLeaves
import Derived.Shelf.Abstract
import Derived.Shelf.RegionOpen
import Derived.OwnWalkIn
import Derived.TacticsInMore
import Derived.LoopNIn
import Derived.LoopIn
import Derived.Test.YtagfcfojfjkmbaaA9
namespace Go.Proofs.Ytagfcfojfjkmbaa
open Go.RowKit Go.Shelf

/-- The block of the slice that lies in box Bl. -/
def ownB (W : World) (Bl : Nat) : Option Nat := match W.cell? ⟨Bl, 0, none⟩ with | some v => v.ownBlock | none => none

/-- What a round keeps: all cells but the box Bl and the row of the slice in it. -/
structure Kp (Bl : Nat) (W W' : World) : Prop where
  os : W'.os = W.os
  tape : W'.tape = W.tape
  output : W'.output = W.output
  size : W.heap.size ≤ W'.heap.size
  keep : ∀ k c t fr, W.heap[k]? = some (.cells c t fr) → k ≠ Bl → ownB W Bl ≠ some k → W'.heap[k]? = some (.cells c t fr)
  own : ownB W' Bl = ownB W Bl ∨ ∀ k, ownB W' Bl = some k → W.heap.size ≤ k

theorem Kp.refl (Bl : Nat) (W : World) : Kp Bl W W := ⟨rfl, rfl, rfl, Nat.le_refl _, fun _ _ _ _ h _ _ => h, .inl rfl⟩
theorem Kp.trans {Bl : Nat} {A B C : World} (h : Kp Bl A B) (k : Kp Bl B C) : Kp Bl A C := by
  refine ⟨k.os.trans h.os, k.tape.trans h.tape, k.output.trans h.output, Nat.le_trans h.size k.size, fun q c t fr hq h1 h2 => ?_, ?_⟩
  · refine k.keep q c t fr (h.keep q c t fr hq h1 h2) h1 ?_
    have hl := (Array.getElem?_eq_some_iff.1 hq).1
    rcases h.own with e | e
    · rw [e]; exact h2
    · intro e2; have := e q e2; omega
  · rcases k.own with e | e
    · rw [e]; exact h.own
    · exact .inr fun q hq => Nat.le_trans h.size (e q hq)
theorem ownB_same {Bl : Nat} {W W' : World} (h : W'.heap[Bl]? = W.heap[Bl]?) : ownB W' Bl = ownB W Bl := by
  unfold ownB; rw [World.cell?_of_block (a := ⟨Bl, 0, none⟩) h]
theorem Kp.below {Bl : Nat} {W W' : World} (hB : Bl < W.heap.size) (h : Below W.heap.size W W') : Kp Bl W W' :=
  ⟨h.os, h.tape, h.output, h.size, fun k _ _ _ hk _ _ => (h.block k (Array.getElem?_eq_some_iff.1 hk).1).trans hk, .inl (ownB_same (h.block _ hB))⟩
theorem Kp.alloc {Bl : Nat} {W : World} (hB : Bl < W.heap.size) (o : Obj) : Kp Bl W (W.alloc o) := Kp.below hB (below_alloc _ _)
theorem Kp.b {Bl : Nat} {w : World} (hB : Bl < w.heap.size) : ∀ (W : World) (l : Nat) (o o' : Obj), w.heap.size ≤ l → W.heap[l]? = some o → o.isCells = false → o.isWalk = false → Kp Bl W (W.putObj l o') := by
  intro W l o o' hl ho hc _
  refine ⟨rfl, rfl, rfl, by simp, fun k c t fr hk _ _ => ?_, .inl (ownB_same (World.putObj_heap_other (by omega)))⟩
  rw [World.putObj_heap_other (fun e => by subst e; rw [ho] at hk; cases hk; cases hc)]
  exact hk

/-- Block k is none of the round's. -/
def Mine (Bl : Nat) (W : World) (k : Nat) (c : Array Value) (t : TypeId) : Prop := W.heap[k]? = some (.cells c t (0, 0)) ∧ k ≠ Bl ∧ ownB W Bl ≠ some k
theorem Mine.kp {Bl : Nat} {W W' : World} {k : Nat} {c : Array Value} {t : TypeId} (h : Mine Bl W k c t) (hk : Kp Bl W W') : Mine Bl W' k c t := by
  refine ⟨hk.keep _ _ _ _ h.1 h.2.1 h.2.2, h.2.1, ?_⟩
  have hl := (Array.getElem?_eq_some_iff.1 h.1).1
  rcases hk.own with e | e
  · rw [e]; exact h.2.2
  · intro e2; have := e k e2; omega
theorem Mine.new {Bl : Nat} {W : World} (hB : Bl < W.heap.size) (ho : ∀ k, ownB W Bl = some k → k < W.heap.size) (c : Array Value) (t : TypeId) : Mine Bl (W.alloc (.cells c t)) W.heap.size c t := by
  refine ⟨heap_alloc_new _ _, by omega, ?_⟩
  rw [ownB_same ((below_alloc W _).block _ hB)]
  intro e; have := ho _ e; omega
theorem Mine.cell {Bl : Nat} {W : World} {k : Nat} {c : Array Value} {t : TypeId} (h : Mine Bl W k c t) (j : Nat) : W.cell? ⟨k, j, none⟩ = c[j]? := cell_of_row _ _ _ _ _ _ h.1

/-- A range whose ends are no great numbers. -/
abbrev BR := { r : Int × Int // -1000000 ≤ r.1 ∧ r.1 ≤ 1000000 ∧ -1000000 ≤ r.2 ∧ r.2 ≤ 1000000 }
def encB (x : Nat × BR) : Array Value := #[.int .i64 (x.1 : Int), .agg #[.int .i64 x.2.1.1, .int .i64 x.2.1.2]]

set_option maxHeartbeats 1000000 in
theorem backward_any (a : Option Addr) (n cap : Nat) (w : World) :
    Calls Try.prog 67 #[.slice a n cap] w fun e w' => e = .returned (.func (.func 92) #[] #[.pointer (some ⟨w.heap.size, 0, none⟩)]) ∧ w' = w.alloc (.cells #[.slice a n cap] 38) := by
  go_enter Try.func67, Try.ntmps67
  go_wp2
  go_ret
  exact ⟨rfl, rfl⟩

/-- What has come of the n elements when k rounds are over, the last ones first. -/
def down (n : Nat) (r : Nat → BR) (k : Nat) : List (Nat × BR) := (List.range k).map fun j => (n - 1 - j, r (n - 1 - j))
theorem down_succ (n : Nat) (r : Nat → BR) (k : Nat) : down n r (k + 1) = down n r k ++ [(n - 1 - k, r (n - 1 - k))] := by simp [down, List.range_succ]
theorem down_length (n : Nat) (r : Nat → BR) (k : Nat) : (down n r k).length = k := by simp [down]

attribute [local go_sem] Oper.semAt_some

set_option maxRecDepth 100000 in
set_option maxHeartbeats 2000000 in
theorem backward1_in (n l Bs Bl g len cap : Nat) (cur : Array Value) (r : Nat → BR) (hlen : len ≤ 100000) (J Jx : List (Nat × BR) → World → Prop)
    (hY : ∀ pre x W, J pre W → pre.length < len → YieldAt Fence.wide (n - 1) Try.prog l (encB x) W fun e W' =>
      (e = .returned (.bool true) ∧ J (pre ++ [x]) W' ∧ Kp Bl W W') ∨ (e = .returned (.bool false) ∧ Jx (pre ++ [x]) W'))
    (W : World) (hBs : Mine Bl W Bs #[.slice (some ⟨g, 0, none⟩) len cap] 38) (hg : Mine Bl W g cur 41)
    (hc : ∀ j, j < len → cur[j * 2]? = some (.int .i64 (r j).1.1) ∧ cur[j * 2 + 1]? = some (.int .i64 (r j).1.2)) (h0 : J [] W) :
    CallsIn Fence.wide n Try.prog 92 #[.func (.yield l) #[] #[], .pointer (some ⟨Bs, 0, none⟩)] W fun e W' => (∃ v, e = .returned v) ∧
      ((∃ ys, ys = down len r len ∧ J ys W') ∨ (∃ pre, (∃ k, k ≤ len ∧ pre = down len r k) ∧ Jx pre W')) := by
  refine callsIn_of_wp Try.func92 rfl trivial ?_ rfl
  simp only [Try.ntmps92, List.size_toArray, List.length_cons, List.length_nil, Nat.reduceAdd, Nat.reduceSub, Array.replicate_succ, Array.replicate_zero, List.push_toArray, List.append_toArray, List.nil_append, List.cons_append]
  have hb0 : W.cell? ⟨Bs, 0, none⟩ = some (.slice (some ⟨g, 0, none⟩) len cap) := hBs.cell 0
  have HBs := Lib.hid hBs; clear hBs
  have HG := Lib.hid hg; clear hg
  have HC := Lib.hid hc; clear hc
  have HY := Lib.hid hY; clear hY
  gi_wp2
  gi_loopw [3] (fun i wr => ∃ k : Nat, ((k = len ∧ i = .int .i64 (-1)) ∨ ∃ q : Nat, q + k + 1 = len ∧ i = .int .i64 (q : Int)) ∧ J (down len r k) wr ∧ Kp Bl W wr) (fun i _ => (intOf i + 1).toNat)
  case atStart =>
    refine ⟨0, ?_, h0, Kp.refl _ _⟩
    rcases Nat.eq_zero_or_pos len with h | h
    · exact .inl ⟨h.symm, by rw [h]; rfl⟩
    · exact .inr ⟨len - 1, by omega, by congr 1; omega⟩
  case round =>
    obtain ⟨k, hd, hJs, hnx⟩ := hrel
    have hb1 : wr.cell? ⟨Bs, 0, none⟩ = some (.slice (some ⟨g, 0, none⟩) len cap) := (HBs.out.kp hnx).cell 0
    rcases hd with ⟨rfl, rfl⟩ | ⟨q, hq, rfl⟩
    · gi_wp2
      go_end0
      exact ⟨⟨_, rfl⟩, .inl ⟨_, rfl, hJs⟩⟩
    · have hql : q < len := by omega
      have hqe : len - 1 - k = q := by omega
      have hq0 : wr.cell? ⟨g, q * 2, none⟩ = some (.int .i64 (r q).1.1) := ((HG.out.kp hnx).cell _).trans (HC.out q hql).1
      have hq1 : wr.cell? ⟨g, q * 2 + 1, none⟩ = some (.int .i64 (r q).1.2) := ((HG.out.kp hnx).cell _).trans (HC.out q hql).2
      obtain ⟨fn, tmps, assign, body, hy, hR⟩ := HY.out _ (q, r q) wr hJs (by rw [down_length]; omega)
      dsimp only [encB] at hy
      have HR := Lib.hid hR; clear hR
      have HE := Lib.hid hqe; clear hqe
      have HQ := Lib.hid hq; clear hq
      have HN := Lib.hid hnx; clear hnx
      gi_wp2
      refine ⟨(fun h => by cases h), ?_⟩
      refine HR.out.mono ?_
      rintro e W3 (⟨rfl, hJ3, hk3⟩ | ⟨rfl, hJx3⟩)
      · have hk3' := Lib.hid hk3; clear hk3
        gi_wp2
        go_roundw
        case rel =>
          refine ⟨k + 1, ?_, by rw [down_succ, HE.out]; exact hJ3, HN.out.trans hk3'.out⟩
          have := HQ.out
          rcases Nat.eq_zero_or_pos q with h | h
          · exact .inl ⟨by omega, by subst h; rfl⟩
          · exact .inr ⟨q - 1, by omega, by congr 1; omega⟩
        case measure => simp [intOf]
      · gi_wp2
        refine bodyPost_ret (results_none rfl _ _ _) rfl ?_
        exact ⟨⟨_, rfl⟩, .inr ⟨_, ⟨k + 1, by have := HQ.out; omega, by rw [down_succ, HE.out]⟩, hJx3⟩⟩

set_option maxRecDepth 100000 in
set_option maxHeartbeats 1000000 in
theorem backward1_nil_in (n l Bs Bl : Nat) (J : List (Nat × BR) → World → Prop) (W : World) (hBs : Mine Bl W Bs #[.slice none 0 0] 38) (h0 : J [] W) :
    CallsIn Fence.wide n Try.prog 92 #[.func (.yield l) #[] #[], .pointer (some ⟨Bs, 0, none⟩)] W fun e W' => (∃ v, e = .returned v) ∧ J [] W' := by
  refine callsIn_of_wp Try.func92 rfl trivial ?_ rfl
  simp only [Try.ntmps92, List.size_toArray, List.length_cons, List.length_nil, Nat.reduceAdd, Nat.reduceSub, Array.replicate_succ, Array.replicate_zero, List.push_toArray, List.append_toArray, List.nil_append, List.cons_append]
  have hb0 : W.cell? ⟨Bs, 0, none⟩ = some (.slice none 0 0) := hBs.cell 0
  clear hBs
  gi_wp2
  gi_loopw [3] (fun i wr => i = .int .i64 (-1) ∧ J [] wr) (fun _ _ => 0)
  case atStart => exact ⟨rfl, h0⟩
  case round =>
    obtain ⟨rfl, hJs⟩ := hrel
    gi_wp2
    go_end0
    exact ⟨⟨_, rfl⟩, hJs⟩

theorem Mine.below {Bl : Nat} {w W : World} {k : Nat} {c : Array Value} {t : TypeId} (hB : Bl < w.heap.size) (h : Mine Bl w k c t) (hb : Below w.heap.size w W) : Mine Bl W k c t := h.kp (Kp.below hB hb)

/-- The slice in box Bs holds the ranges r 0 .. r (n - 1), and is none of the rounds'. -/
def BackAt (Bl : Nat) (w : World) (Bs n : Nat) (r : Nat → BR) : Prop :=
  (Mine Bl w Bs #[.slice none 0 0] 38 ∧ n = 0) ∨ ∃ g cap cur, Mine Bl w Bs #[.slice (some ⟨g, 0, none⟩) n cap] 38 ∧ Mine Bl w g cur 41 ∧ ∀ j, j < n → cur[j * 2]? = some (.int .i64 (r j).1.1) ∧ cur[j * 2 + 1]? = some (.int .i64 (r j).1.2)

theorem backward_stops (m Bl Bs n : Nat) (r : Nat → BR) (hn : n ≤ 100000) (w : World) (hB : Bl < w.heap.size) (h : BackAt Bl w Bs n r) :
    SeqStopsK Fence.wide m Try.prog 92 #[.pointer (some ⟨Bs, 0, none⟩)] encB (Kp Bl) (fun ys => ys = down n r n) (fun pre => ∃ k, k ≤ n ∧ pre = down n r k) n w := fun l J Jx W hW _ _ hY h0 => by
  rcases h with ⟨h1, rfl⟩ | ⟨g, cap, cur, h1, h2, h3⟩
  · exact (backward1_nil_in m l Bs Bl J W (h1.below hB hW) h0).mono fun e W' ⟨he, hj⟩ => ⟨he, .inl ⟨_, rfl, hj⟩⟩
  · exact backward1_in m l Bs Bl g n cap cur r hn J Jx hY W (h1.below hB hW) (h2.below hB hW) h3 h0
end Go.Proofs.Ytagfcfojfjkmbaa
