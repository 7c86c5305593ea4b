/- Contracts: valid, extended. -/
import Derived.Test.YtagfcfojfjkmbaaA1
import Derived.LoopTactic
import Derived.Outline
import Derived.Deep.QuietTactic
import Derived.BigQuiet
import Derived.Maps.AppendAt
import Derived.Deep.AppendLies
namespace Go.Proofs.Ytagfcfojfjkmbaa
open Go.RowKit

set_option maxHeartbeats 1000000 in
theorem valid_any (f b m e : Int) (w : World) :
    Calls Try.prog 78 #[ruleV f b m e] w fun r w' => r = .returned (.bool (okRule f b m e)) ∧ Below w.heap.size w w' := by
  unfold ruleV
  go_enter Try.func78, Try.ntmps78
  go_wp2_with (go_at_call 62; refine (within_any _ _ _ _).mono ?_; rintro e w' ⟨rfl, rfl⟩)
  all_goals go_ret
  all_goals exact ⟨by simp [okRule, *], (Below.refl _ _).alloc (Nat.le_refl _) _⟩

def flat (l : List (Int × Int)) : List Value := l.flatMap fun r => [.int .i64 r.1, .int .i64 r.2]
def RS (w : World) (base : Nat) (v : Value) (l : List (Int × Int)) : Prop := w.ownsRow base 41 2 v l.length (flat l)

theorem flat_append (a b : List (Int × Int)) : flat (a ++ b) = flat a ++ flat b := by simp [flat]
theorem flat_length (a : List (Int × Int)) : (flat a).length = a.length * 2 := by
  induction a with
  | nil => rfl
  | cons x l ih => simp only [flat, List.flatMap_cons, List.length_append] at ih ⊢; rw [ih]; simp; omega

theorem RS.mono {w : World} {b b' : Nat} {v : Value} {l : List (Int × Int)} (h : RS w b v l) (hb : b' ≤ b) : RS w b' v l := by
  obtain ⟨h1, h2⟩ := h
  refine ⟨h1, h2.imp id ?_⟩
  rintro ⟨g, cap, cur, r1, r2, r⟩
  exact ⟨g, cap, cur, r1, by omega, r⟩

set_option maxHeartbeats 1000000 in
theorem extended_join (g n cap : Nat) (lo hi b : Int) (w : World) (hn : n + 1 ≤ 100000)
    (h0 : w.cell? ⟨g, n * 2 + 1, none⟩ = some (.int .i64 b)) (hf : w.frozen? ⟨g, n * 2 + 1, none⟩ = false) (hb : -1000000000 ≤ b) (hb2 : b ≤ 1000000000) (hlo : lo ≤ b + 1) :
    Calls Try.prog 68 #[.slice (some ⟨g, 0, none⟩) (n + 1) cap, .int .i64 lo, .int .i64 hi] w fun e w' => e = .returned (.slice (some ⟨g, 0, none⟩) (n + 1) cap) ∧ w' = w.setCell ⟨g, n * 2 + 1, none⟩ (.int .i64 (max b hi)) := by
  go_enter Try.func68, Try.ntmps68
  go_wp2
  all_goals go_ret
  all_goals (refine ⟨rfl, ?_⟩; first | rw [show max b hi = hi from by omega] | rw [show max b hi = b from by omega])

theorem Try.infoRange : (Try.prog.info? 41).map (fun i => (i.zero, i.size, i.bytes)) = some (some (.agg #[.int .i64 0, .int .i64 0]), 2, 16) := by kernel_rfl

theorem grown_alloc {w w1 : World} {o : Obj} {row : Option Nat} (h : (w.alloc o).grownBy w1 row) : w.grownBy w1 row :=
  ⟨h.os, h.tape, h.output, by have := h.size; simp at this; omega, fun k hk hne => (h.block k (by simp; omega) hne).trans (Below.heap_alloc _ _ _ hk)⟩
/-- A new value that owns xs, where v was before: only v's row has been written, or a new one was made. -/
def GivesX (w : World) (base : Nat) (v : Value) (n : Nat) (xs : List Value) (e : Ending) (w' : World) : Prop :=
  ∃ v', e = .returned v' ∧ w'.ownsRow base 41 2 v' n xs ∧ w.grownBy w' v.ownBlock ∧ (v'.ownBlock = v.ownBlock ∨ ∀ k, v'.ownBlock = some k → w.heap.size ≤ k)
def GivesG (w : World) (base : Nat) (v : Value) (l : List (Int × Int)) (e : Ending) (w' : World) : Prop :=
  ∃ v', e = .returned v' ∧ RS w' base v' l ∧ w.grownBy w' v.ownBlock ∧ (v'.ownBlock = v.ownBlock ∨ ∀ k, v'.ownBlock = some k → w.heap.size ≤ k)
def Gives (w : World) (base : Nat) (l : List (Int × Int)) (e : Ending) (w' : World) : Prop := ∃ v, e = .returned v ∧ RS w' base v l ∧ Below base w w'

set_option maxHeartbeats 1000000 in
theorem extended_first (a : Option Addr) (base cap : Nat) (lo hi : Int) (w : World) (hbase : base ≤ w.heap.size) (hown : w.ownsRow base 41 2 (.slice a 0 cap) 0 []) :
    Calls Try.prog 68 #[.slice a 0 cap, .int .i64 lo, .int .i64 hi] w (GivesG w base (.slice a 0 cap) [(lo, hi)]) := by
  obtain ⟨i0, hi0, hz0, hz1, hz2⟩ := info_parts Try.infoRange
  go_enter Try.func68, Try.ntmps68
  go_wp2_with (at_builtin; refine wpList_append_own_at _ rfl _ _ 38 rfl base 41 i0 (.agg #[.int .i64 0, .int .i64 0]) 2 16 Try.underlying38 hi0 hz0 hz1 hz2 rfl (by decide) (.slice a 0 cap) 0 [] rfl (hown.alloc _) ⟨w.heap.size, 0, none⟩ 1 1 [.int .i64 lo, .int .i64 hi] rfl rfl ?c1 ?c2 ?c3 ?c4 ?c5 ?_)
  case c1 => exact World.news_of_block (heap_alloc_new w _)
  case c2 => simp [Value.oneCell']
  case c3 => unfold maxLen; omega
  case c4 => omega
  case c5 => simp; omega
  intro v' w1 h1 h2 _ h4
  have H2 := Lib.hid h2
  have H4 := Lib.hid h4
  clear h2 h4
  go_wp2
  go_ret
  exact ⟨v', rfl, h1, grown_alloc H2.out, H4.out.imp id (fun e k hk => by have := Option.some.inj (e.symm.trans hk); omega)⟩

set_option maxRecDepth 100000 in
set_option maxHeartbeats 1000000 in
theorem extended_push (g n cap base : Nat) (lo hi b : Int) (xs : List Value) (w : World) (hn : n + 1 ≤ 100000) (hbase : base ≤ w.heap.size)
    (h0 : w.cell? ⟨g, n * 2 + 1, none⟩ = some (.int .i64 b)) (hb : -1000000000 ≤ b) (hb2 : b ≤ 1000000000) (hlo : b + 1 < lo) (hown : w.ownsRow base 41 2 (.slice (some ⟨g, 0, none⟩) (n + 1) cap) (n + 1) xs) :
    Calls Try.prog 68 #[.slice (some ⟨g, 0, none⟩) (n + 1) cap, .int .i64 lo, .int .i64 hi] w (GivesX w base (.slice (some ⟨g, 0, none⟩) (n + 1) cap) (n + 1 + 1) (xs ++ [.int .i64 lo, .int .i64 hi])) := by
  obtain ⟨i0, hi0, hz0, hz1, hz2⟩ := info_parts Try.infoRange
  have HO := Lib.hid hown; clear hown
  go_enter Try.func68, Try.ntmps68
  go_wp2_with (at_builtin; refine wpList_append_own_at _ rfl _ _ 38 rfl base 41 i0 (.agg #[.int .i64 0, .int .i64 0]) 2 16 Try.underlying38 hi0 hz0 hz1 hz2 rfl (by decide) (.slice (some ⟨g, 0, none⟩) (n + 1) cap) (n + 1) xs rfl (World.ownsRow.alloc HO.out _) ⟨w.heap.size, 0, none⟩ 1 1 [.int .i64 lo, .int .i64 hi] rfl rfl ?c1 ?c2 ?c3 ?c4 ?c5 ?_)
  case c1 => exact World.news_of_block (heap_alloc_new w _)
  case c2 => simp [Value.oneCell']
  case c3 => unfold maxLen; omega
  case c4 => omega
  case c5 => simp; omega
  intro v' w1 h1 h2 _ h4
  have H2 := Lib.hid h2
  have H4 := Lib.hid h4
  clear h2 h4
  go_wp2
  go_ret
  exact ⟨v', rfl, h1, grown_alloc H2.out, H4.out.imp id (fun e k hk => by have := Option.some.inj (e.symm.trans hk); omega)⟩
end Go.Proofs.Ytagfcfojfjkmbaa
