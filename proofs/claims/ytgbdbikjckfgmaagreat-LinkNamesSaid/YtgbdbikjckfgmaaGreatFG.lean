/- General laws (turned from the Age seat's texts): worlds that agree, own rows, drawn regions, law_post. -/
import Derived.Test.YtgbdbikjckfgmaaGreatRows
import Derived.BigQuiet
import Derived.Carry
import Derived.Deep.AppendLies
import Derived.Deep.DeepCutAuto
import Derived.Deep.DrawnRows
import Derived.Deep.QuietTactic
import Derived.Deep.RegionHeld3
import Derived.Deep.RegionLaw
import Derived.Deep.RegionLawGrows
import Derived.Deep.RegionWith
import Derived.Laws.EntriesVeiled
import Derived.Laws.Rows
import Derived.Laws.Tables
import Derived.Lib.Hide
import Derived.Lib.SliceRun
import Derived.LoopIn
import Derived.LoopNIn
import Derived.LoopTactic
import Derived.Maps.AppendAt
import Derived.OpenShut
import Derived.OrdersHeld
import Derived.OrdersIn
import Derived.Outline
import Derived.OwnWalkIn
import Derived.ProofKit
import Derived.RangeFuncBound
import Derived.RangeFuncCalls
import Derived.RangeFuncLeaves
import Derived.RangeFuncNested
import Derived.Shelf.Abstract
import Derived.Shelf.RegionOpen
import Derived.TacticsInMore
import Derived.WalkKit
import Derived.WalkLawsBesides
import Derived.WalkSpells
namespace Go.Proofs.YtgbdbikjckfgmaaGreat
open Go.RowKit Go.Shelf

theorem putA {α : Type} {l : List α} {i : Nat} {a : α} : l.toArray.setIfInBounds i a = (l.set i a).toArray := List.setIfInBounds_toArray _ _ _
theorem putZ {α : Type} {x y : α} {l : List α} : (x :: l).set 0 y = y :: l := rfl
theorem putS {α : Type} {x y : α} {l : List α} {i : Nat} : (x :: l).set (i + 1) y = x :: l.set i y := rfl
def inB (n lo hi : Int) : Bool := decide (lo ≤ n) && decide (n ≤ hi)
theorem ret_int {k : IntKind} {a b : Int} (h : a = b) : Ending.returned (.int k a) = .returned (.int k b) := by rw [h]
theorem ret_bool {a b : Bool} (h : a = b) : Ending.returned (.bool a) = .returned (.bool b) := by rw [h]
theorem ret_err {v : Value} {a b : Int} (h : a = b) : Ending.returned (.tuple #[v, .int .i64 a]) = .returned (.tuple #[v, .int .i64 b]) := by rw [h]
def allB (p : Nat → Bool) (n : Nat) : Bool := (List.range n).all p
theorem allB_true {p : Nat → Bool} {n : Nat} (h : ∀ q, q < n → p q = true) : allB p n = true := by
  simp only [allB, List.all_eq_true, List.mem_range]; exact h
theorem allB_false {p : Nat → Bool} {n k : Nat} (hk : k < n) (h : p k = false) : allB p n = false := by
  simp only [allB, List.all_eq_false, List.mem_range]; exact ⟨k, hk, by simp [h]⟩
def IntsAt (w : World) (sv : Value) (n : Nat) (z : Nat → Int) : Prop :=
  (sv = .slice none 0 0 ∧ n = 0) ∨ ∃ b off cap, sv = .slice (some ⟨b, off, none⟩) n cap ∧ b < w.heap.size ∧ ∀ j, j < n → w.cell? ⟨b, off + j, none⟩ = some (.int .i64 (z j))
theorem IntsAt.alloc {w : World} {sv : Value} {n : Nat} {z : Nat → Int} (h : IntsAt w sv n z) (o : Obj) : IntsAt (w.alloc o) sv n z := by
  rcases h with h | ⟨b, off, cap, rfl, hb, hz⟩
  · exact .inl h
  · exact .inr ⟨b, off, cap, rfl, by simp; omega, fun j hj => by rw [((Below.refl w.heap.size w).alloc (Nat.le_refl _) o).cell (p := ⟨b, off + j, none⟩) hb]; exact hz j hj⟩
theorem IntsAt.below {w w' : World} {sv : Value} {n : Nat} {z : Nat → Int} (h : IntsAt w sv n z) (hB : Below w.heap.size w w') : IntsAt w' sv n z := by
  rcases h with h | ⟨b, off, cap, rfl, hb, hz⟩
  · exact .inl h
  · exact .inr ⟨b, off, cap, rfl, Nat.lt_of_lt_of_le hb hB.size, fun j hj => by rw [hB.cell (p := ⟨b, off + j, none⟩) hb]; exact hz j hj⟩
theorem below_alloc (w : World) (o : Obj) : Below w.heap.size w (w.alloc o) := (Below.refl _ _).alloc (Nat.le_refl _) _
theorem box_cell (w : World) (v : Value) (t : TypeId) : (w.alloc (.cells #[v] t)).cell? ⟨w.heap.size, 0, none⟩ = some v := cell_of_row _ _ 0 _ _ _ (heap_alloc_new _ _)
theorem grown_alloc {w w1 : World} {o : Obj} {row : Option Nat} (h : (w.alloc o).grownBy w1 row) : w.grownBy w1 row :=
  ⟨h.os, h.tape, h.output, by have := h.size; simp at this; omega, fun k hk hne => (h.block k (by simp; omega) hne).trans (Below.heap_alloc _ _ _ hk)⟩
theorem below_drewS (B : Nat) (w : World) (n : Nat) : Below B w (w.drewN n) := ⟨rfl, rfl, rfl, Nat.le_refl _, fun _ _ => rfl⟩
theorem below_step {A X Y : World} (h : Below A.heap.size A X) (k : Below X.heap.size X Y) : Below A.heap.size A Y := h.trans (k.mono h.size)
theorem kept {A X : World} {b o : Nat} {v : Value} (h : Below A.heap.size A X) (hb : b < A.heap.size) (hc : A.cell? ⟨b, o, none⟩ = some v) : X.cell? ⟨b, o, none⟩ = some v := (h.cell (p := ⟨b, o, none⟩) hb).trans hc
/-- Worlds that agree but for some blocks and new ones. -/
structure Fr (ex : Nat → Prop) (W W' : World) : Prop where
  os : W'.os = W.os
  tape : W'.tape = W.tape
  output : W'.output = W.output
  size : W.heap.size ≤ W'.heap.size
  block : ∀ k, k < W.heap.size → ¬ ex k → W'.heap[k]? = W.heap[k]?
theorem Fr.refl (ex : Nat → Prop) (W : World) : Fr ex W W := ⟨rfl, rfl, rfl, Nat.le_refl _, fun _ _ _ => rfl⟩
theorem Fr.trans {ex : Nat → Prop} {A B C : World} (h : Fr ex A B) (k : Fr ex B C) : Fr ex A C :=
  ⟨k.os.trans h.os, k.tape.trans h.tape, k.output.trans h.output, Nat.le_trans h.size k.size, fun q hq he => (k.block q (Nat.lt_of_lt_of_le hq h.size) he).trans (h.block q hq he)⟩
theorem Fr.mono {ex ex' : Nat → Prop} {A B : World} (h : Fr ex A B) (hx : ∀ k, k < A.heap.size → ex k → ex' k) : Fr ex' A B :=
  ⟨h.os, h.tape, h.output, h.size, fun q hq he => h.block q hq (fun e => he (hx q hq e))⟩
theorem Fr.below {A B : World} (h : Below A.heap.size A B) (ex : Nat → Prop) : Fr ex A B := ⟨h.os, h.tape, h.output, h.size, fun q hq _ => h.block q hq⟩
theorem Fr.grown {A B : World} {row : Option Nat} (h : A.grownBy B row) : Fr (fun k => row = some k) A B := ⟨h.os, h.tape, h.output, h.size, fun q hq he => h.block q hq (fun e => he e.symm)⟩
theorem Fr.put (A : World) (l : Nat) (o : Obj) : Fr (fun k => k = l) A (A.putObj l o) := ⟨rfl, rfl, rfl, by simp, fun _ _ he => World.putObj_heap_other he⟩
theorem Fr.set (A : World) (b : Nat) (off : Nat) (v : Value) : Fr (fun k => k = b) A (A.setCell ⟨b, off, none⟩ v) := by
  refine ⟨rfl, rfl, rfl, by simp, fun k hk he => ?_⟩
  simp only [World.setCell]
  rw [Array.getElem?_modify, if_neg (fun e => he e.symm)]
theorem Fr.low {ex : Nat → Prop} {A B : World} {n : Nat} (h : Fr ex A B) (hn : n ≤ A.heap.size) (hx : ∀ k, k < n → ¬ ex k) : Below n A B := ⟨h.os, h.tape, h.output, h.size, fun q hq => h.block q (by omega) (hx q hq)⟩
theorem own_fr {ex : Nat → Prop} {W W' : World} {base : Nat} {E size n : Nat} {v : Value} {xs : List Value} (h : W.ownsRow base E size v n xs) (hf : Fr ex W W') (hx : ∀ g cur, v.ownBlock = some g → base ≤ g → W.heap[g]? = some (.cells cur E (0, 0)) → ¬ ex g) : W'.ownsRow base E size v n xs := by
  refine ⟨h.1, ?_⟩
  rcases h.2 with h | ⟨g, cap, cur, rfl, hg, hc, r⟩
  · exact .inl h
  · exact .inr ⟨g, cap, cur, rfl, hg, (hf.block _ (Array.getElem?_eq_some_iff.1 hc).1 (hx g cur rfl hg hc)).trans hc, r⟩
theorem own_mono {W : World} {base base' : Nat} {E size n : Nat} {v : Value} {xs : List Value} (h : W.ownsRow base E size v n xs) (hb : base' ≤ base) : W.ownsRow base' E size v n xs := by
  refine ⟨h.1, ?_⟩
  rcases h.2 with h | ⟨g, cap, cur, rfl, hg, r⟩
  · exact .inl h
  · exact .inr ⟨g, cap, cur, rfl, by omega, r⟩
theorem own_lt {X : World} {base E size n : Nat} {v : Value} {xs : List Value} (h : X.ownsRow base E size v n xs) {q : Nat} (e : v.ownBlock = some q) : q < X.heap.size := by
  rcases h.2 with ⟨rfl, _⟩ | ⟨g, cap, cur, rfl, hg, hc, _⟩
  · cases e
  · cases e; exact (Array.getElem?_eq_some_iff.1 hc).1
theorem own_type_ne {X : World} {base E size n B : Nat} {v : Value} {xs : List Value} {cs : Array Value} {t : TypeId} (h : X.ownsRow base E size v n xs) (hb : X.heap[B]? = some (.cells cs t (0, 0))) (ht : t ≠ E) : ¬ v.ownBlock = some B := by
  intro e
  rcases h.2 with ⟨rfl, _⟩ | ⟨g, cap, cur, rfl, hg, hc, _⟩
  · cases e
  · cases e
    rw [hb] at hc
    cases hc
    exact ht rfl
theorem own_cast {X : World} {base E size n n' : Nat} {v : Value} {xs xs' : List Value} (h : X.ownsRow base E size v n xs) (hn : n = n') (hx : xs = xs') : X.ownsRow base E size v n' xs' := by subst hn hx; exact h
theorem own_slice {X : World} {base E size n : Nat} {v : Value} {xs : List Value} (h : X.ownsRow base E size v (n + 1) xs) : ∃ a c, v = .slice a (n + 1) c := by
  obtain ⟨g, cap, rfl, _⟩ := h.form (by omega)
  exact ⟨_, _, rfl⟩
theorem own_slice' {X : World} {base E size n : Nat} {v : Value} {xs : List Value} (h : X.ownsRow base E size v n xs) : ∃ a c, v = .slice a n c := by
  rcases h.2 with ⟨rfl, rfl⟩ | ⟨g, cap, cur, rfl, _⟩
  · exact ⟨_, _, rfl⟩
  · exact ⟨_, _, rfl⟩
theorem own_low {X : World} {base E size n : Nat} {v : Value} {xs : List Value} (h : X.ownsRow base E size v n xs) {q : Nat} (e : v.ownBlock = some q) : base ≤ q := by
  rcases h.2 with ⟨rfl, _⟩ | ⟨g, cap, cur, rfl, hg, _⟩
  · cases e
  · cases e; exact hg
theorem own_empty (X : World) (E size base : Nat) (hb : base ≤ X.heap.size) : (X.alloc (.cells #[] E)).ownsRow base E size (.slice (some ⟨X.heap.size, 0, none⟩) 0 0) 0 [] :=
  ⟨by simp, .inr ⟨X.heap.size, 0, _, rfl, hb, heap_alloc_new _ _, Nat.le_refl _, Nat.zero_le _, by simp, by simp⟩⟩
theorem cells4 {W : World} {B : Nat} {a b c d : Value} {t : TypeId} {f : Nat × Nat} (h : W.heap[B]? = some (.cells #[a, b, c, d] t f)) : W.cell? ⟨B, 0, none⟩ = some a ∧ W.cell? ⟨B, 1, none⟩ = some b ∧ W.cell? ⟨B, 2, none⟩ = some c ∧ W.cell? ⟨B, 3, none⟩ = some d :=
  ⟨cell_of_row _ _ 0 _ _ _ h, cell_of_row _ _ 1 _ _ _ h, cell_of_row _ _ 2 _ _ _ h, cell_of_row _ _ 3 _ _ _ h⟩
theorem cells3 {W : World} {B : Nat} {a b c : Value} {t : TypeId} {f : Nat × Nat} (h : W.heap[B]? = some (.cells #[a, b, c] t f)) : W.cell? ⟨B, 0, none⟩ = some a ∧ W.cell? ⟨B, 1, none⟩ = some b ∧ W.cell? ⟨B, 2, none⟩ = some c :=
  ⟨cell_of_row _ _ 0 _ _ _ h, cell_of_row _ _ 1 _ _ _ h, cell_of_row _ _ 2 _ _ _ h⟩
theorem alloc3 (W : World) (o1 o2 o3 : Obj) : (((W.alloc o1).alloc o2).alloc o3).heap.size = W.heap.size + 3 ∧ Below W.heap.size W (((W.alloc o1).alloc o2).alloc o3) ∧
    (((W.alloc o1).alloc o2).alloc o3).heap[W.heap.size]? = some o1 ∧ (((W.alloc o1).alloc o2).alloc o3).heap[W.heap.size + 1]? = some o2 ∧ (((W.alloc o1).alloc o2).alloc o3).heap[W.heap.size + 2]? = some o3 := by
  have s1 := World.size_alloc W o1
  have s2 := World.size_alloc (W.alloc o1) o2
  have s3 := World.size_alloc ((W.alloc o1).alloc o2) o3
  refine ⟨by omega, ((below_alloc W o1).alloc (by omega) o2).alloc (by omega) o3, ?_, ?_, ?_⟩
  · rw [Below.heap_alloc _ _ _ (by omega), Below.heap_alloc _ _ _ (by omega)]; exact World.alloc_heap_new W o1
  · rw [Below.heap_alloc _ _ _ (by omega), ← s1]; exact World.alloc_heap_new _ o2
  · rw [show W.heap.size + 2 = ((W.alloc o1).alloc o2).heap.size from by omega]; exact World.alloc_heap_new _ o3
theorem alloc4 (W : World) (o1 o2 o3 o4 : Obj) : ((((W.alloc o1).alloc o2).alloc o3).alloc o4).heap.size = W.heap.size + 4 ∧ Below W.heap.size W ((((W.alloc o1).alloc o2).alloc o3).alloc o4) ∧
    ((((W.alloc o1).alloc o2).alloc o3).alloc o4).heap[W.heap.size]? = some o1 ∧ ((((W.alloc o1).alloc o2).alloc o3).alloc o4).heap[W.heap.size + 1]? = some o2 ∧ ((((W.alloc o1).alloc o2).alloc o3).alloc o4).heap[W.heap.size + 2]? = some o3 ∧ ((((W.alloc o1).alloc o2).alloc o3).alloc o4).heap[W.heap.size + 3]? = some o4 := by
  have s1 := World.size_alloc W o1
  have s2 := World.size_alloc (W.alloc o1) o2
  have s3 := World.size_alloc ((W.alloc o1).alloc o2) o3
  have s4 := World.size_alloc (((W.alloc o1).alloc o2).alloc o3) o4
  refine ⟨by omega, (((below_alloc W o1).alloc (by omega) o2).alloc (by omega) o3).alloc (by omega) o4, ?_, ?_, ?_, ?_⟩
  · rw [Below.heap_alloc _ _ _ (by omega), Below.heap_alloc _ _ _ (by omega), Below.heap_alloc _ _ _ (by omega)]; exact World.alloc_heap_new W o1
  · rw [Below.heap_alloc _ _ _ (by omega), Below.heap_alloc _ _ _ (by omega), ← s1]; exact World.alloc_heap_new _ o2
  · rw [Below.heap_alloc _ _ _ (by omega), show W.heap.size + 2 = ((W.alloc o1).alloc o2).heap.size from by omega]; exact World.alloc_heap_new _ o3
  · rw [show W.heap.size + 3 = (((W.alloc o1).alloc o2).alloc o3).heap.size from by omega]; exact World.alloc_heap_new _ o4
theorem grown_block {W X w1 : World} {row : Option Nat} {b : Nat} {o : Obj} (hg : X.grownBy w1 row) (hB : Below W.heap.size W X) (hb : b < W.heap.size) (hne : ∀ q, row = some q → q ≠ b) (h : W.heap[b]? = some o) : w1.heap[b]? = some o :=
  (hg.block b (Nat.lt_of_lt_of_le hb hB.size) (fun e => hne b e.symm rfl)).trans ((hB.block b hb).trans h)
theorem IntsAt.len {w : World} {sv : Value} {n : Nat} {z : Nat → Int} (h : IntsAt w sv n z) : ∃ a cap, sv = .slice a n cap := by
  rcases h with ⟨rfl, rfl⟩ | ⟨b, off, cap, rfl, _⟩
  · exact ⟨_, _, rfl⟩
  · exact ⟨_, _, rfl⟩
theorem set4 {X : World} {B : Nat} {a b c d : Value} {t : TypeId} (h : X.heap[B]? = some (.cells #[a, b, c, d] t (0, 0))) (a' b' c' d' : Value) :
    ((((X.setCell ⟨B, 0, none⟩ a').setCell ⟨B, 1, none⟩ b').setCell ⟨B, 2, none⟩ c').setCell ⟨B, 3, none⟩ d').heap[B]? = some (.cells #[a', b', c', d'] t (0, 0)) := by
  simp [World.setCell, Array.getElem?_modify, h]

/-- The cells of a slice that may be nil. -/
def Src (w : World) (src : Option Addr) (size m : Nat) (news : List Value) : Prop :=
  news.length = m * size ∧ ∀ j u, news[j]? = some u → ∃ a, src = some a ∧ w.cell? (a.add j) = some u
section
variable {P : Program} (w : World)
theorem run_append_src (base : Nat) (t ty e : TypeId) (i : TypeInfo) (z : Value) (size bytes : Nat) (ht : P.underlying t = some (.slice e)) (hi : P.info? e = some i) (hz : i.zero = some z)
    (hsize : i.size = size) (hby : i.bytes = bytes) (hzs : z.cells.size = size) (hsz : 0 < size)
    (v : Value) (n : Nat) (xs : List Value) (hown : w.ownsRow base e size v n xs)
    (src : Option Addr) (m c : Nat) (news : List Value) (hsrc : Src w src size m news) (h1 : ∀ u ∈ news, u.oneCell' = true)
    (h63 : n + m ≤ maxLen) (hbytes : (n + m) * bytes ≤ 140737488355328) (hbase : base ≤ w.heap.size) :
    ∃ v' w', (Builtin.append_ #[t, t] ty #[v, .slice src m c]).run P w = .ok v' w' ∧ w'.ownsRow base e size v' (n + m) (xs ++ news) ∧ w.grownBy w' v.ownBlock ∧ (v'.ownBlock = v.ownBlock ∨ v'.ownBlock = some w.heap.size) := by
  obtain ⟨hl, hc⟩ := hsrc
  cases src with
  | some a =>
    obtain ⟨v', w', h2, h3, h4, _, h5⟩ := run_append_own_at (P := P) w base t ty e i z size bytes ht hi hz hsize hby hzs hsz v n xs hown a m c news hl (fun j u hu => by obtain ⟨a', e, h⟩ := hc j u hu; cases e; exact h) h1 h63 hbytes hbase
    exact ⟨v', w', h2, h3, h4, h5⟩
  | none =>
    have hn : news = [] := by
      cases hn : news with
      | nil => rfl
      | cons x l => rw [hn] at hc; obtain ⟨_, e, _⟩ := hc 0 x rfl; cases e
    subst hn
    have hm : m = 0 := by
      rcases Nat.eq_zero_or_pos m with h | h
      · exact h
      · have := Nat.mul_pos h hsz; simp at hl; omega
    subst hm
    refine ⟨v, w, ?_, by simpa using hown, ⟨rfl, rfl, rfl, Nat.le_refl _, fun _ _ _ => rfl⟩, .inl rfl⟩
    rcases hown.2 with ⟨rfl, rfl⟩ | ⟨g, cap, cur, rfl, _, _, hnc, _⟩ <;> simp [Builtin.append_, run_underlying ht, sizeOf, typeInfo, Builtin.lenOf, Builtin.firstCells, storeCells, *]

theorem step_append_src {ops : Array Oper} {o : Oper} {a : Act} {K : Act → World → Prop} {Q : Exit → Act → World → Prop} {E : Prop} (hgd : o.guard = none) (s x : Operand) (t : TypeId)
    (ho : o.op = .call { callee := .builtin .append, args := #[s, x], argTypes := #[t, t] })
    (base : Nat) (e : TypeId) (i : TypeInfo) (z : Value) (size bytes : Nat) (ht : P.underlying t = some (.slice e)) (hi : P.info? e = some i) (hz : i.zero = some z)
    (hsize : i.size = size) (hby : i.bytes = bytes) (hzs : z.cells.size = size) (hsz : 0 < size)
    (v : Value) (n : Nat) (xs : List Value) (hs : a.eval s = v) (hown : w.ownsRow base e size v n xs)
    (src : Option Addr) (m c : Nat) (news : List Value) (hx : a.eval x = .slice src m c) (hsrc : Src w src size m news) (h1 : ∀ u ∈ news, u.oneCell' = true)
    (h63 : n + m ≤ maxLen) (hbytes : (n + m) * bytes ≤ 140737488355328) (hbase : base ≤ w.heap.size)
    (h : ∀ v' w', w'.ownsRow base e size v' (n + m) (xs ++ news) → w.grownBy w' v.ownBlock → (v'.ownBlock = v.ownBlock ∨ v'.ownBlock = some w.heap.size) → K (a.put o.dst v') w') :
    if Region.wanted o (yielded ops a.tmps) = true then Oper.wp P o a w K Q else E := by
  have hw : Region.wanted o (yielded ops a.tmps) = true := by simp [Region.wanted, hgd]
  rw [if_pos hw]
  obtain ⟨v', w', hr, h2, h3, h4⟩ := run_append_src (P := P) w base t o.type e i z size bytes ht hi hz hsize hby hzs hsz v n xs hown src m c news hsrc h1 h63 hbytes hbase
  unfold Oper.wp execOp
  simp only [ho, resolve, invoke, builtin, Sem.run_bind, Sem.run_pure, Result.andThen_ok, List.map_toArray, List.map_cons, List.map_nil, hs, hx, hr]
  exact h v' w' h2 h3 h4
end
section
variable {P : Program} (w : World)
theorem wpList_append_src {ops : Array Oper} {rest : List Oper} {o : Oper} {a : Act} {Q : Exit → Act → World → Prop} (hgd : o.guard = none) (s x : Operand) (t : TypeId)
    (ho : o.op = .call { callee := .builtin .append, args := #[s, x], argTypes := #[t, t] })
    (base : Nat) (e : TypeId) (i : TypeInfo) (z : Value) (size bytes : Nat) (ht : P.underlying t = some (.slice e)) (hi : P.info? e = some i) (hz : i.zero = some z)
    (hsize : i.size = size) (hby : i.bytes = bytes) (hzs : z.cells.size = size) (hsz : 0 < size)
    (v : Value) (n : Nat) (xs : List Value) (hs : a.eval s = v) (hown : w.ownsRow base e size v n xs)
    (src : Option Addr) (m c : Nat) (news : List Value) (hx : a.eval x = .slice src m c) (hsrc : Src w src size m news) (h1 : ∀ u ∈ news, u.oneCell' = true)
    (h63 : n + m ≤ maxLen) (hbytes : (n + m) * bytes ≤ 140737488355328) (hbase : base ≤ w.heap.size)
    (h : ∀ v' w', w'.ownsRow base e size v' (n + m) (xs ++ news) → w.grownBy w' v.ownBlock → (v'.ownBlock = v.ownBlock ∨ v'.ownBlock = some w.heap.size) → wpList P ops Q rest (a.put o.dst v') w') : wpList P ops Q (o :: rest) a w :=
  wpList_plain hgd fun _ hK => by
    obtain ⟨v', w', hr, h2, h3, h4⟩ := run_append_src (P := P) w base t o.type e i z size bytes ht hi hz hsize hby hzs hsz v n xs hown src m c news hsrc h1 h63 hbytes hbase
    unfold Oper.wp execOp
    simp only [ho, resolve, invoke, builtin, Sem.run_bind, Sem.run_pure, Result.andThen_ok, List.map_toArray, List.map_cons, List.map_nil, hs, hx, hr]
    exact hK _ _ (h v' w' h2 h3 h4)
end

end Go.Proofs.YtgbdbikjckfgmaaGreat
namespace Go.Proofs.YtgbdbikjckfgmaaGreat
open Go
/-- For what is shown once and used at many places: T is found at the first of them. -/
theorem join {T G : Prop} (h : T → G) (t : T) : G := h t

section
variable {P : Program} {ops : Array Oper} {Q : Exit → Act → World → Prop} {md : Region.Mode}

theorem wp_then {o : Oper} {a : Act} {w : World} {K N : Act → World → Prop} (hh : o.wp P a w K (Exit.then N Q)) : o.wp P a w K Q := by
  unfold Oper.wp at *
  generalize (execOp a.eval o).run P w = r at *
  cases r with
  | ok n w' =>
    cases n <;> simp only [Oper.upon] at hh ⊢ <;>
      first
        | exact hh
        | exact Calls.mono hh (fun e w'' he => by cases e <;> exact he)
  | halt x w' => cases x <;> simp only [Oper.upon] at hh ⊢ <;> exact hh

/-- The first t of N operations have come up. -/
def preB (t N : Nat) : Array Bool := ((List.range N).map fun i => decide (i < t)).toArray
theorem preB_zero (N : Nat) : Array.replicate N false = preB 0 N := by
  apply Array.ext
  · simp [preB]
  · intro i h1 h2; simp [preB]
theorem preB_set (t N : Nat) : (preB t N).setIfInBounds t true = preB (t + 1) N := by
  apply Array.ext
  · simp [preB]
  · intro i h1 h2
    simp only [preB, List.setIfInBounds_toArray, List.getElem_toArray, List.getElem_set, List.getElem_map, List.getElem_range]
    split
    · rename_i e; subst e; simp
    · rename_i e; rw [Bool.eq_iff_iff]; simp; omega
theorem preB_get (t N i : Nat) (d : Bool) (h : i < N) : (preB t N).getD i d = decide (i < t) := by
  simp [preB, Array.getD, h]
theorem preB_out (t N i : Nat) (d : Bool) (h : ¬ i < N) : (preB t N).getD i d = d := by
  simp [preB, Array.getD, h]
/-- The operations that have to come up before o lie below this number. -/
def afterMax (md : Region.Mode) (o : Oper) : Nat := o.after.toList.foldr (fun e m => if Region.binds md e = true then max (e.on + 1) m else m) 0
theorem afterMax_le (md : Region.Mode) (o : Oper) (t : Nat) : (o.after.all fun e => !Region.binds md e || decide (e.on < t)) = true ↔ afterMax md o ≤ t := by
  unfold afterMax
  rw [← Array.all_toList]
  induction o.after.toList with
  | nil => simp
  | cons e l ih =>
    rw [List.all_cons, Bool.and_eq_true, ih, List.foldr_cons]
    cases hb : Region.binds md e
    · simp
    · simp; omega
/-- From s to e the operations come up one by one: l has those from number j on. -/
def spanB (md : Region.Mode) : List Oper → Nat → Nat → Nat → Bool
  | [], _, _, _ => true
  | o :: l, j, s, e => (decide (j < s) || ((decide (e ≤ j) || decide (afterMax md o ≤ j)) && (j == s || decide (min j e ≤ afterMax md o)))) && spanB md l (j + 1) s e
theorem spanB_at (md : Region.Mode) : ∀ (l : List Oper) (j s e : Nat), spanB md l j s e = true → ∀ (i : Nat) (o : Oper), l[i]? = some o → s ≤ j + i →
    (j + i < e → afterMax md o ≤ j + i) ∧ (j + i = s ∨ min (j + i) e ≤ afterMax md o) := by
  intro l
  induction l with
  | nil => intro j s e _ i o h; simp at h
  | cons o l ih =>
    intro j s e h i o' hi hs
    simp only [spanB, Bool.and_eq_true, Bool.or_eq_true, decide_eq_true_eq, beq_iff_eq] at h
    obtain ⟨h1, h2⟩ := h
    cases i with
    | zero =>
      simp at hi
      subst hi
      rcases h1 with h1 | ⟨h1, h3⟩
      · omega
      · simp only [Nat.add_zero]
        exact ⟨fun hj => by rcases h1 with h1 | h1 <;> omega, h3⟩
    | succ i =>
      have := ih (j + 1) s e h2 i o' (by simpa using hi) (by omega)
      rw [show j + (i + 1) = j + 1 + i from by omega]
      exact this
theorem filter_single (t : Nat) : ∀ N, t < N → (List.range N).filter (fun i => i == t) = [t] := by
  have h0 : ∀ N, N ≤ t → (List.range N).filter (fun i => i == t) = [] := fun N hN => by
    rw [List.filter_eq_nil_iff]
    intro a ha
    rw [List.mem_range] at ha
    simp; omega
  intro N
  induction N with
  | zero => intro h; omega
  | succ N ih =>
    intro h
    rw [List.range_succ, List.filter_append]
    by_cases hN : t < N
    · rw [ih hN]; simp; omega
    · rw [h0 N (by omega)]
      obtain rfl : t = N := by omega
      simp
theorem ready_pre {s e t : Nat} (hs : spanB md ops.toList 0 s e = true) (h1 : s ≤ t) (h2 : t < e) (h3 : e ≤ ops.size) : Region.ready md ops (preB t ops.size) = [t] := by
  unfold Region.ready
  rw [← filter_single t ops.size (by omega)]
  apply List.filter_congr
  intro i hi
  rw [List.mem_range] at hi
  rw [preB_get _ _ _ _ hi, Bool.eq_iff_iff]
  have ho : ops[i]? = some ops[i] := Array.getElem?_eq_getElem hi
  rw [ho]
  simp only [Option.map_some, Option.getD_some, Bool.and_eq_true, Bool.not_eq_true', decide_eq_false_iff_not, beq_iff_eq]
  have he : (ops[i].after.all fun e => !Region.binds md e || (preB t ops.size).getD e.on false) = (ops[i].after.all fun e => !Region.binds md e || decide (e.on < t)) := by
    congr 1
    funext e
    by_cases hN : e.on < ops.size
    · rw [preB_get _ _ _ _ hN]
    · rw [preB_out _ _ _ _ hN]
      have : decide (e.on < t) = false := decide_eq_false (by omega)
      rw [this]
  rw [he, afterMax_le]
  constructor
  · rintro ⟨ha, hb⟩
    have := spanB_at md ops.toList 0 s e hs i ops[i] (by simp [hi]) (by omega)
    simp only [Nat.zero_add] at this
    omega
  · rintro rfl
    have := spanB_at md ops.toList 0 s e hs i ops[i] (by simp [hi]) (by omega)
    simp only [Nat.zero_add] at this
    exact ⟨by omega, this.1 h2⟩
theorem wpAny_forced {s0 e fuel : Nat} (hs : spanB md ops.toList 0 s0 e = true) (he : e ≤ ops.size) : ∀ (n s : Nat) {a : Act} {w : World}, s0 ≤ s → s + n = e →
    wpList P ops (Exit.then (wpAny P md ops Q fuel (preB e ops.size)) Q) ((ops.toList.drop s).take n) a w → wpAny P md ops Q (n + fuel) (preB s ops.size) a w := by
  intro n
  induction n with
  | zero => intro s a w _ hn h; obtain rfl : s = e := by omega
            rw [Nat.zero_add]; exact h
  | succ n ih =>
    intro s a w h0 hn h
    have h2 : s < ops.size := by omega
    have hd : ops.toList.drop s = ops[s] :: ops.toList.drop (s + 1) := by rw [List.drop_eq_getElem_cons (by simpa using h2)]; simp
    rw [hd, List.take_succ_cons, wpList] at h
    rw [show n + 1 + fuel = (n + fuel) + 1 from by omega]
    refine wpAny_all (ready_pre hs h0 (by omega) he) (by simp) fun i hi => ?_
    rw [List.mem_singleton] at hi
    subst hi
    rw [preB_set]
    unfold wpOp
    simp only [Array.getElem?_eq_getElem h2]
    split
    · rename_i hw
      rw [if_pos hw] at h
      rcases h with h | h
      · exact .inl (Oper.wp_mono (fun a w hk => ih _ (by omega) (by omega) hk) (wp_then h))
      · exact .inr h
    · rename_i hw
      rw [if_neg hw] at h
      exact ih _ (by omega) (by omega) h
/-- From number s on n operations come up one by one; then fuel more. N: how many there are. -/
theorem wpAny_seg (s n fuel N : Nat) {F : Nat} {a : Act} {w : World} (hN : ops.size = N) (hF : F = n + fuel) (hf : spanB md ops.toList 0 s (s + n) = true) (hle : s + n ≤ N)
    (h : wpList P ops (Exit.then (wpAny P md ops Q fuel (preB (s + n) N)) Q) ((ops.toList.drop s).take n) a w) : wpAny P md ops Q F (preB s N) a w := by
  subst hF hN; exact wpAny_forced hf hle n s (Nat.le_refl _) rfl h
theorem ready_all (N : Nat) (h : ops.size = N) : Region.ready md ops (preB N N) = [] := by
  subst h
  unfold Region.ready
  rw [List.filter_eq_nil_iff]
  intro i hi
  rw [List.mem_range] at hi
  rw [preB_get _ _ _ _ hi]
  simp [hi]
/-- The last ones. -/
theorem wpAny_end (s n N : Nat) {F : Nat} {a : Act} {w : World} (hN : ops.size = N) (hF : F = n) (hf : spanB md ops.toList 0 s (s + n) = true) (hle : s + n = N)
    (h : wpList P ops Q ((ops.toList.drop s).take n) a w) : wpAny P md ops Q F (preB s N) a w := by
  refine wpAny_seg s n 0 N hN (by omega) hf (by omega) ?_
  have hQ : Exit.then (wpAny P md ops Q 0 (preB (s + n) N)) Q = Q := by
    funext e a w
    cases e <;> simp [Exit.then, wpAny, hle, ready_all N hN]
  rw [hQ]; exact h
/-- A region that draws whose order is forced from its beginning to its end. -/
theorem wp_region_forced {id : Nat} {a : Act} {w : World} (hm : P.follows .mixedOrders = true) (hf : spanB .any ops.toList 0 0 ops.size = true)
    (h : wpList P ops Q ops.toList a w.drew) : (Code.region id ops true).wp P Q a w := by
  refine wp_region_any hm ?_
  rw [preB_zero]
  refine wpAny_end 0 ops.size ops.size rfl rfl (by rw [Nat.zero_add]; exact hf) (by omega) ?_
  rw [List.drop_zero, List.take_of_length_le (by simp)]
  exact h
theorem wp_region_pre {id : Nat} {a : Act} {w : World} (N : Nat) (hm : P.follows .mixedOrders = true) (hN : ops.size = N) (h : wpAny P .any ops Q N (preB 0 N) a w.drew) : (Code.region id ops true).wp P Q a w := by
  subst hN; rw [← preB_zero] at h; exact wp_region_any hm h
theorem wp_region_heldL {S : World → Prop} {id : Nat} {a : Act} {w : World} (N : Nat) (L : Array Bool) (hm : P.follows .mixedOrders = true) (hN : ops.size = N) (hL : Array.replicate ops.size false = L) (h : wpAnyH P .any ops Q S N L a w.drew) : (Code.region id ops true).wp P Q a w := by
  subst hN hL; exact wp_region_held hm h
/-- Two operations come up in either order; the first one only reads, what S says; the second one keeps S. -/
theorem wpAny_pair (i j : Nat) {oi oj : Oper} {v : Value} {S : World → Prop} {fuel : Nat} {listed : Array Bool} (L : Array Bool) {a : Act} {w : World}
    (hi : ops[i]? = some oi) (hj : ops[j]? = some oj) (hsel : Region.noSelect ops = true) (hap : oi.apart ops oj = true)
    (hr : Region.ready md ops listed = [i, j]) (hri : Region.ready md ops (listed.setIfInBounds i true) = [j]) (hrj : Region.ready md ops (listed.setIfInBounds j true) = [i])
    (hL1 : (listed.setIfInBounds i true).setIfInBounds j true = L) (hL2 : (listed.setIfInBounds j true).setIfInBounds i true = L)
    (hQ : ∀ c a w, Q (.panic c) (a.put oi.dst v) w → Q (.panic c) a w)
    (hy : YieldsIf P ops S oi v a) (hS : S w)
    (h : ∀ K' : Act → World → Prop, Shut (∀ a w, S w → (S w → wpAny P md ops Q fuel L a w) → K' a w) → if Region.wanted oj (yielded ops (a.put oi.dst v).tmps) = true then Oper.wp P oj (a.put oi.dst v) w K' Q else K' ((a.put oi.dst v).put oj.dst undef) w) :
    wpAny P md ops Q (fuel + 2) listed a w := by
  have hK : wpOp P ops Q j (fun a' w' => S w' ∧ wpAny P md ops Q fuel L a' w') (a.put oi.dst v) w :=
    wpOp_step hj (fun K' hK => h K' (fun a w hS hW => hK a w ⟨hS, hW hS⟩))
  refine wpAny_all hr (by simp) fun k hk => ?_
  simp only [List.mem_cons, List.not_mem_nil, or_false] at hk
  rcases hk with rfl | rfl
  · refine hy.wpOp hi hS ?_
    refine wpAny_all hri (by simp) fun q hq => ?_
    rw [List.mem_singleton] at hq
    subst hq
    rw [hL1]
    exact wpOp_mono (fun a w hh => hh.2) hK
  · have hs := Region.noSelect_spec hsel
    refine wpOp_mono (fun a' w' hh => ?_) (wpOp_putIf hj hap (fun cs b => hs _ _ cs b hi) (fun cs b => hs _ _ cs b hj) hQ hy hK)
    obtain ⟨h1, h2, h3⟩ := hh
    refine wpAny_all hrj (by simp) fun q hq => ?_
    rw [List.mem_singleton] at hq
    subst hq
    rw [hL2]
    exact h1.wpOp hi h2 h3
end
end Go.Proofs.YtgbdbikjckfgmaaGreat

namespace Go.Proofs.YtgbdbikjckfgmaaGreat
open Go.ChangeShapes Go.WideShapes Go.ChangeAt Go.RowKit

theorem Tryz.own : ownKnob Tryz.prog.godebug = none := by kernel_rfl
theorem Tryz.laidOut : laidOutB Tryz.prog = true := by kernel_rfl

section
variable {H : Type} {enc : TypeId × Value → H}
theorem trodAll_stays {W W' : World} {sp : Nat → Bool} (hb : Below W.heap.size W W') : ∀ {ts : List TypeId} {vs : List Value} {ds : List (DataW H)} {ps : List MemPlace}, (∀ t ∈ ts, Tryz.prog.readableRec t = true ∧ t < Tryz.prog.types.size) →
    DataW.TrodAll enc Tryz.prog W 0 (fun _ => true) true ts vs ds ps → (∀ x ∈ ps, x.block < W.heap.size) → (∀ x ∈ ps, sp x.block = true) → DataW.TrodAll enc Tryz.prog W' 0 sp true ts vs ds ps
  | [], [], [], _, _, h, _, _ => h
  | _ :: _, _ :: _, _ :: _, _, hT, ⟨p, q, h1, h2, e⟩, hlt, hs =>
    ⟨p, q, WideElems.Trod_stays Tryz.laidOut (hT _ (List.mem_cons.2 (Or.inl rfl))).1 (hT _ (List.mem_cons.2 (Or.inl rfl))).2 h1 (fun x hx => hb.same (hlt x (by rw [e]; exact List.mem_append_left _ hx))) (fun x hx => hs x (by rw [e]; exact List.mem_append_left _ hx)),
      trodAll_stays hb (fun t ht => hT t (List.mem_cons.2 (Or.inr ht))) h2 (fun x hx => hlt x (by rw [e]; exact List.mem_append_right _ hx)) (fun x hx => hs x (by rw [e]; exact List.mem_append_right _ hx)), e⟩

/-- The post of a law that returned true in a world that has only grown. -/
theorem law_post {f : Func} {s : ChangeSpec} {W W' : World} {args : Array Value} {ds gs : List (DataW H)} {before : List MemPlace} (hv : s.vars = []) (hr : f.resultTypes = #[4]) (hp : ∀ t ∈ f.params.toList, Tryz.prog.readableRec t = true ∧ t < Tryz.prog.types.size)
    (hs : gs = [] → s.fn H ds = { results := [.lit (.bool true)], args := ds }) (hW : DataW.Whole enc Tryz.prog f.params.toList s.vars false W args.toList ds gs before) (hb : Below W.heap.size W W') : s.post enc Tryz.prog f false true false false W args (.bool true) W' := by
  have hlt : ∀ p ∈ before, p.block < W.heap.size := fun p hp => hW.lt p hp
  have hW0 := hW
  obtain ⟨p, q, hA, hV, hpq, hfz, hnd⟩ := hW
  rw [hv] at hV
  obtain ⟨rfl, rfl⟩ := trodVars_none hV
  rw [List.append_nil] at hpq
  subst hpq
  have hfn := hs rfl
  have hold : ∀ x ∈ before, (fun b => decide (b < W.heap.size)) x.block = true := fun x hx => by simpa using hlt x hx
  refine ⟨ds, [], before, [], before, [], hW0, ?_, ?_, ?_, World.keptBut_mono (fun x hx => ⟨hx, .inr (.inl hx)⟩) (hb.frame (· ∈ before)), fun h => by cases h⟩
  · rw [List.append_nil, hfn, hr]
    exact trodAll_mk1 (shut_bool Tryz.underlying4 _)
  · rw [List.append_nil, hfn]
    exact trodAll_stays hb hp hA hlt hold
  · rw [List.append_nil, hfn, hv]
    rfl
end
section
open Go
variable {P : Program} {ops : Array Oper} {Q : Exit → Act → World → Prop} {S : World → Prop} {md : Region.Mode}
/-- What a take asks of the region. -/
def tB (md : Region.Mode) (ops : Array Oper) (l : Array Bool) (i : Nat) : Bool := Region.noSelect ops && Region.free md ops l i && (Region.ready md ops l).contains i
/-- These operations are taken next, in this order. -/
structure Tk (is : List Nat) (G : Prop) : Prop where
  out : G
theorem tk (is : List Nat) {G : Prop} (h : Tk is G) : G := h.out
theorem tk0 {G : Prop} (h : G) : Tk [] G := ⟨h⟩
theorem tH (i : Nat) {oi : Oper} {v : Value} {f : Nat} {l : Array Bool} {a : Act} {w : World} (hi : ops[i]? = some oi) (hb : tB md ops l i = true) (hg : Region.wanted oi (yielded ops a.tmps) = true)
    (hQ : ∀ c a w, Q (.panic c) (a.put oi.dst v) w → Q (.panic c) a w) (hS : S w) (hy : ∀ w, S w → (execOp a.eval oi).run P w = .ok (.value v) w)
    (h : wpAnyH P md ops Q S f (l.setIfInBounds i true) (a.put oi.dst v) w) : wpAnyH P md ops Q S (f + 1) l a w := by
  unfold tB at hb
  simp only [Bool.and_eq_true] at hb
  exact wpAnyH_take hi hb.1.1 hb.1.2 hb.2 hQ (.inl ⟨hg, hy⟩) hS h
theorem tkH {i : Nat} {is : List Nat} {oi : Oper} {v : Value} {f : Nat} {l : Array Bool} {a : Act} {w : World} (hi : ops[i]? = some oi) (hb : tB md ops l i = true) (hg : Region.wanted oi (yielded ops a.tmps) = true)
    (hQ : ∀ c a w, Q (.panic c) (a.put oi.dst v) w → Q (.panic c) a w) (hS : S w) (hy : ∀ w, S w → (execOp a.eval oi).run P w = .ok (.value v) w)
    (h : Tk is (wpAnyH P md ops Q S f (l.setIfInBounds i true) (a.put oi.dst v) w)) : Tk (i :: is) (wpAnyH P md ops Q S (f + 1) l a w) := ⟨tH i hi hb hg hQ hS hy h.out⟩
end
end Go.Proofs.YtgbdbikjckfgmaaGreat
