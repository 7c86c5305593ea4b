/- Contracts: extended on lists, ranges, True. -/
import Derived.Test.YtagfcfojfjkmbaaA4
namespace Go.Proofs.Ytagfcfojfjkmbaa
open Go.RowKit

def ext (l : List (Int × Int)) (lo hi : Int) : List (Int × Int) :=
  match l.getLast? with
  | some r => if lo ≤ r.2 + 1 then l.dropLast ++ [(r.1, max r.2 hi)] else l ++ [(lo, hi)]
  | none => [(lo, hi)]

theorem ext_length (l : List (Int × Int)) (lo hi : Int) : (ext l lo hi).length ≤ l.length + 1 := by
  unfold ext
  split
  · split <;> simp
  · simp

theorem flat_cell (l : List (Int × Int)) (a b : Int) : (flat (l ++ [(a, b)]))[l.length * 2 + 1]? = some (.int .i64 b) := by
  rw [flat_append, List.getElem?_append_right (by rw [flat_length]; omega), flat_length]
  simp [flat]

theorem flat_set (l : List (Int × Int)) (a b c : Int) : (flat (l ++ [(a, b)])).set (l.length * 2 + 1) (.int .i64 c) = flat (l ++ [(a, c)]) := by
  rw [flat_append, flat_append, List.set_append_right _ _ (by rw [flat_length]; omega), flat_length]
  simp [flat]

theorem extended_grow (base : Nat) (v : Value) (l : List (Int × Int)) (lo hi : Int) (w : World) (h : RS w base v l) (hlen : l.length ≤ 10000) (hbase : base ≤ w.heap.size)
    (hbd : ∀ r ∈ l, -1000000000 ≤ r.2 ∧ r.2 ≤ 1000000000) :
    Calls Try.prog 68 #[v, .int .i64 lo, .int .i64 hi] w (GivesG w base v (ext l lo hi)) := by
  rcases List.eq_nil_or_concat l with rfl | ⟨l0, ⟨a, b⟩, rfl⟩
  · have : ∃ a cap, v = .slice a 0 cap := by
      rcases h.2 with ⟨rfl, _⟩ | ⟨g, cap, cur, rfl, _⟩
      · exact ⟨_, _, rfl⟩
      · exact ⟨_, _, rfl⟩
    obtain ⟨a, cap, rfl⟩ := this
    exact extended_first a base cap lo hi w hbase h
  · rw [List.concat_eq_append] at *
    have hb := hbd (a, b) (by simp)
    obtain ⟨g, cap, rfl, _, _⟩ := World.ownsRow.form h (by simp)
    have hown := h
    unfold RS at hown
    simp only [List.length_append, List.length_cons, List.length_nil, Nat.zero_add] at hown hlen ⊢
    have hc : w.cell? ⟨g, l0.length * 2 + 1, none⟩ = some (.int .i64 b) := by rw [hown.cellAt _ (by omega), flat_cell]
    have he : ext (l0 ++ [(a, b)]) lo hi = if lo ≤ b + 1 then l0 ++ [(a, max b hi)] else (l0 ++ [(a, b)]) ++ [(lo, hi)] := by simp [ext]
    rw [he]
    by_cases hlo : lo ≤ b + 1
    · rw [if_pos hlo]
      refine (extended_join g l0.length cap lo hi b w (by omega) hc (hown.frozenAt _) hb.1 hb.2 hlo).mono ?_
      rintro e w' ⟨rfl, rfl⟩
      have hs := hown.stored (l0.length * 2 + 1) (.int .i64 (max b hi))
      rw [flat_set] at hs
      refine ⟨_, rfl, ?_, hs.2, .inl rfl⟩
      unfold RS
      simpa using hs.1
    · rw [if_neg hlo]
      refine (extended_push g l0.length cap base lo hi b _ w (by omega) hbase hc hb.1 hb.2 (by omega) hown).mono ?_
      rintro e w' ⟨v, rfl, h1, h2, h3⟩
      refine ⟨v, rfl, ?_, h2, h3⟩
      unfold RS
      rw [flat_append _ [(lo, hi)]]
      simpa [flat] using h1

theorem RS.own {w : World} {base : Nat} {v : Value} {l : List (Int × Int)} (h : RS w base v l) : ∀ k, v.ownBlock = some k → base ≤ k ∧ k < w.heap.size := fun k hk => by
  rcases h.2 with ⟨rfl, _⟩ | ⟨g, cap, cur, rfl, hg, hc, _⟩
  · cases hk
  · cases hk; exact ⟨hg, (Array.getElem?_eq_some_iff.1 hc).1⟩
theorem extended_any (base : Nat) (v : Value) (l : List (Int × Int)) (lo hi : Int) (w : World) (h : RS w base v l) (hlen : l.length ≤ 10000) (hbase : base ≤ w.heap.size)
    (hbd : ∀ r ∈ l, -1000000000 ≤ r.2 ∧ r.2 ≤ 1000000000) :
    Calls Try.prog 68 #[v, .int .i64 lo, .int .i64 hi] w (Gives w base (ext l lo hi)) := by
  refine (extended_grow base v l lo hi w h hlen hbase hbd).mono ?_
  rintro e w' ⟨v', rfl, h1, h2, _⟩
  exact ⟨v', rfl, h1, (Below.refl base w).grown h2 hbase (fun k hk => (h.own k hk).1)⟩

/-- The ranges of the flags below k. -/
def rngs (fl : Nat → Bool) : Nat → List (Int × Int)
  | 0 => []
  | k + 1 => if fl k then ext (rngs fl k) k k else rngs fl k
theorem rngs_length (fl : Nat → Bool) (k : Nat) : (rngs fl k).length ≤ k := by
  induction k with
  | zero => simp [rngs]
  | succ k ih => rw [rngs]; split
                 · have := ext_length (rngs fl k) k k; omega
                 · omega
theorem ext_bd (l : List (Int × Int)) (lo hi B : Int) (h : ∀ r ∈ l, 0 ≤ r.2 ∧ r.2 ≤ B) (h0 : 0 ≤ hi) (h1 : hi ≤ B) : ∀ r ∈ ext l lo hi, 0 ≤ r.2 ∧ r.2 ≤ B := by
  intro r hr
  rcases List.eq_nil_or_concat l with rfl | ⟨l0, ⟨a, b⟩, rfl⟩
  · simp [ext] at hr; subst hr; exact ⟨h0, h1⟩
  · rw [List.concat_eq_append] at *
    have hb := h (a, b) (by simp)
    simp only at hb
    have he : ext (l0 ++ [(a, b)]) lo hi = if lo ≤ b + 1 then l0 ++ [(a, max b hi)] else (l0 ++ [(a, b)]) ++ [(lo, hi)] := by simp [ext]
    rw [he] at hr
    split at hr
    · rcases List.mem_append.1 hr with h2 | h2
      · exact h r (by simp [h2])
      · simp at h2; subst h2; simp only; omega
    · rcases List.mem_append.1 hr with h2 | h2
      · exact h r h2
      · simp at h2; subst h2; exact ⟨h0, h1⟩
theorem rngs_bd (fl : Nat → Bool) (k : Nat) : ∀ r ∈ rngs fl k, 0 ≤ r.2 ∧ r.2 ≤ (k : Int) := by
  induction k with
  | zero => simp [rngs]
  | succ k ih =>
    have ih' : ∀ r ∈ rngs fl k, 0 ≤ r.2 ∧ r.2 ≤ ((k + 1 : Nat) : Int) := fun r hr => ⟨(ih r hr).1, by have := (ih r hr).2; omega⟩
    rw [rngs]; split
    · exact ext_bd _ _ _ _ ih' (by omega) (by omega)
    · exact ih'

theorem wp_box_row {P : Program} {o : Oper} {a : Act} {w : World} {K : Act → World → Prop} {Q : Exit → Act → World → Prop} (ty : TypeId) (x : Operand) (ho : o.op = .box ty x) (cs : Array Value) (hx : a.eval x = .agg cs)
    (h : K (a.put o.dst (.pointer (some ⟨w.heap.size, 0, none⟩))) (w.alloc (.cells cs ty))) : o.wp P a w K Q := by
  unfold Oper.wp execOp
  simp only [ho, hx, Instr.box, newVar, newRow, Value.cells, Sem.run_bind, Sem.run_pure]
  exact h
theorem wpList_box_row {P : Program} {ops : Array Oper} {rest : List Oper} {o : Oper} {a : Act} {w : World} {Q : Exit → Act → World → Prop} (hgd : o.guard = none) (ty : TypeId) (x : Operand) (ho : o.op = .box ty x) (cs : Array Value) (hx : a.eval x = .agg cs)
    (h : wpList P ops Q rest (a.put o.dst (.pointer (some ⟨w.heap.size, 0, none⟩))) (w.alloc (.cells cs ty))) : wpList P ops Q (o :: rest) a w :=
  wpList_plain hgd fun _ hK => wp_box_row ty x ho cs hx (hK _ _ h)

theorem run_index_flags (fl : Nat → Bool) (k : Nat) (hk : k < 121) (w : World) : (Instr.index 133 (.agg (flagsA fl)) (.int .i64 k)).run Try.prog w = .ok (.bool (fl k)) w := by
  have hg := flagsA_get fl k hk
  simp [Instr.index, go_sem, part, hg]
  intro h; omega

theorem run_index_flags' (fl : Nat → Bool) (w : World) (k : Nat) (hk : k < 121) : (Instr.index 133 (.agg (flagsA fl)) (.int .i64 k)).run Try.prog w = .ok (.bool (fl k)) w := run_index_flags fl k hk w

set_option maxRecDepth 100000 in
set_option maxHeartbeats 2000000 in
theorem ranges_any (fl : Nat → Bool) (w : World) :
    Calls Try.prog 84 #[.agg (flagsA fl)] w (Gives w w.heap.size (rngs fl 121)) := by
  have hsz := (show Option.map (fun x => x.size) (Try.prog.info? 133) = some (flagsA fl).size from by rw [flagsA_size]; kernel_rfl)
  have HS := Lib.hid hsz; clear hsz
  have HX := Lib.hid (run_index_flags' fl)
  go_enter Try.func84, Try.ntmps84
  go_wp2_with (first | (with_reducible refine wpList_box_row (o := ⟨some 1, .box 133 (.tmp 0), _, _, _, _⟩) rfl 133 (.tmp 0) rfl (flagsA fl) ?bx ?_) | (with_reducible refine wpList_load_row (o := ⟨some 5, .load 133 (.tmp 1), _, _, _, _⟩) rfl 133 (.tmp 1) rfl w.heap.size ?lx 133 (flagsA fl) (0, 0) _ (heap_alloc_new _ _) Try.underlying133 rfl HS.out ?_))
  case bx => rfl
  case lx => rfl
  go_loopw [2, 6] (fun v i wr => ∃ k : Nat, k ≤ 121 ∧ i = .int .i64 k ∧ RS wr (w.heap.size + 1) v (rngs fl k) ∧ Below (w.heap.size + 1) (w.alloc (.cells (flagsA fl) 133)) wr) (fun _ i _ => 121 - (intOf i).toNat)
  case atStart => exact ⟨0, by omega, rfl, World.ownsRow_nil _ _ _ _, Below.refl _ _⟩
  case round =>
    obtain ⟨k, hk, rfl, hrs, hbl⟩ := hrel
    have HR := Lib.hid hrs; clear hrs
    have HB := Lib.hid hbl; clear hbl
    by_cases hlt : k < 121
    · have hx := HX.out wr k hlt
      by_cases hf : fl k = true
      · go_wp2_with (go_at_call 68; refine (extended_any (w.heap.size + 1) _ _ _ _ _ HR.out (by have := rngs_length fl k; omega) (by have := HB.out.size; simp at this; omega) (fun r hr => by have := rngs_bd fl k r hr; omega)).mono ?_; rintro e w1 ⟨v1, rfl, hr1, hb1⟩)
        go_roundw
        case rel => exact ⟨k + 1, by omega, by go_num, by rw [rngs, if_pos hf]; exact hr1, HB.out.trans hb1⟩
        case measure => simp [intOf]; omega
      · have hf' : fl k = false := by simpa using hf
        clear hf
        go_wp2
        go_roundw
        case rel => exact ⟨k + 1, by omega, by go_num, by rw [rngs, hf']; exact HR.out, HB.out⟩
        case measure => simp [intOf]; omega
    · obtain rfl : k = 121 := by omega
      go_wp2
      go_ret
      exact ⟨_, rfl, HR.out.mono (by omega), ((Below.refl _ _).alloc (Nat.le_refl _) _).trans (HB.out.mono (by omega))⟩
end Go.Proofs.Ytagfcfojfjkmbaa
