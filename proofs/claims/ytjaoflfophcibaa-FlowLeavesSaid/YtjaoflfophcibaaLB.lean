/- The plain law of FlowLeaves: going through all sets of cells ends at the one that Leave returns. -/
import Derived.Test.YtjaoflfophcibaaJL
import Derived.Test.YtjaoflfophcibaaKW
namespace Go.Proofs.Ytjaoflfophcibaa
open Go.RowKit Go.Shelf

/-- The numbers below N whose bits are set. -/
def bl (N n : Nat) : List Nat := (List.range N).filter (fun k => n.testBit k)
theorem bl_succ (N n : Nat) : bl (N + 1) n = if n.testBit N = true then bl N n ++ [N] else bl N n := by
  unfold bl
  rw [List.range_succ, List.filter_append]
  by_cases h : n.testBit N = true
  · rw [if_pos h, List.filter_cons_of_pos h]; rfl
  · rw [if_neg h, List.filter_cons_of_neg h]; simp
theorem bl_inc (n : Nat) : ∀ N, Inc 0 N (bl N n)
  | 0 => trivial
  | N + 1 => by
    rw [bl_succ]
    split
    · exact Inc.snoc (Nat.zero_le _) (bl_inc n N)
    · exact Inc.up (Nat.le_succ _) (bl_inc n N)
theorem bl_len (N n : Nat) : (bl N n).length ≤ N := Inc.len (k := 0) (Nat.zero_le _) (bl_inc n N)
theorem range_inc (N : Nat) : Inc 0 N (List.range N) := by
  induction N with
  | zero => trivial
  | succ N ih => rw [List.range_succ]; exact Inc.snoc (Nat.zero_le _) ih
theorem Inc.split {N : Nat} : ∀ {s : List Nat} {k : Nat}, Inc k (N + 1) s → Inc k N s ∨ ∃ s', s = s' ++ [N] ∧ Inc k N s'
  | [], _, _ => .inl trivial
  | a :: s, k, h => by
    obtain ⟨h1, h2, h3⟩ := h
    by_cases e : a = N
    · subst e
      cases s with
      | nil => exact .inr ⟨[], rfl, trivial⟩
      | cons b s => have := h3.1; have := h3.2.1; omega
    · rcases Inc.split h3 with h4 | ⟨s', rfl, h4⟩
      · exact .inl ⟨h1, by omega, h4⟩
      · exact .inr ⟨a :: s', rfl, h1, by omega, h4⟩
theorem bl_congr {N n m : Nat} (h : ∀ k, k < N → n.testBit k = m.testBit k) : bl N n = bl N m := by
  induction N with
  | zero => rfl
  | succ N ih => rw [bl_succ, bl_succ, ih (fun k hk => h k (by omega)), h N (by omega)]
theorem bl_ex : ∀ {N : Nat} {s : List Nat}, Inc 0 N s → ∃ n, n < 2 ^ N ∧ bl N n = s
  | 0, [], _ => ⟨0, by decide, rfl⟩
  | 0, a :: s, h => by have := h.2.1; omega
  | N + 1, s, h => by
    have h2 : (2 : Nat) ^ (N + 1) = 2 ^ N + 2 ^ N := by rw [Nat.pow_succ]; omega
    rcases Inc.split h with h' | ⟨s', rfl, h'⟩
    · obtain ⟨n, hn, e⟩ := bl_ex h'
      refine ⟨n, by omega, ?_⟩
      rw [bl_succ, if_neg (by rw [Nat.testBit_lt_two_pow hn]; decide)]
      exact e
    · obtain ⟨n, hn, e⟩ := bl_ex h'
      refine ⟨2 ^ N + n, by omega, ?_⟩
      rw [bl_succ, if_pos (by rw [Nat.testBit_two_pow_add_eq, Nat.testBit_lt_two_pow hn]; rfl), bl_congr (m := n) (fun k hk => Nat.testBit_two_pow_add_gt hk n), e]
theorem bl_full (N : Nat) : bl N (2 ^ N - 1) = List.range N := by
  have h : ∀ M, M ≤ N → bl M (2 ^ N - 1) = List.range M := by
    intro M
    induction M with
    | zero => intro _; rfl
    | succ M ih =>
      intro hM
      rw [bl_succ, ih (by omega), List.range_succ, if_pos]
      rw [Nat.testBit_two_pow_sub_one]
      exact decide_eq_true (by omega)
  exact h N (Nat.le_refl _)
theorem lexLt_tri : ∀ {a b : List Nat}, a.length = b.length → lexLt a b = false → lexLt b a = false → a = b
  | [], [], _, _, _ => rfl
  | [], _ :: _, h, _, _ => by cases h
  | _ :: _, [], h, _, _ => by cases h
  | x :: a, y :: b, h, h1, h2 => by
    unfold lexLt at h1 h2
    by_cases e : x = y
    · rw [if_pos e] at h1
      rw [if_pos e.symm] at h2
      rw [e, lexLt_tri (Nat.succ.inj h) h1 h2]
    · rw [if_neg e] at h1
      rw [if_neg (fun h => e h.symm)] at h2
      have h1 := of_decide_eq_false h1
      have h2 := of_decide_eq_false h2
      omega
theorem lessN_tri {a b : List Nat} (h1 : lessN a b = false) (h2 : lessN b a = false) : a = b := by
  unfold lessN at h1 h2
  by_cases e : a.length = b.length
  · rw [if_pos e] at h1
    rw [if_pos e.symm] at h2
    exact lexLt_tri e h1 h2
  · rw [if_neg e] at h1
    rw [if_neg (fun h => e h.symm)] at h2
    have h1 := of_decide_eq_false h1
    have h2 := of_decide_eq_false h2
    omega
/-- What is known of the best set behind n sets; s: the one that Leave returns. -/
structure LvI (t : Tb) (s b : List Nat) (n : Nat) : Prop where
  inc : Inc 0 (t.nc * t.ng) b
  ok : okL t (natL b) = true
  fin : (s = List.range (t.nc * t.ng) ∨ ∃ m, m < n ∧ bl (t.nc * t.ng) m = s) → b = s
structure LvM (t : Tb) (s : List Nat) : Prop where
  inc : Inc 0 (t.nc * t.ng) s
  ok : okL t (natL s) = true
  min : ∀ x, Inc 0 (t.nc * t.ng) x → okL t (natL x) = true → lessN x s = false
theorem lvM_of {t : Tb} {l : List Int} (h : t.leave = some l) : ∃ s, l = natL s ∧ LvM t s := by
  obtain ⟨s, e, h1, h2, h3⟩ := leave_some h
  exact ⟨s, e, h1, h2, fun x hx ho => lessN_of (h3 x hx ho).1 (h3 x hx ho).2⟩
theorem LvI.start {t : Tb} {s : List Nat} (h : okL t (natL (List.range (t.nc * t.ng))) = true) : LvI t s (List.range (t.nc * t.ng)) 0 :=
  ⟨range_inc _, h, fun h => h.elim Eq.symm (fun ⟨_, h, _⟩ => absurd h (Nat.not_lt_zero _))⟩
theorem LvI.take {t : Tb} {s b : List Nat} {n : Nat} (hs : LvM t s) (h : LvI t s b n) (hl : lessN (bl (t.nc * t.ng) n) b = true) (ho : okL t (natL (bl (t.nc * t.ng) n)) = true) : LvI t s (bl (t.nc * t.ng) n) (n + 1) := by
  refine ⟨bl_inc _ _, ho, fun hc => ?_⟩
  have hno : b = s → False := fun e => by
    subst e
    rw [hs.min _ (bl_inc _ _) ho] at hl
    cases hl
  rcases hc with hc | ⟨m, hm, e⟩
  · exact (hno (h.fin (.inl hc))).elim
  · by_cases e2 : m = n
    · rw [← e2]; exact e
    · exact (hno (h.fin (.inr ⟨m, by omega, e⟩))).elim
theorem LvI.leave {t : Tb} {s b : List Nat} {n : Nat} (hs : LvM t s) (h : LvI t s b n) (hl : ¬ (lessN (bl (t.nc * t.ng) n) b = true ∧ okL t (natL (bl (t.nc * t.ng) n)) = true)) : LvI t s b (n + 1) := by
  refine ⟨h.inc, h.ok, fun hc => ?_⟩
  rcases hc with hc | ⟨m, hm, e⟩
  · exact h.fin (.inl hc)
  · by_cases e2 : m = n
    · subst e2
      rw [e] at hl
      have h1 : lessN s b = false := by
        cases e3 : lessN s b
        · rfl
        · exact absurd ⟨e3, hs.ok⟩ hl
      exact lessN_tri (hs.min b h.inc h.ok) h1
    · exact h.fin (.inr ⟨m, by omega, e⟩)
theorem LvI.done {t : Tb} {s b : List Nat} (hs : LvM t s) (h : LvI t s b (2 ^ (t.nc * t.ng) - 1)) : b = s := by
  obtain ⟨m, hm, e⟩ := bl_ex hs.inc
  by_cases e2 : m < 2 ^ (t.nc * t.ng) - 1
  · exact h.fin (.inr ⟨m, e2, e⟩)
  · have e3 : m = 2 ^ (t.nc * t.ng) - 1 := by omega
    rw [e3, bl_full] at e
    exact h.fin (.inl e.symm)
/-- If something can be left out, everything can. -/
theorem ok_all {t : Tb} {s : List Nat} (ht : Okt t) (hi : ∀ k, k ∈ s → k < t.nc * t.ng) (h : okL t (natL s) = true) : okL t (natL (List.range (t.nc * t.ng))) = true := by
  have hng := ht.ng2
  refine less_agree (C := t.ct) (o1 := outs t.ng (natL s)) ht ht (fun c g => ?_) h
  show subI (t.own (outs t.ng (natL s)) c g) (t.own (outs t.ng (natL (List.range (t.nc * t.ng)))) c g)
  unfold Tb.own
  by_cases h2 : outs t.ng (natL (List.range (t.nc * t.ng))) c g = true
  · rw [if_pos h2]
    obtain ⟨k, hk, e1, e2⟩ := outs_nat h2
    have hk := List.mem_range.1 hk
    have hc : c < t.nc := by rw [← e1]; exact (Nat.div_lt_iff_lt_mul (by omega)).2 hk
    have hg : g < t.ng := by rw [← e2]; exact Nat.mod_lt _ (by omega)
    have h3 := ht.ct c g hc hg
    split
    · exact ⟨Int.le_refl _, Int.le_refl _⟩
    · exact ⟨h3.1, by show (t.ct c g).2 ≤ 1048576; omega⟩
  · have h1 : ¬ outs t.ng (natL s) c g = true := fun h1 => by
      obtain ⟨k, hk, e1, e2⟩ := outs_nat h1
      have h4 := outs_in (ng := t.ng) (List.mem_range.2 (hi k hk))
      rw [e1, e2] at h4
      exact h2 h4
    rw [if_neg h1, if_neg h2]
    exact ⟨Int.le_refl _, Int.le_refl _⟩
theorem inc_mem {N : Nat} : ∀ {s : List Nat} {k : Nat}, Inc k N s → ∀ x, x ∈ s → x < N
  | [], _, _, _, h => by cases h
  | a :: s, _, h, x, hx => by
    rcases List.mem_cons.1 hx with e | hx
    · rw [e]; exact h.2.1
    · exact inc_mem h.2.2 x hx
/-- The law: whether all counts can be left out decides what Leave returns. -/
theorem leave_all {t : Tb} (ht : Okt t) : (okL t (natL (List.range (t.nc * t.ng))) = false ∧ t.leave = none) ∨ (okL t (natL (List.range (t.nc * t.ng))) = true ∧ ∃ s, t.leave = some (natL s) ∧ LvM t s) := by
  cases hl : t.leave with
  | none => exact .inl ⟨leave_none hl (range_inc _), rfl⟩
  | some l =>
    obtain ⟨s, e, hs⟩ := lvM_of hl
    exact .inr ⟨ok_all ht (inc_mem hs.inc) hs.ok, s, by rw [e], hs⟩
theorem wOff_outs (ng : Nat) (s : List Nat) : ∀ n, n ≤ s.length → wOff (fun j => s.getD j 0 / ng) (fun j => s.getD j 0 % ng) n = outs ng (natL (s.take n))
  | 0, _ => by rw [List.take_zero]; rfl
  | n + 1, h => by
    have e : s.take (n + 1) = s.take n ++ [s.getD n 0] := by
      rw [List.take_succ_eq_append_getElem (by omega), List.getD_eq_getElem?_getD, List.getElem?_eq_getElem (by omega)]; rfl
    have e2 : natL (s.take n ++ [s.getD n 0]) = natL (s.take n) ++ [((s.getD n 0 : Nat) : Int)] := by unfold natL; rw [List.map_append]; rfl
    rw [e, e2, outs_snoc, ← wOff_outs ng s n (by omega)]
    rfl
theorem without_set (va : Value) (s : List Nat) (nc ng : Nat) (w : World) (hl : RsIn w va s.length (cR ng s)) (hs : ∀ k, k ∈ s → k < nc * ng) (hng : 0 < ng) (h4 : nc ≤ 4) (g4 : ng ≤ 4) (hn : s.length ≤ 1000) :
    Calls Try.prog 24 #[va] w fun e w' => e = .returned (.agg (outL (outs ng (natL s))).toArray) ∧ Below w.heap.size w w' := by
  have hsl : ∃ a c, va = .slice a s.length c := by
    rcases hl with h | ⟨b, off, cap, rfl, _⟩
    · obtain ⟨a, c, rfl, h0⟩ := h
      exact ⟨a, c, by rw [h0]⟩
    · exact ⟨_, _, rfl⟩
  obtain ⟨a, c, rfl⟩ := hsl
  have h := without_any a s.length c (fun j => s.getD j 0 / ng) (fun j => s.getD j 0 % ng) w hl (fun j hj => by
    have hk : s.getD j 0 < nc * ng := by
      rw [List.getD_eq_getElem?_getD, List.getElem?_eq_getElem hj]
      exact hs _ (List.getElem_mem _)
    exact ⟨Nat.lt_of_lt_of_le ((Nat.div_lt_iff_lt_mul hng).2 hk) h4, Nat.lt_of_lt_of_le (Nat.mod_lt _ hng) g4⟩) (by omega)
  rw [wOff_outs ng s s.length (Nat.le_refl _), List.take_length] at h
  exact h
end Go.Proofs.Ytjaoflfophcibaa
