/- Plain: a person without some records; the smallest set. -/
import Derived.Test.YtagfcfojfjkmbaaN4
namespace Go.Proofs.Ytagfcfojfjkmbaa

/-- The records that are not left out, of the first k. -/
def Pers.kept (p : Pers) (out : Nat → Bool) (k : Nat) : List Rc := ((List.range k).filter fun j => !out j).map p.C
theorem kept_succ (p : Pers) (out : Nat → Bool) (k : Nat) : p.kept out (k + 1) = if out k = true then p.kept out k else p.kept out k ++ [p.C k] := by
  unfold Pers.kept
  rw [List.range_succ, List.filter_append, List.map_append]
  cases h : out k <;> simp [h]
theorem kept_length (p : Pers) (out : Nat → Bool) (k : Nat) : (p.kept out k).length ≤ k := by
  unfold Pers.kept
  rw [List.length_map]
  have := List.length_filter_le (fun j => !out j) (List.range k)
  simpa using this
theorem kept_mem (p : Pers) (out : Nat → Bool) (k : Nat) (r : Rc) : r ∈ p.kept out k ↔ ∃ j, j < k ∧ out j = false ∧ p.C j = r := by
  unfold Pers.kept
  simp only [List.mem_map, List.mem_filter, List.mem_range, Bool.not_eq_true', and_assoc]
/-- x is p without some records. -/
def Pers.WithoutOf (x p : Pers) (out : Nat → Bool) : Prop := x.lo = p.lo ∧ x.hi = p.hi ∧ x.nr = p.nr ∧ x.R = p.R ∧ x.nc = (p.kept out p.nc).length ∧ ∀ j, j < x.nc → x.C j = (p.kept out p.nc).getD j ⟨0, 0, 0⟩
theorem WithoutOf.mem {x p : Pers} {out : Nat → Bool} (h : x.WithoutOf p out) (P : Rc → Prop) : (∀ j, j < x.nc → P (x.C j)) ↔ ∀ j, j < p.nc → out j = true ∨ P (p.C j) := by
  obtain ⟨_, _, _, _, h5, h6⟩ := h
  have e1 : (∀ j, j < x.nc → P (x.C j)) ↔ ∀ r ∈ p.kept out p.nc, P r := by
    constructor
    · intro ha r hr
      obtain ⟨j, hj, rfl⟩ := List.getElem_of_mem hr
      have := ha j (by omega)
      rw [h6 j (by omega)] at this
      simpa [hj] using this
    · intro ha j hj
      rw [h6 j hj]
      have hj' : j < (p.kept out p.nc).length := by omega
      have := ha _ (List.getElem_mem hj')
      simpa [hj'] using this
  rw [e1]
  constructor
  · intro ha j hj
    cases ho : out j
    · exact .inr (ha _ ((kept_mem _ _ _ _).2 ⟨j, hj, ho, rfl⟩))
    · exact .inl rfl
  · intro ha r hr
    obtain ⟨j, hj, ho, rfl⟩ := (kept_mem _ _ _ _).1 hr
    rcases ha j hj with h | h
    · rw [ho] at h; cases h
    · exact h
theorem without_fault {x p : Pers} {out : Nat → Bool} (h : x.WithoutOf p out) (hp : p.fault = 0) : x.fault = 0 := by
  obtain ⟨n4, n8, n0, l1, l2, l3, l4, l5, okR, okC⟩ := Pers.ok_facts hp
  have hm := (WithoutOf.mem h (fun r => r.ok p.nr = true)).2 (fun j hj => .inr (okC j hj))
  obtain ⟨h1, h2, h3, h4, h5, h6⟩ := h
  have hl := kept_length p out p.nc
  unfold Pers.fault errOf
  rw [if_neg (by omega), if_pos]
  simp only [Pers.okAll, allB, inB, Bool.and_eq_true, List.all_eq_true, List.mem_range, decide_eq_true_eq, Bool.not_eq_true', beq_eq_false_iff_ne]
  rw [h1, h2, h3, h4]
  exact ⟨⟨⟨⟨⟨⟨l1, l2⟩, l3, l4⟩, l5⟩, by omega⟩, okR⟩, hm⟩
def Pers.okRc (p : Pers) (b : Int) (r : Rc) : Bool := decide (b ≤ r.day) && decide ((r.day - b) / 365 ≤ 120) && agesF (p.R r.rule.toNat).f (p.R r.rule.toNat).b (p.R r.rule.toNat).m (p.R r.rule.toNat).e r.num 126 ((r.day - b) / 365).toNat
theorem okB_rc (p : Pers) (j : Nat) (b : Int) : p.okB j b = p.okRc b (p.C j) := rfl
theorem without_born {x p : Pers} {out : List Int} (h : x.WithoutOf p (fun j => out.contains (j : Int))) (hp : p.fault = 0) : x.born ≠ [] ↔ p.okOut out = true := by
  have hx := without_fault h hp
  obtain ⟨b1, b2⟩ := born_has hx
  rw [b1.ne_nil, okOut_iff hp]
  have hm := fun b => WithoutOf.mem h (fun r => p.okRc b r = true)
  obtain ⟨h1, h2, h3, h4, h5, h6⟩ := h
  have hrc : ∀ b r, x.okRc b r = p.okRc b r := fun b r => by unfold Pers.okRc; rw [h4]
  constructor
  · rintro ⟨n, hn⟩
    obtain ⟨a, b, c⟩ := (b2 n).1 hn
    refine ⟨n, by omega, by omega, fun j hj => ?_⟩
    have := (hm n).1 (fun j hj => by rw [← hrc, ← okB_rc]; exact c j hj) j hj
    rw [okB_rc]
    exact this.imp (fun h => by simpa using h) id
  · rintro ⟨n, a, b, c⟩
    refine ⟨n, (b2 n).2 ⟨by omega, by omega, fun j hj => ?_⟩⟩
    rw [okB_rc, hrc]
    exact (hm n).2 (fun j hj => (c j hj).imp (fun h => by simpa using h) id) j hj

/-- Whether a list is shorter than another one, or as long and smaller. -/
def lltI : List Int → List Int → Bool
  | a :: x, b :: y => if a = b then lltI x y else decide (a < b)
  | _, _ => false
def lessB (a b : List Int) : Bool := if a.length = b.length then lltI a b else decide (a.length < b.length)
theorem lltI_cast : ∀ {a b : List Nat}, lltI (castL a) (castL b) = true → llt a b
  | [], _, h => by cases h
  | _ :: _, [], h => by cases h
  | a :: x, b :: y, h => by
    rw [castL_cons, castL_cons, lltI] at h
    split at h
    · rename_i e
      exact .inr ⟨by omega, lltI_cast h⟩
    · have := of_decide_eq_true h
      exact .inl (by omega)
theorem lltI_of : ∀ {a b : List Nat}, llt a b → lltI (castL a) (castL b) = true
  | [], _, h => by cases h
  | _ :: _, [], h => by cases h
  | a :: x, b :: y, h => by
    rw [castL_cons, castL_cons, lltI]
    rcases h with h | ⟨rfl, h⟩
    · rw [if_neg (by omega)]; exact decide_eq_true (by omega)
    · rw [if_pos rfl]; exact lltI_of h
theorem lessB_iff (a b : List Nat) : lessB (castL a) (castL b) = true ↔ lessN a b := by
  unfold lessB lessN
  rw [castL_length, castL_length]
  by_cases h : a.length = b.length
  · rw [if_pos h]
    exact ⟨fun h' => .inr ⟨h, lltI_cast h'⟩, fun h' => by rcases h' with h' | ⟨_, h'⟩; omega; exact lltI_of h'⟩
  · rw [if_neg h, decide_eq_true_eq]
    exact ⟨.inl, fun h' => by rcases h' with h' | ⟨h', _⟩; exact h'; omega⟩

/-- The smallest set is empty if and only if nothing contradicts. -/
theorem leave_nil {p : Pers} (h : p.fault = 0) : p.leave = [] ↔ p.born ≠ [] := by
  obtain ⟨ks, e, ha, ho, hm⟩ := leave_min h
  have hb : p.born ≠ [] ↔ p.okOut [] = true := by
    obtain ⟨b1, b2⟩ := born_has h
    rw [b1.ne_nil, okOut_iff h]
    exact ⟨fun ⟨n, hn⟩ => by obtain ⟨a, b, c⟩ := (b2 n).1 hn; exact ⟨n, a, b, fun j hj => .inr (c j hj)⟩, fun ⟨n, a, b, c⟩ => ⟨n, (b2 n).2 ⟨a, b, fun j hj => (c j hj).resolve_left (by simp)⟩⟩⟩
  rw [e, hb]
  constructor
  · intro hk
    rw [hk] at ho; exact ho
  · intro hk
    have := hm [] trivial hk
    cases ks with
    | nil => rfl
    | cons k ks => exact absurd (.inl (by simp)) this
theorem leave_ok {p : Pers} (h : p.fault = 0) : p.okOut p.leave = true := by
  obtain ⟨ks, e, ha, ho, hm⟩ := leave_min h
  rw [e]; exact ho
theorem leave_less {p : Pers} (h : p.fault = 0) {t : List Nat} (ht : Asc p.nc 0 t) (ho : p.okOut (castL t) = true) : lessB (castL t) p.leave = false := by
  obtain ⟨ks, e, ha, _, hm⟩ := leave_min h
  rw [e, ← Bool.not_eq_true, lessB_iff]
  exact hm t ht ho
end Go.Proofs.Ytagfcfojfjkmbaa
