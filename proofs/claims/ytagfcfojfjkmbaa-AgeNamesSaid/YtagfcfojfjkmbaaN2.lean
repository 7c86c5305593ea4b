/- Plain: the smallest set that Leave finds. -/
import Derived.Test.YtagfcfojfjkmbaaN1
namespace Go.Proofs.Ytagfcfojfjkmbaa

/-- Ascending indices, from some on. -/
def Asc (nc : Nat) : Nat → List Nat → Prop
  | _, [] => True
  | next, k :: ks => next ≤ k ∧ k < nc ∧ Asc nc (k + 1) ks
def llt : List Nat → List Nat → Prop
  | a :: x, b :: y => a < b ∨ (a = b ∧ llt x y)
  | _, _ => False
def castL (ks : List Nat) : List Int := ks.map Int.ofNat
theorem castL_cons (k : Nat) (ks : List Nat) : castL (k :: ks) = (k : Int) :: castL ks := rfl
theorem castL_mem (k : Nat) (ks : List Nat) : (k : Int) ∈ castL ks ↔ k ∈ ks := by
  unfold castL
  rw [List.mem_map]
  constructor
  · rintro ⟨a, h, e⟩
    obtain rfl : a = k := Int.ofNat.inj e
    exact h
  · exact fun h => ⟨k, h, rfl⟩
theorem castL_length (ks : List Nat) : (castL ks).length = ks.length := by simp [castL]

theorem lvL_none {step : List Int → Nat → Option (List Int)} {nc : Nat} {out : List Int} {c : Nat} (hc : c ≤ nc) (h : lvL step nc out c = none) : ∀ i, nc - c ≤ i → i < nc → step (out ++ [(i : Int)]) (i + 1) = none := by
  induction c with
  | zero => intro i h1 h2; omega
  | succ c ih =>
    rw [lvL] at h
    intro i h1 h2
    cases hs : step (out ++ [((nc - (c + 1) : Nat) : Int)]) (nc - (c + 1) + 1) with
    | some l => rw [hs] at h; cases h
    | none =>
      rw [hs] at h
      rcases Nat.eq_or_lt_of_le h1 with rfl | hlt
      · exact hs
      · exact ih (by omega) h i (by omega) h2
theorem lvL_some {step : List Int → Nat → Option (List Int)} {nc : Nat} {out l : List Int} {c : Nat} (hc : c ≤ nc) (h : lvL step nc out c = some l) :
    ∃ i, nc - c ≤ i ∧ i < nc ∧ step (out ++ [(i : Int)]) (i + 1) = some l ∧ ∀ i', nc - c ≤ i' → i' < i → step (out ++ [(i' : Int)]) (i' + 1) = none := by
  induction c with
  | zero => rw [lvL] at h; cases h
  | succ c ih =>
    rw [lvL] at h
    cases hs : step (out ++ [((nc - (c + 1) : Nat) : Int)]) (nc - (c + 1) + 1) with
    | some l' =>
      rw [hs] at h
      refine ⟨nc - (c + 1), Nat.le_refl _, by omega, by rw [hs]; exact h, fun i' h1 h2 => ?_⟩
      omega
    | none =>
      rw [hs] at h
      obtain ⟨i, h1, h2, h3, h4⟩ := ih (by omega) h
      refine ⟨i, by omega, h2, h3, fun i' h5 h6 => ?_⟩
      rcases Nat.eq_or_lt_of_le h5 with rfl | hlt
      · exact hs
      · exact h4 i' (by omega) h6

theorem lvF_none (nc : Nat) (ok : List Int → Bool) (m : Nat) : ∀ (out : List Int) (next : Nat), lvF nc ok m out next = none → ∀ ks, ks.length = m → Asc nc next ks → ok (out ++ castL ks) = false := by
  induction m with
  | zero =>
    intro out next h ks hl _
    rw [List.length_eq_zero_iff] at hl
    subst hl
    rw [lvF] at h
    simp only [castL, List.map_nil, List.append_nil]
    cases ho : ok out
    · rfl
    · rw [ho] at h; cases h
  | succ m ih =>
    intro out next h ks hl ha
    rw [lvF] at h
    match ks, hl, ha with
    | k :: ks, hl, ⟨h1, h2, h3⟩ =>
      have := lvL_none (by omega) h k (by omega) h2
      have := ih _ _ this ks (by simpa using hl) h3
      rw [castL_cons]
      simpa using this
theorem lvF_some (nc : Nat) (ok : List Int → Bool) (m : Nat) : ∀ (out : List Int) (next : Nat) (l : List Int), lvF nc ok m out next = some l → ∃ ks, l = out ++ castL ks ∧ ks.length = m ∧ Asc nc next ks ∧ ok l = true ∧
    ∀ ks', ks'.length = m → Asc nc next ks' → ok (out ++ castL ks') = true → ¬ llt ks' ks := by
  induction m with
  | zero =>
    intro out next l h
    rw [lvF] at h
    cases ho : ok out
    · rw [ho] at h; cases h
    · rw [ho] at h
      obtain rfl : out = l := by simpa using h
      exact ⟨[], by simp [castL], rfl, trivial, ho, fun ks' _ _ _ => by cases ks' <;> simp [llt]⟩
  | succ m ih =>
    intro out next l h
    rw [lvF] at h
    by_cases hn : next ≤ nc
    · obtain ⟨i, h1, h2, h3, h4⟩ := lvL_some (by omega) h
      obtain ⟨ks, e, hl, ha, hok, hmin⟩ := ih _ _ _ h3
      refine ⟨i :: ks, by rw [e, castL_cons]; simp, by simp [hl], ⟨by omega, h2, ha⟩, hok, fun ks' hl' ha' ho' => ?_⟩
      match ks', hl', ha' with
      | k :: ks', hl', ⟨a1, a2, a3⟩ =>
        rw [castL_cons] at ho'
        have ho2 : ok (out ++ [(k : Int)] ++ castL ks') = true := by simpa using ho'
        rintro (hlt | ⟨rfl, hlt⟩)
        · have := lvF_none nc ok m _ _ (h4 k (by omega) hlt) ks' (by simpa using hl') a3
          rw [this] at ho2
          cases ho2
        · exact hmin ks' (by simpa using hl') a3 ho2 hlt
    · rw [show nc - next = 0 by omega, lvL] at h
      cases h

theorem lvS_some {f : Nat → Option (List Int)} {n k : Nat} {l : List Int} (h : lvS f n k = some l) : ∃ m, k ≤ m ∧ m < k + n ∧ f m = some l ∧ ∀ m', k ≤ m' → m' < m → f m' = none := by
  induction n generalizing k with
  | zero => rw [lvS] at h; cases h
  | succ n ih =>
    rw [lvS] at h
    cases hf : f k with
    | some l' =>
      rw [hf] at h
      exact ⟨k, Nat.le_refl _, by omega, by rw [hf]; exact h, fun m' _ _ => by omega⟩
    | none =>
      rw [hf] at h
      obtain ⟨m, h1, h2, h3, h4⟩ := ih h
      refine ⟨m, by omega, by omega, h3, fun m' h5 h6 => ?_⟩
      rcases Nat.eq_or_lt_of_le h5 with rfl | hlt
      · exact hf
      · exact h4 m' hlt h6
theorem lvS_none {f : Nat → Option (List Int)} {n k : Nat} (h : lvS f n k = none) : ∀ m, k ≤ m → m < k + n → f m = none := by
  induction n generalizing k with
  | zero => intro m h1 h2; omega
  | succ n ih =>
    rw [lvS] at h
    cases hf : f k with
    | some l' => rw [hf] at h; cases h
    | none =>
      rw [hf] at h
      intro m h1 h2
      rcases Nat.eq_or_lt_of_le h1 with rfl | hlt
      · exact hf
      · exact ih h m hlt (by omega)

/-- The indices below nc, from next on. -/
def fromTo (nc : Nat) (next : Nat) (P : Nat → Bool) : List Nat := ((List.range nc).filter fun k => decide (next ≤ k) && P k)
theorem asc_iff {nc : Nat} : ∀ {next : Nat} {ks : List Nat}, Asc nc next ks ↔ ks.Pairwise (· < ·) ∧ ∀ k ∈ ks, next ≤ k ∧ k < nc := by
  intro next ks
  induction ks generalizing next with
  | nil => simp [Asc]
  | cons k ks ih =>
    rw [Asc, ih, List.pairwise_cons]
    constructor
    · rintro ⟨h1, h2, h3, h4⟩
      refine ⟨⟨fun a ha => by have := h4 a ha; omega, h3⟩, fun a ha => ?_⟩
      rcases List.mem_cons.1 ha with rfl | ha
      · exact ⟨h1, h2⟩
      · have := h4 a ha; omega
    · rintro ⟨⟨h1, h2⟩, h3⟩
      exact ⟨(h3 k List.mem_cons_self).1, (h3 k List.mem_cons_self).2, h2, fun a ha => ⟨h1 a ha, (h3 a (List.mem_cons_of_mem _ ha)).2⟩⟩
theorem asc_filter (nc : Nat) (P : Nat → Bool) : Asc nc 0 ((List.range nc).filter P) := by
  rw [asc_iff]
  refine ⟨List.Pairwise.filter _ List.pairwise_lt_range, fun k hk => ⟨Nat.zero_le _, ?_⟩⟩
  have := (List.mem_filter.1 hk).1
  simpa using this

def lessN (a b : List Nat) : Prop := a.length < b.length ∨ (a.length = b.length ∧ llt a b)
/-- The records that do not allow a day. -/
def Pers.denies (p : Pers) (b : Int) : List Nat := (List.range p.nc).filter fun j => !p.okB j b
theorem okOut_denies {p : Pers} (h : p.fault = 0) {b : Int} (h1 : p.lo ≤ b) (h2 : b ≤ p.hi) : p.okOut (castL (p.denies b)) = true := by
  rw [okOut_iff h]
  refine ⟨b, h1, h2, fun j hj => ?_⟩
  rw [castL_mem, Pers.denies, List.mem_filter, List.mem_range]
  cases p.okB j b
  · exact .inl ⟨hj, rfl⟩
  · exact .inr rfl
theorem leave_min {p : Pers} (h : p.fault = 0) : ∃ ks, p.leave = castL ks ∧ Asc p.nc 0 ks ∧ p.okOut (castL ks) = true ∧ ∀ ks', Asc p.nc 0 ks' → p.okOut (castL ks') = true → ¬ lessN ks' ks := by
  have hsz : ∀ ks, Asc p.nc 0 ks → ks.length ≤ p.nc := fun ks ha => by
    rw [asc_iff] at ha
    have hnd : ks.Nodup := ha.1.imp (fun h => Nat.ne_of_lt h)
    have := List.Nodup.length_le_of_subset hnd (l₂ := List.range p.nc) (fun k hk => by simpa using (ha.2 k hk).2)
    simpa using this
  unfold Pers.leave
  rw [if_pos h]
  cases hs : lvS (fun m => lvF p.nc p.okOut m [] 0) (p.nc + 1) 0 with
  | none =>
    have h1 := lvS_none hs (p.denies p.lo).length (Nat.zero_le _) (by have := hsz _ (asc_filter p.nc fun j => !p.okB j p.lo); unfold Pers.denies; omega)
    have := lvF_none _ _ _ _ _ h1 _ rfl (asc_filter _ _)
    rw [List.nil_append] at this
    have h2 := okOut_denies h (Int.le_refl p.lo) (Pers.ordered h)
    rw [h2] at this
    cases this
  | some l =>
    obtain ⟨m, _, h2, h3, h4⟩ := lvS_some hs
    obtain ⟨ks, e, hl, ha, hok, hmin⟩ := lvF_some _ _ _ _ _ _ h3
    rw [List.nil_append] at e
    subst e
    refine ⟨ks, rfl, ha, hok, fun ks' ha' ho' => ?_⟩
    rintro (hlt | ⟨he, hlt⟩)
    · have := lvF_none _ _ _ _ _ (h4 ks'.length (Nat.zero_le _) (by omega)) ks' rfl ha'
      rw [List.nil_append, ho'] at this
      cases this
    · exact hmin ks' (by omega) ha' (by rw [List.nil_append]; exact ho') hlt
end Go.Proofs.Ytagfcfojfjkmbaa
