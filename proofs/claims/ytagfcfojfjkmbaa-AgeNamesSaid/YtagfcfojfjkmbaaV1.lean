/- Drawn regions whose order is forced for a while. -/
import Derived.Test.YtagfcfojfjkmbaaL0
import Derived.OrdersHeld
import Derived.Deep.RegionHeld3
namespace Go.Proofs.Ytagfcfojfjkmbaa
open Go

/-- For what is shown once and used at many places: T is found at the first of them. -/
theorem join {T G : Prop} (h : T → G) (t : T) : G := h t

section
variable {P : Program} {ops : Array Oper} {Q : Exit → Act → World → Prop} {md : Region.Mode}

theorem wp_then {o : Oper} {a : Act} {w : World} {K N : Act → World → Prop} (hh : o.wp P a w K (Exit.then N Q)) : o.wp P a w K Q := by
  unfold Oper.wp at *
  generalize (execOp a.eval o).run P w = r at *
  cases r with
  | ok n w' =>
    cases n <;> simp only [Oper.upon] at hh ⊢ <;>
      first
        | exact hh
        | exact Calls.mono hh (fun e w'' he => by cases e <;> exact he)
  | halt x w' => cases x <;> simp only [Oper.upon] at hh ⊢ <;> exact hh

/-- The first t of N operations have come up. -/
def preB (t N : Nat) : Array Bool := ((List.range N).map fun i => decide (i < t)).toArray
theorem preB_zero (N : Nat) : Array.replicate N false = preB 0 N := by
  apply Array.ext
  · simp [preB]
  · intro i h1 h2; simp [preB]
theorem preB_set (t N : Nat) : (preB t N).setIfInBounds t true = preB (t + 1) N := by
  apply Array.ext
  · simp [preB]
  · intro i h1 h2
    simp only [preB, List.setIfInBounds_toArray, List.getElem_toArray, List.getElem_set, List.getElem_map, List.getElem_range]
    split
    · rename_i e; subst e; simp
    · rename_i e; rw [Bool.eq_iff_iff]; simp; omega
theorem preB_get (t N i : Nat) (d : Bool) (h : i < N) : (preB t N).getD i d = decide (i < t) := by
  simp [preB, Array.getD, h]
theorem preB_out (t N i : Nat) (d : Bool) (h : ¬ i < N) : (preB t N).getD i d = d := by
  simp [preB, Array.getD, h]
/-- The operations that have to come up before o lie below this number. -/
def afterMax (md : Region.Mode) (o : Oper) : Nat := o.after.toList.foldr (fun e m => if Region.binds md e = true then max (e.on + 1) m else m) 0
theorem afterMax_le (md : Region.Mode) (o : Oper) (t : Nat) : (o.after.all fun e => !Region.binds md e || decide (e.on < t)) = true ↔ afterMax md o ≤ t := by
  unfold afterMax
  rw [← Array.all_toList]
  induction o.after.toList with
  | nil => simp
  | cons e l ih =>
    rw [List.all_cons, Bool.and_eq_true, ih, List.foldr_cons]
    cases hb : Region.binds md e
    · simp
    · simp; omega
/-- From s to e the operations come up one by one: l has those from number j on. -/
def spanB (md : Region.Mode) : List Oper → Nat → Nat → Nat → Bool
  | [], _, _, _ => true
  | o :: l, j, s, e => (decide (j < s) || ((decide (e ≤ j) || decide (afterMax md o ≤ j)) && (j == s || decide (min j e ≤ afterMax md o)))) && spanB md l (j + 1) s e
theorem spanB_at (md : Region.Mode) : ∀ (l : List Oper) (j s e : Nat), spanB md l j s e = true → ∀ (i : Nat) (o : Oper), l[i]? = some o → s ≤ j + i →
    (j + i < e → afterMax md o ≤ j + i) ∧ (j + i = s ∨ min (j + i) e ≤ afterMax md o) := by
  intro l
  induction l with
  | nil => intro j s e _ i o h; simp at h
  | cons o l ih =>
    intro j s e h i o' hi hs
    simp only [spanB, Bool.and_eq_true, Bool.or_eq_true, decide_eq_true_eq, beq_iff_eq] at h
    obtain ⟨h1, h2⟩ := h
    cases i with
    | zero =>
      simp at hi
      subst hi
      rcases h1 with h1 | ⟨h1, h3⟩
      · omega
      · simp only [Nat.add_zero]
        exact ⟨fun hj => by rcases h1 with h1 | h1 <;> omega, h3⟩
    | succ i =>
      have := ih (j + 1) s e h2 i o' (by simpa using hi) (by omega)
      rw [show j + (i + 1) = j + 1 + i from by omega]
      exact this
theorem filter_single (t : Nat) : ∀ N, t < N → (List.range N).filter (fun i => i == t) = [t] := by
  have h0 : ∀ N, N ≤ t → (List.range N).filter (fun i => i == t) = [] := fun N hN => by
    rw [List.filter_eq_nil_iff]
    intro a ha
    rw [List.mem_range] at ha
    simp; omega
  intro N
  induction N with
  | zero => intro h; omega
  | succ N ih =>
    intro h
    rw [List.range_succ, List.filter_append]
    by_cases hN : t < N
    · rw [ih hN]; simp; omega
    · rw [h0 N (by omega)]
      obtain rfl : t = N := by omega
      simp
theorem ready_pre {s e t : Nat} (hs : spanB md ops.toList 0 s e = true) (h1 : s ≤ t) (h2 : t < e) (h3 : e ≤ ops.size) : Region.ready md ops (preB t ops.size) = [t] := by
  unfold Region.ready
  rw [← filter_single t ops.size (by omega)]
  apply List.filter_congr
  intro i hi
  rw [List.mem_range] at hi
  rw [preB_get _ _ _ _ hi, Bool.eq_iff_iff]
  have ho : ops[i]? = some ops[i] := Array.getElem?_eq_getElem hi
  rw [ho]
  simp only [Option.map_some, Option.getD_some, Bool.and_eq_true, Bool.not_eq_true', decide_eq_false_iff_not, beq_iff_eq]
  have he : (ops[i].after.all fun e => !Region.binds md e || (preB t ops.size).getD e.on false) = (ops[i].after.all fun e => !Region.binds md e || decide (e.on < t)) := by
    congr 1
    funext e
    by_cases hN : e.on < ops.size
    · rw [preB_get _ _ _ _ hN]
    · rw [preB_out _ _ _ _ hN]
      have : decide (e.on < t) = false := decide_eq_false (by omega)
      rw [this]
  rw [he, afterMax_le]
  constructor
  · rintro ⟨ha, hb⟩
    have := spanB_at md ops.toList 0 s e hs i ops[i] (by simp [hi]) (by omega)
    simp only [Nat.zero_add] at this
    omega
  · rintro rfl
    have := spanB_at md ops.toList 0 s e hs i ops[i] (by simp [hi]) (by omega)
    simp only [Nat.zero_add] at this
    exact ⟨by omega, this.1 h2⟩
theorem wpAny_forced {s0 e fuel : Nat} (hs : spanB md ops.toList 0 s0 e = true) (he : e ≤ ops.size) : ∀ (n s : Nat) {a : Act} {w : World}, s0 ≤ s → s + n = e →
    wpList P ops (Exit.then (wpAny P md ops Q fuel (preB e ops.size)) Q) ((ops.toList.drop s).take n) a w → wpAny P md ops Q (n + fuel) (preB s ops.size) a w := by
  intro n
  induction n with
  | zero => intro s a w _ hn h; obtain rfl : s = e := by omega
            rw [Nat.zero_add]; exact h
  | succ n ih =>
    intro s a w h0 hn h
    have h2 : s < ops.size := by omega
    have hd : ops.toList.drop s = ops[s] :: ops.toList.drop (s + 1) := by rw [List.drop_eq_getElem_cons (by simpa using h2)]; simp
    rw [hd, List.take_succ_cons, wpList] at h
    rw [show n + 1 + fuel = (n + fuel) + 1 from by omega]
    refine wpAny_all (ready_pre hs h0 (by omega) he) (by simp) fun i hi => ?_
    rw [List.mem_singleton] at hi
    subst hi
    rw [preB_set]
    unfold wpOp
    simp only [Array.getElem?_eq_getElem h2]
    split
    · rename_i hw
      rw [if_pos hw] at h
      rcases h with h | h
      · exact .inl (Oper.wp_mono (fun a w hk => ih _ (by omega) (by omega) hk) (wp_then h))
      · exact .inr h
    · rename_i hw
      rw [if_neg hw] at h
      exact ih _ (by omega) (by omega) h
/-- From number s on n operations come up one by one; then fuel more. N: how many there are. -/
theorem wpAny_seg (s n fuel N : Nat) {F : Nat} {a : Act} {w : World} (hN : ops.size = N) (hF : F = n + fuel) (hf : spanB md ops.toList 0 s (s + n) = true) (hle : s + n ≤ N)
    (h : wpList P ops (Exit.then (wpAny P md ops Q fuel (preB (s + n) N)) Q) ((ops.toList.drop s).take n) a w) : wpAny P md ops Q F (preB s N) a w := by
  subst hF hN; exact wpAny_forced hf hle n s (Nat.le_refl _) rfl h
theorem ready_all (N : Nat) (h : ops.size = N) : Region.ready md ops (preB N N) = [] := by
  subst h
  unfold Region.ready
  rw [List.filter_eq_nil_iff]
  intro i hi
  rw [List.mem_range] at hi
  rw [preB_get _ _ _ _ hi]
  simp [hi]
/-- The last ones. -/
theorem wpAny_end (s n N : Nat) {F : Nat} {a : Act} {w : World} (hN : ops.size = N) (hF : F = n) (hf : spanB md ops.toList 0 s (s + n) = true) (hle : s + n = N)
    (h : wpList P ops Q ((ops.toList.drop s).take n) a w) : wpAny P md ops Q F (preB s N) a w := by
  refine wpAny_seg s n 0 N hN (by omega) hf (by omega) ?_
  have hQ : Exit.then (wpAny P md ops Q 0 (preB (s + n) N)) Q = Q := by
    funext e a w
    cases e <;> simp [Exit.then, wpAny, hle, ready_all N hN]
  rw [hQ]; exact h
/-- A region that draws whose order is forced from its beginning to its end. -/
theorem wp_region_forced {id : Nat} {a : Act} {w : World} (hm : P.follows .mixedOrders = true) (hf : spanB .any ops.toList 0 0 ops.size = true)
    (h : wpList P ops Q ops.toList a w.drew) : (Code.region id ops true).wp P Q a w := by
  refine wp_region_any hm ?_
  rw [preB_zero]
  refine wpAny_end 0 ops.size ops.size rfl rfl (by rw [Nat.zero_add]; exact hf) (by omega) ?_
  rw [List.drop_zero, List.take_of_length_le (by simp)]
  exact h
theorem wp_region_pre {id : Nat} {a : Act} {w : World} (N : Nat) (hm : P.follows .mixedOrders = true) (hN : ops.size = N) (h : wpAny P .any ops Q N (preB 0 N) a w.drew) : (Code.region id ops true).wp P Q a w := by
  subst hN; rw [← preB_zero] at h; exact wp_region_any hm h
theorem wp_region_heldL {S : World → Prop} {id : Nat} {a : Act} {w : World} (N : Nat) (L : Array Bool) (hm : P.follows .mixedOrders = true) (hN : ops.size = N) (hL : Array.replicate ops.size false = L) (h : wpAnyH P .any ops Q S N L a w.drew) : (Code.region id ops true).wp P Q a w := by
  subst hN hL; exact wp_region_held hm h
/-- Two operations come up in either order; the first one only reads, what S says; the second one keeps S. -/
theorem wpAny_pair (i j : Nat) {oi oj : Oper} {v : Value} {S : World → Prop} {fuel : Nat} {listed : Array Bool} (L : Array Bool) {a : Act} {w : World}
    (hi : ops[i]? = some oi) (hj : ops[j]? = some oj) (hsel : Region.noSelect ops = true) (hap : oi.apart ops oj = true)
    (hr : Region.ready md ops listed = [i, j]) (hri : Region.ready md ops (listed.setIfInBounds i true) = [j]) (hrj : Region.ready md ops (listed.setIfInBounds j true) = [i])
    (hL1 : (listed.setIfInBounds i true).setIfInBounds j true = L) (hL2 : (listed.setIfInBounds j true).setIfInBounds i true = L)
    (hQ : ∀ c a w, Q (.panic c) (a.put oi.dst v) w → Q (.panic c) a w)
    (hy : YieldsIf P ops S oi v a) (hS : S w)
    (h : ∀ K' : Act → World → Prop, Shut (∀ a w, S w → (S w → wpAny P md ops Q fuel L a w) → K' a w) → if Region.wanted oj (yielded ops (a.put oi.dst v).tmps) = true then Oper.wp P oj (a.put oi.dst v) w K' Q else K' ((a.put oi.dst v).put oj.dst undef) w) :
    wpAny P md ops Q (fuel + 2) listed a w := by
  have hK : wpOp P ops Q j (fun a' w' => S w' ∧ wpAny P md ops Q fuel L a' w') (a.put oi.dst v) w :=
    wpOp_step hj (fun K' hK => h K' (fun a w hS hW => hK a w ⟨hS, hW hS⟩))
  refine wpAny_all hr (by simp) fun k hk => ?_
  simp only [List.mem_cons, List.not_mem_nil, or_false] at hk
  rcases hk with rfl | rfl
  · refine hy.wpOp hi hS ?_
    refine wpAny_all hri (by simp) fun q hq => ?_
    rw [List.mem_singleton] at hq
    subst hq
    rw [hL1]
    exact wpOp_mono (fun a w hh => hh.2) hK
  · have hs := Region.noSelect_spec hsel
    refine wpOp_mono (fun a' w' hh => ?_) (wpOp_putIf hj hap (fun cs b => hs _ _ cs b hi) (fun cs b => hs _ _ cs b hj) hQ hy hK)
    obtain ⟨h1, h2, h3⟩ := hh
    refine wpAny_all hrj (by simp) fun q hq => ?_
    rw [List.mem_singleton] at hq
    subst hq
    rw [hL2]
    exact h1.wpOp hi h2 h3
end
end Go.Proofs.Ytagfcfojfjkmbaa
