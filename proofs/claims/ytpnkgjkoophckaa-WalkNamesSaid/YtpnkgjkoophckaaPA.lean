/- Walk, plain: divisions of sets into parts; what the best one is; the reference's numbers. | Walk, plain: how long ways and tours are; tours of more places; tours of two sets. | Walk, plain: the smallest limit; limits for many; single places. | Walk, plain: parts of divisions; who is reached; one plan. -/
import Derived.Test.YtpnkgjkoophckaaYA
import Derived.Test.YtpnkgjkoophckaaZC
import Derived.Test.YtpnkgjkoophckaaYE
import Derived.Test.YtpnkgjkoophckaaYN
namespace Go.Proofs.Ytpnkgjkoophckaa

theorem sub_iff {s p : Nat} : p &&& s = p ↔ ∀ i, p.testBit i = true → s.testBit i = true := by
  constructor
  · intro h i hi
    rw [← h, Nat.testBit_and, Bool.and_eq_true] at hi
    exact hi.2
  · intro h
    refine Nat.eq_of_testBit_eq fun i => ?_
    rw [Nat.testBit_and]
    cases hp : p.testBit i
    · rfl
    · rw [h i hp]; rfl
theorem sub_bit {s p : Nat} (hs : s < 256) (h : p &&& s = p) (i : Nat) : (s - p).testBit i = (s.testBit i && !p.testBit i) := by
  have hp : p < 256 := by have := sub_le h; omega
  have e := sub_xor ⟨s, hs⟩ ⟨p, hp⟩ h
  simp only at e
  rw [e, Nat.testBit_xor]
  have := sub_iff.1 h i
  cases h1 : s.testBit i <;> cases h2 : p.testBit i <;> simp_all
/-- A set falls into so many parts. -/
inductive Dvs (ok : Nat → Bool) : Nat → Nat → Prop
  | nil : Dvs ok 0 0
  | cons {s p n : Nat} : p &&& s = p → 0 < p → ok p = true → Dvs ok (s - p) n → Dvs ok s (n + 1)
theorem Dvs.mono {ok ok' : Nat → Bool} {s n : Nat} (h : Dvs ok s n) (hk : ∀ p, p &&& s = p → ok p = true → ok' p = true) (hs : s < 256) : Dvs ok' s n := by
  induction h with
  | nil => exact .nil
  | @cons s p n h1 h2 h3 _ ih =>
    refine .cons h1 h2 (hk p h1 h3) (ih (fun q hq => hk q ?_) (by omega))
    rw [sub_iff] at hq ⊢
    intro i hi
    have := hq i hi
    rw [sub_bit hs h1, Bool.and_eq_true] at this
    exact this.1
/-- Each place is in one of the parts. -/
theorem Dvs.has {ok : Nat → Bool} {s n : Nat} (h : Dvs ok s n) : s < 256 → ∀ i, s.testBit i = true → ∃ p n', n = n' + 1 ∧ p &&& s = p ∧ p.testBit i = true ∧ ok p = true ∧ Dvs ok (s - p) n' := by
  induction h with
  | nil => intro _ i hi; simp at hi
  | @cons s p n h1 h2 h3 h4 ih =>
    intro hs i hi
    cases hpi : p.testBit i
    · obtain ⟨q, n', rfl, q1, q2, q3, q4⟩ := ih (by omega) i (by rw [sub_bit hs h1, hi, hpi]; rfl)
      have hq : q &&& s = q := by
        rw [sub_iff] at q1 ⊢
        intro j hj
        have := q1 j hj
        rw [sub_bit hs h1, Bool.and_eq_true] at this
        exact this.1
      refine ⟨q, n' + 1, rfl, hq, q2, q3, .cons ?_ h2 h3 (by rw [Nat.sub_right_comm]; exact q4)⟩
      rw [sub_iff]
      intro j hj
      rw [sub_bit hs hq, sub_iff.1 h1 j hj]
      cases hqj : q.testBit j
      · rfl
      · have := sub_iff.1 q1 j hqj
        rw [sub_bit hs h1, hj] at this
        simp at this
    · exact ⟨p, n, rfl, h1, hpi, h3, h4⟩
theorem Dvs.zero {ok : Nat → Bool} {n : Nat} (h : Dvs ok 0 n) : n = 0 := by
  cases h with
  | nil => rfl
  | cons h1 h2 => have := sub_le h1; omega
theorem Dvs.pos {ok : Nat → Bool} {s n : Nat} (h : Dvs ok s n) (hs : s ≠ 0) : 0 < n := by
  cases h with
  | nil => exact absurd rfl hs
  | cons => omega
/-- The parts of a division. -/
inductive Prt (ok : Nat → Bool) : Nat → List Nat → Prop
  | nil : Prt ok 0 []
  | snoc {s p : Nat} {l : List Nat} : p &&& s = p → 0 < p → ok p = true → Prt ok (s - p) l → Prt ok s (l ++ [p])
theorem Prt.dvs {ok : Nat → Bool} {s : Nat} {l : List Nat} (h : Prt ok s l) : Dvs ok s l.length := by
  induction h with
  | nil => exact .nil
  | snoc h1 h2 h3 _ ih => rw [List.length_append]; exact .cons h1 h2 h3 ih
/-- What is known of the best division of a set. -/
structure Spec (ok : Nat → Bool) (t : Nat) (l : List Nat) : Prop where
  none : l = [] → t ≠ 0 → ∀ n, ¬ Dvs ok t n
  some : l ≠ [] ∨ t = 0 → Prt ok t l
  few : ∀ n, Dvs ok t n → l.length ≤ n
theorem dvFold {ok : Nat → Bool} {s : Nat} {rec : Nat → List Nat} (hrec : ∀ p, p &&& s = p → 0 < p → Spec ok (s - p) (rec (s - p))) : ∀ (L : List Nat) (b : List Nat), (∀ p, p ∈ L → p &&& s = p ∧ 0 < p) → (b ≠ [] → Prt ok s b) →
    (L.foldl (dvStep ok s rec) b ≠ [] → Prt ok s (L.foldl (dvStep ok s rec) b)) ∧ (b ≠ [] → L.foldl (dvStep ok s rec) b ≠ [] ∧ (L.foldl (dvStep ok s rec) b).length ≤ b.length) ∧
    ∀ p, p ∈ L → noF s p = false → ok p = true → ∀ n, Dvs ok (s - p) n → L.foldl (dvStep ok s rec) b ≠ [] ∧ (L.foldl (dvStep ok s rec) b).length ≤ n + 1
  | [], b, _, hb => ⟨hb, fun h => ⟨h, Nat.le_refl _⟩, fun _ h => by cases h⟩
  | p :: L, b, hL, hb => by
    obtain ⟨hp1, hp2⟩ := hL p (.head _)
    have sp := hrec p hp1 hp2
    have key : (dvStep ok s rec b p ≠ [] → Prt ok s (dvStep ok s rec b p)) ∧ (b ≠ [] → dvStep ok s rec b p ≠ [] ∧ (dvStep ok s rec b p).length ≤ b.length) ∧ (noF s p = false → ok p = true → ∀ n, Dvs ok (s - p) n → dvStep ok s rec b p ≠ [] ∧ (dvStep ok s rec b p).length ≤ n + 1) := by
      unfold dvStep
      by_cases c1 : noF s p = true ∨ ok p = false
      · rw [if_pos c1]
        refine ⟨hb, fun h => ⟨h, Nat.le_refl _⟩, fun h1 h2 => ?_⟩
        rcases c1 with c1 | c1
        · rw [c1] at h1; cases h1
        · rw [c1] at h2; cases h2
      rw [if_neg c1]
      have hok : ok p = true := by
        cases h : ok p
        · exact absurd (.inr h) c1
        · rfl
      by_cases c2 : s ≠ p ∧ rec (s - p) = []
      · rw [if_pos c2]
        have hne : s - p ≠ 0 := by have := sub_le hp1; omega
        exact ⟨hb, fun h => ⟨h, Nat.le_refl _⟩, fun _ _ n hn => absurd hn (sp.none c2.2 hne n)⟩
      rw [if_neg c2]
      have hpr : Prt ok (s - p) (rec (s - p)) := by
        refine sp.some ?_
        by_cases e : s = p
        · exact .inr (by omega)
        · exact .inl (fun h => c2 ⟨e, h⟩)
      by_cases c3 : b = [] ∨ (rec (s - p)).length + 1 < b.length
      · rw [if_pos c3]
        refine ⟨fun _ => .snoc hp1 hp2 hok hpr, fun h => ⟨by simp, ?_⟩, fun _ _ n hn => ⟨by simp, ?_⟩⟩
        · rcases c3 with c3 | c3
          · exact absurd c3 h
          · rw [List.length_append]; simp only [List.length_cons, List.length_nil]; omega
        · have := sp.few n hn
          rw [List.length_append]; simp only [List.length_cons, List.length_nil]; omega
      · rw [if_neg c3]
        have hbn : b ≠ [] := fun h => c3 (.inl h)
        refine ⟨hb, fun h => ⟨h, Nat.le_refl _⟩, fun _ _ n hn => ⟨hbn, ?_⟩⟩
        have := sp.few n hn
        have : ¬ (rec (s - p)).length + 1 < b.length := fun h => c3 (.inr h)
        omega
    obtain ⟨k1, k2, k3⟩ := key
    obtain ⟨r1, r2, r3⟩ := dvFold hrec L (dvStep ok s rec b p) (fun q hq => hL q (.tail _ hq)) k1
    refine ⟨r1, fun h => ?_, fun q hq h1 h2 n hn => ?_⟩
    · obtain ⟨a1, a2⟩ := k2 h
      obtain ⟨b1, b2⟩ := r2 a1
      exact ⟨b1, by simp only [List.foldl_cons]; omega⟩
    · rcases List.mem_cons.1 hq with rfl | hq
      · obtain ⟨a1, a2⟩ := k3 h1 h2 n hn
        obtain ⟨b1, b2⟩ := r2 a1
        exact ⟨b1, by simp only [List.foldl_cons]; omega⟩
      · exact r3 q hq h1 h2 n hn
theorem dv_spec {ok : Nat → Bool} : ∀ (k s : Nat), s ≤ k → s < 256 → Spec ok s (dv ok s)
  | k, 0, _, _ => ⟨fun _ h => absurd rfl h, fun _ => .nil, fun n _ => Nat.zero_le n⟩
  | 0, s + 1, h, _ => by omega
  | k + 1, s + 1, hk, hs => by
    have hf := dvFold (ok := ok) (s := s + 1) (rec := dv ok) (fun p hp1 hp2 => dv_spec k _ (by omega) (by omega)) (subs (s + 1)) [] (fun p hp => subsF_mem _ _ _ p (Nat.and_self _) hp) (fun h => absurd rfl h)
    rw [← dv_eq] at hf
    obtain ⟨f1, _, f3⟩ := hf
    have main : ∀ n, Dvs ok (s + 1) n → dv ok (s + 1) ≠ [] ∧ (dv ok (s + 1)).length ≤ n := by
      intro n hn
      obtain ⟨p, n', rfl, p1, p2, p3, p4⟩ := hn.has hs (lowb (s + 1)) (lowb_in ⟨s + 1, hs⟩ (Nat.succ_pos s))
      have hp0 : 0 < p := by
        rcases Nat.eq_zero_or_pos p with rfl | h
        · simp at p2
        · exact h
      have hp : p < 256 := by have := sub_le p1; omega
      have hn := noF_low ⟨s + 1, hs⟩ ⟨p, hp⟩ (Nat.succ_pos s) p1
      simp only [p2, Bool.not_true] at hn
      exact f3 p (List.contains_iff_mem.1 (subs_all ⟨s + 1, hs⟩ ⟨p, hp⟩ p1 hp0)) hn p3 n' p4
    exact ⟨fun h _ n hn => (main n hn).1 h, fun h => f1 (h.resolve_right (Nat.succ_ne_zero s)), fun n hn => (main n hn).2⟩
theorem dv_is (ok : Nat → Bool) {s : Nat} (hs : s < 256) : Spec ok s (dv ok s) := dv_spec s s (Nat.le_refl _) hs
/-- The reference's number of parts. -/
def fwStep (ok : Nat → Bool) (s : Nat) (rec : Nat → Int) (b : Int) (p : Nat) : Int := if p &&& s = p ∧ p.testBit (lowb s) = true ∧ ok p = true then min b (1 + rec (s - p)) else b
def fwF (ok : Nat → Bool) : Nat → Nat → Int
  | 0, _ => 0
  | k + 1, s => if s = 0 then 0 else ((List.range s).map (· + 1)).foldl (fwStep ok s (fwF ok k)) 1048576
def fw (ok : Nat → Bool) (s : Nat) : Int := fwF ok s s
theorem foldl_le {f : Int → Nat → Int} (hf : ∀ b p, f b p ≤ b) : ∀ (L : List Nat) (b : Int), L.foldl f b ≤ b
  | [], _ => Int.le_refl _
  | p :: L, b => Int.le_trans (foldl_le hf L (f b p)) (hf b p)
theorem fwStep_le (ok : Nat → Bool) (s : Nat) (rec : Nat → Int) (b : Int) (p : Nat) : fwStep ok s rec b p ≤ b := by unfold fwStep; split <;> omega
theorem foldl_at {f : Int → Nat → Int} (hf : ∀ b p, f b p ≤ b) {v : Int} {p : Nat} (hv : ∀ b, f b p ≤ v) : ∀ (L : List Nat) (b : Int), p ∈ L → L.foldl f b ≤ v
  | [], _, h => by cases h
  | q :: L, b, h => by
    rcases List.mem_cons.1 h with rfl | h
    · exact Int.le_trans (foldl_le hf L _) (hv b)
    · exact foldl_at hf hv L _ h
theorem foldl_from {f : Int → Nat → Int} {P : Int → Prop} : ∀ (L : List Nat) (b : Int), P b → (∀ b p, p ∈ L → P b → P (f b p)) → P (L.foldl f b)
  | [], _, h, _ => h
  | p :: L, b, h, hs => foldl_from L (f b p) (hs b p (.head _) h) (fun c q hq => hs c q (.tail _ hq))
theorem fwF_eq (ok : Nat → Bool) : ∀ (k s : Nat), s ≤ k → fwF ok k s = fwF ok s s
  | 0, s, h => by obtain rfl : s = 0 := by omega
                  rfl
  | k + 1, s, h => by
    cases s with
    | zero => rfl
    | succ s =>
      simp only [fwF]
      rw [if_neg (Nat.succ_ne_zero s)]
      have : ∀ (L : List Nat) (b : Int), (∀ p, p ∈ L → 0 < p) → L.foldl (fwStep ok (s + 1) (fwF ok k)) b = L.foldl (fwStep ok (s + 1) (fwF ok s)) b := by
        intro L
        induction L with
        | nil => intro b _; rfl
        | cons p L ih =>
          intro b hp
          simp only [List.foldl_cons]
          have h0 := hp p (.head _)
          rw [show fwStep ok (s + 1) (fwF ok k) b p = fwStep ok (s + 1) (fwF ok s) b p by unfold fwStep; rw [fwF_eq ok k _ (by omega), fwF_eq ok s _ (by omega)]]
          exact ih _ (fun q hq => hp q (.tail _ hq))
      exact this _ _ (fun p hp => by obtain ⟨q, _, rfl⟩ := List.mem_map.1 hp; omega)
theorem fw_eq (ok : Nat → Bool) {s : Nat} (h0 : s ≠ 0) : fw ok s = ((List.range s).map (· + 1)).foldl (fwStep ok s (fw ok)) 1048576 := by
  unfold fw
  obtain ⟨k, rfl⟩ : ∃ k, s = k + 1 := ⟨s - 1, by omega⟩
  simp only [fwF]
  rw [if_neg h0]
  have : ∀ (L : List Nat) (b : Int), (∀ p, p ∈ L → 0 < p) → L.foldl (fwStep ok (k + 1) (fwF ok k)) b = L.foldl (fwStep ok (k + 1) (fun s => fwF ok s s)) b := by
    intro L
    induction L with
    | nil => intro b _; rfl
    | cons p L ih =>
      intro b hp
      simp only [List.foldl_cons]
      have h0 := hp p (.head _)
      rw [show fwStep ok (k + 1) (fwF ok k) b p = fwStep ok (k + 1) (fun s => fwF ok s s) b p by unfold fwStep; rw [fwF_eq ok k _ (by omega)]]
      exact ih _ (fun q hq => hp q (.tail _ hq))
  exact this _ _ (fun p hp => by obtain ⟨q, _, rfl⟩ := List.mem_map.1 hp; omega)
theorem fw_spec {ok : Nat → Bool} : ∀ (k s : Nat), s ≤ k → s < 256 → (∀ n, Dvs ok s n → fw ok s ≤ n) ∧ (fw ok s < 1048576 → ∃ n : Nat, fw ok s = n ∧ Dvs ok s n) ∧ 0 ≤ fw ok s ∧ fw ok s ≤ 1048576
  | k, 0, _, _ => ⟨fun n _ => by show (0 : Int) ≤ n; omega, fun _ => ⟨0, rfl, .nil⟩, Int.le_refl 0, show (0 : Int) ≤ 1048576 by decide⟩
  | 0, s + 1, h, _ => by omega
  | k + 1, s + 1, hk, hs => by
    have e0 : s + 1 ≠ 0 := Nat.succ_ne_zero s
    rw [fw_eq ok e0]
    refine ⟨fun n hn => ?_, ?_⟩
    · obtain ⟨p, n', rfl, p1, p2, p3, p4⟩ := hn.has hs (lowb (s + 1)) (lowb_in ⟨s + 1, hs⟩ (Nat.succ_pos s))
      have hp0 : 0 < p := by
        rcases Nat.eq_zero_or_pos p with rfl | h
        · simp at p2
        · exact h
      have hle := sub_le p1
      have ih := (fw_spec k (s + 1 - p) (by omega) (by omega)).1 n' p4
      refine foldl_at (fwStep_le ok _ _) (p := p) (fun b => ?_) _ _ (List.mem_map.2 ⟨p - 1, List.mem_range.2 (by omega), by omega⟩)
      unfold fwStep
      rw [if_pos ⟨p1, p2, p3⟩]
      omega
    · have := foldl_from (f := fwStep ok (s + 1) (fw ok)) (P := fun v => (v < 1048576 → ∃ n : Nat, v = n ∧ Dvs ok (s + 1) n) ∧ 0 ≤ v ∧ v ≤ 1048576) ((List.range (s + 1)).map (· + 1)) 1048576 ⟨fun h => absurd h (by decide), by decide, by decide⟩ (fun b p hp hb => by
        obtain ⟨q, hq, rfl⟩ := List.mem_map.1 hp
        have hq := List.mem_range.1 hq
        obtain ⟨_, i2, i3, i4⟩ := fw_spec (ok := ok) k (s + 1 - (q + 1)) (by omega) (by omega)
        unfold fwStep
        split
        · rename_i hc
          refine ⟨fun hlt => ?_, by omega, by omega⟩
          by_cases hm : b ≤ 1 + fw ok (s + 1 - (q + 1))
          · rw [Int.min_eq_left hm] at hlt ⊢
            exact hb.1 hlt
          · rw [Int.min_eq_right (by omega)] at hlt ⊢
            obtain ⟨n, h1, h2⟩ := i2 (by omega)
            exact ⟨n + 1, by rw [h1]; omega, .cons hc.1 (Nat.succ_pos q) hc.2.2 h2⟩
        · exact hb)
      exact ⟨this.1, this.2⟩
/-- The two numbers of parts are the same. -/
theorem fw_dv (ok : Nat → Bool) {s : Nat} (hs : s < 256) (h0 : s ≠ 0) : (dv ok s = [] → fw ok s = 1048576) ∧ (dv ok s ≠ [] → fw ok s = (dv ok s).length) := by
  have d := dv_is ok hs
  obtain ⟨f1, f2, f3, f4⟩ := fw_spec s s (Nat.le_refl _) hs (ok := ok)
  constructor
  · intro h
    by_cases hlt : fw ok s < 1048576
    · obtain ⟨n, _, hn⟩ := f2 hlt
      exact absurd hn (d.none h h0 n)
    · omega
  · intro h
    have hd := (d.some (.inl h)).dvs
    have h1 := f1 _ hd
    have hl := dv_len ok s
    obtain ⟨n, h2, hn⟩ := f2 (by omega)
    have := d.few n hn
    omega
/-- The reference's smallest limit. -/
def lsStep (t : Nat → Int) (s : Nat) (rec : Nat → Int) (b : Int) (p : Nat) : Int := if p &&& s = p ∧ p.testBit (lowb s) = true then min b (max (t p) (rec (s - p))) else b
def lsF (t : Nat → Int) : Nat → Nat → Int
  | 0, s => if s = 0 then 0 else 1048576
  | k + 1, s => if s = 0 then 0 else ((List.range s).map (· + 1)).foldl (lsStep t s (lsF t k)) 1048576
theorem lsStep_le (t : Nat → Int) (s : Nat) (rec : Nat → Int) (b : Int) (p : Nat) : lsStep t s rec b p ≤ b := by unfold lsStep; split <;> omega
theorem ls_spec {t : Nat → Int} {L : Int} (h0 : 0 ≤ L) (h1 : L < 1048576) : ∀ (k s : Nat), s < 256 → (lsF t k s ≤ L ↔ ∃ n, n ≤ k ∧ Dvs (fun p => decide (t p ≤ L)) s n)
  | 0, s, _ => by
    simp only [lsF]
    split
    · rename_i h; subst h; exact ⟨fun _ => ⟨0, Nat.le_refl _, .nil⟩, fun _ => h0⟩
    · rename_i h
      refine ⟨fun hl => absurd hl (by omega), fun ⟨n, hn, hd⟩ => absurd (hd.pos h) (by omega)⟩
  | k + 1, s, hs => by
    simp only [lsF]
    by_cases hz : s = 0
    · rw [if_pos hz]; subst hz; exact ⟨fun _ => ⟨0, Nat.zero_le _, .nil⟩, fun _ => h0⟩
    rw [if_neg hz]
    constructor
    · have := foldl_from (f := lsStep t s (lsF t k)) (P := fun v => v ≤ L → ∃ n, n ≤ k + 1 ∧ Dvs (fun p => decide (t p ≤ L)) s n) ((List.range s).map (· + 1)) 1048576 (fun h => absurd h (by omega)) (fun b p hp hb => by
        obtain ⟨q, hq, rfl⟩ := List.mem_map.1 hp
        have hq := List.mem_range.1 hq
        unfold lsStep
        split
        · rename_i hc
          intro hlt
          by_cases hm : b ≤ L
          · exact hb hm
          · obtain ⟨n, n1, n2⟩ := (ls_spec (t := t) h0 h1 k (s - (q + 1)) (by omega)).1 (by omega)
            exact ⟨n + 1, by omega, .cons hc.1 (Nat.succ_pos q) (decide_eq_true (by omega)) n2⟩
        · exact hb)
      exact this
    · rintro ⟨n, hn, hd⟩
      obtain ⟨p, n', rfl, p1, p2, p3, p4⟩ := hd.has hs (lowb s) (lowb_in ⟨s, hs⟩ (by show 0 < s; omega))
      have hp0 : 0 < p := by
        rcases Nat.eq_zero_or_pos p with rfl | h
        · simp at p2
        · exact h
      have hle := sub_le p1
      have ih := (ls_spec h0 h1 k (s - p) (by omega) (t := t)).2 ⟨n', by omega, p4⟩
      refine foldl_at (lsStep_le t _ _) (p := p) (fun b => ?_) _ _ (List.mem_map.2 ⟨p - 1, List.mem_range.2 (by omega), by omega⟩)
      unfold lsStep
      rw [if_pos ⟨p1, p2⟩]
      have := of_decide_eq_true p3
      omega
theorem lsF_bd {t : Nat → Int} (ht : ∀ p, 0 ≤ t p) : ∀ (k s : Nat), 0 ≤ lsF t k s ∧ lsF t k s ≤ 1048576
  | 0, s => by simp only [lsF]; split <;> decide
  | k + 1, s => by
    simp only [lsF]
    split
    · decide
    · refine foldl_from (f := lsStep t s (lsF t k)) (P := fun v => 0 ≤ v ∧ v ≤ 1048576) _ _ (by decide) (fun b p _ hb => ?_)
      have := ht p
      unfold lsStep
      split <;> omega
end Go.Proofs.Ytpnkgjkoophckaa

namespace Go.Proofs.Ytpnkgjkoophckaa

theorem cntN_lt_le (S : Nat → Bool) (n : Nat) : cntN S n ≤ n := cntN_le S n
/-- Places nearer to the goal. -/
def nearer (D : Nat → Int) (a : Nat) (i : Nat) : Bool := decide (D i < D a)
theorem Dst.len {m : Mp} (ok : OkM m) {goal : Nat} {D F : Nat → Int} (d : Dst m goal D F) : ∀ (N a : Nat), a < m.nw → (D a).toNat < N → D a < 1048576 → D a ≤ 50 * (cntN (nearer D a) m.nw : Int) ∧ cntN (nearer D a) m.nw < m.nw
  | 0, _, _, h, _ => by omega
  | N + 1, a, ha, hN, hf => by
    have hlt : cntN (nearer D a) m.nw < m.nw := by
      have h := cntN_lt (S := nearer D a) (S' := fun _ => true) (fun _ _ => rfl) ha (by unfold nearer; simp) rfl
      rw [cntN_all (fun _ _ => rfl)] at h
      exact h
    refine ⟨?_, hlt⟩
    by_cases e : a = goal
    · subst e; rw [d.self]; omega
    · obtain ⟨f, h, h1, h2, h3⟩ := d.first a ha e hf
      have hb := h2.bd ok
      have hfd := d.bd f hb.2.1
      obtain ⟨r1, r2⟩ := d.len ok N f hb.2.1 (by omega) (by omega)
      have hc := cntN_lt (S := nearer D f) (S' := nearer D a) (fun i hi => by unfold nearer at hi ⊢; rw [decide_eq_true_eq] at hi ⊢; omega) hb.2.1 (by unfold nearer; simp) (by unfold nearer; rw [decide_eq_true_eq]; omega)
      omega
theorem tmA_fin {m : Mp} (ok : OkM m) {a b : Nat} (ha : a < m.nw) (hb : b < m.nw) (h : tmA m a b < 1048576) : tmA m a b ≤ 350 := by
  obtain ⟨h1, h2⟩ := (dst_atlas ok hb).len ok _ a ha (Nat.lt_succ_self _) h
  have := ok.nw
  have e : tmA m a b ≤ 50 * (cntN (nearer (fun n => tmA m n b) a) m.nw : Int) := h1
  omega
theorem wayL_short {m : Mp} (ok : OkM m) {b : Nat} (hb : b < m.nw) : ∀ (N a : Nat), a < m.nw → (tmA m a b).toNat < N → tmA m a b < 1048576 → (wayL m a b).length ≤ cntN (nearer (fun n => tmA m n b) a) m.nw + 1
  | 0, _, _, h, _ => by omega
  | N + 1, a, ha, hN, hf => by
    by_cases e : a = b
    · subst e; rw [wayL_self ok ha]; simp
    · obtain ⟨f, h, h1, h2, h3, h4, h5, h6⟩ := wayL_step ok ha hb e hf
      have hfd := tmA_bd ok h2 hb
      have ih := wayL_short ok hb N f h2 (by omega) (by omega)
      have hc := cntN_lt (S := nearer (fun n => tmA m n b) f) (S' := nearer (fun n => tmA m n b) a) (fun i hi => by unfold nearer at hi ⊢; rw [decide_eq_true_eq] at hi ⊢; simp only at hi ⊢; omega) h2 (by unfold nearer; simp) (by unfold nearer; rw [decide_eq_true_eq]; simp only; omega)
      rw [h6, List.length_cons]
      omega
theorem wayL_8 {m : Mp} (ok : OkM m) {a b : Nat} (ha : a < m.nw) (hb : b < m.nw) (hf : tmA m a b < 1048576) : (wayL m a b).length ≤ 8 := by
  have h1 := wayL_short ok hb _ a ha (Nat.lt_succ_self _) hf
  have h2 := ((dst_atlas ok hb).len ok _ a ha (Nat.lt_succ_self _) hf).2
  have := ok.nw
  omega

/-- The time to the end of a tour. -/
def rsT (m : Mp) (a s : Nat) : Int := (rest (tmA m) a s).1
theorem rsT_zero (m : Mp) (a : Nat) : rsT m a 0 = tmA m a 0 := rfl
theorem bestL_min (v : Nat → Int) (L : List Nat) {n : Nat} (h : n ∈ L) : (bestL v L).1 ≤ v n := by
  have hle : ∀ (L : List Nat) (b : R2), (L.foldl (fun b n => if v n < b.1 then (v n, (n : Int)) else b) b).1 ≤ b.1 := by
    intro L
    induction L with
    | nil => intro b; exact Int.le_refl _
    | cons p L ih =>
      intro b
      refine Int.le_trans (ih _) ?_
      simp only
      split
      · show v p ≤ b.1; omega
      · exact Int.le_refl _
  have : ∀ (L : List Nat) (b : R2), n ∈ L → (L.foldl (fun b n => if v n < b.1 then (v n, (n : Int)) else b) b).1 ≤ v n := by
    intro L
    induction L with
    | nil => intro b h; cases h
    | cons p L ih =>
      intro b h
      rcases List.mem_cons.1 h with rfl | h
      · refine Int.le_trans (hle L _) ?_
        simp only
        split
        · exact Int.le_refl _
        · omega
      · exact ih _ h
  exact this L _ h
theorem rsT_le {m : Mp} {a s n : Nat} (hn : n < 8) (hb : s.testBit n = true) : rsT m a s ≤ tmA m a n + rsT m n (s - 2 ^ n) := by
  have h0 : s ≠ 0 := by rintro rfl; simp at hb
  unfold rsT
  rw [rest_eq _ _ h0]
  exact bestL_min (fun n => tmA m a n + (rest (tmA m) n (s - 2 ^ n)).1) _ (plc_mem.2 ⟨hn, hb⟩)
theorem rsT_bd {m : Mp} (ok : OkM m) {a s : Nat} (ha : a < m.nw) (hs : s < 2 ^ m.nw) : 0 ≤ rsT m a s ∧ rsT m a s ≤ 1048576 := rest_bd (tmB ok) (by have := ok.nw; omega) s s a (Nat.le_refl _) hs ha
theorem rsT_next {m : Mp} (ok : OkM m) {a s : Nat} (ha : a < m.nw) (hs : s < 2 ^ m.nw) (h0 : s ≠ 0) (h : rsT m a s < 1048576) : ∃ k : Nat, k < 8 ∧ s.testBit k = true ∧ k < m.nw ∧ tmA m a k < 1048576 ∧ rsT m k (s - 2 ^ k) < 1048576 ∧ rsT m a s = tmA m a k + rsT m k (s - 2 ^ k) := by
  obtain ⟨k, _, h2⟩ := rest_next ok ha hs h0 h
  exact ⟨k, h2⟩
theorem one_sub {s n : Nat} (h : s.testBit n = true) : 2 ^ n &&& s = 2 ^ n := by
  rw [sub_iff]
  intro i hi
  rw [Nat.testBit_two_pow] at hi
  have := of_decide_eq_true hi
  subst this; exact h
theorem off_bit {s n : Nat} (hs : s < 256) (h : s.testBit n = true) (i : Nat) : (s - 2 ^ n).testBit i = (s.testBit i && decide (i ≠ n)) := by
  rw [sub_bit hs (one_sub h), Nat.testBit_two_pow]
  by_cases e : n = i
  · subst e; simp
  · simp [e, Ne.symm e]
/-- Through another place it takes at least as long. -/
theorem rsT_tri {m : Mp} (ok : OkM m) {a b s : Nat} (ha : a < m.nw) (hb : b < m.nw) (hs : s < 2 ^ m.nw) : rsT m a s ≤ tmA m a b + rsT m b s := by
  have hab := tmA_bd ok ha hb
  have hA := rsT_bd ok ha hs
  have hB := rsT_bd ok hb hs
  by_cases h0 : s = 0
  · subst h0
    rw [rsT_zero, rsT_zero]
    exact tmA_tri ok ha hb (by have := ok.nw; omega)
  by_cases hf : rsT m b s < 1048576
  · obtain ⟨k, k8, k1, k2, _, _, k5⟩ := rsT_next ok hb hs h0 hf
    have h1 := rsT_le (m := m) (a := a) k8 k1
    have h2 := tmA_tri ok ha hb k2
    omega
  · omega
theorem two8 {m : Mp} (ok : OkM m) {s : Nat} (hs : s < 2 ^ m.nw) : s < 256 := Nat.lt_of_lt_of_le hs (Nat.pow_le_pow_right (by decide) ok.nw.2)
/-- A place less. -/
theorem rsT_less {m : Mp} (ok : OkM m) : ∀ (k a s j : Nat), s ≤ k → a < m.nw → s < 2 ^ m.nw → s.testBit j = true → rsT m a (s - 2 ^ j) ≤ rsT m a s
  | 0, a, s, j, hk, _, _, hj => by obtain rfl : s = 0 := by omega
                                   simp at hj
  | k + 1, a, s, j, hk, ha, hs, hj => by
    have h0 : s ≠ 0 := by rintro rfl; simp at hj
    have h8 := two8 ok hs
    have hA := rsT_bd ok ha (s := s - 2 ^ j) (Nat.lt_of_le_of_lt (Nat.sub_le _ _) hs)
    have hp := testBit_le hj
    have hjp := Nat.two_pow_pos j
    by_cases hf : rsT m a s < 1048576
    · obtain ⟨n, n8, n1, n2, _, _, n5⟩ := rsT_next ok ha hs h0 hf
      have hnp := Nat.two_pow_pos n
      by_cases e : n = j
      · subst e
        have := rsT_tri ok ha n2 (s := s - 2 ^ n) (by omega)
        omega
      · have b1 : (s - 2 ^ j).testBit n = true := by rw [off_bit h8 hj, n1]; simp [e]
        have b2 : (s - 2 ^ n).testBit j = true := by rw [off_bit h8 n1, hj]; simp [Ne.symm e]
        have h1 := rsT_le (m := m) (a := a) n8 b1
        have h2 := rsT_less ok k n (s - 2 ^ n) j (by omega) n2 (by omega) b2
        rw [Nat.sub_right_comm] at h2
        omega
    · have := rsT_bd ok ha hs
      omega
/-- Fewer places. -/
theorem rsT_sub {m : Mp} (ok : OkM m) : ∀ (k a s p : Nat), s - p ≤ k → a < m.nw → s < 2 ^ m.nw → p &&& s = p → rsT m a p ≤ rsT m a s
  | 0, a, s, p, hk, _, _, hp => by
    have := sub_le hp
    obtain rfl : s = p := by omega
    exact Int.le_refl _
  | k + 1, a, s, p, hk, ha, hs, hp => by
    have h8 := two8 ok hs
    have hle := sub_le hp
    by_cases e : s - p = 0
    · obtain rfl : s = p := by omega
      exact Int.le_refl _
    · have hb := lowb_in ⟨s - p, by omega⟩ (by show 0 < s - p; omega)
      simp only at hb
      have hb2 := hb
      rw [sub_bit h8 hp, Bool.and_eq_true] at hb2
      have h1 := rsT_less ok s a s (lowb (s - p)) (Nat.le_refl _) ha hs hb2.1
      have hpow := testBit_le hb
      have hpos := Nat.two_pow_pos (lowb (s - p))
      have h2 := rsT_sub ok k a (s - 2 ^ lowb (s - p)) p (by omega) ha (by omega) (by
        rw [sub_iff]
        intro i hi
        rw [off_bit h8 hb2.1, sub_iff.1 hp i hi]
        by_cases e2 : i = lowb (s - p)
        · rw [← e2, hi] at hb2; simp at hb2
        · simp [e2])
      omega
/-- Two sets. -/
theorem rsT_or {m : Mp} (ok : OkM m) : ∀ (k a x y : Nat), x ≤ k → a < m.nw → x < 2 ^ m.nw → y < 2 ^ m.nw → rsT m a (x ||| y) ≤ rsT m a x + rsT m 0 y
  | k, a, x, y, hk, ha, hx, hy => by
    have h0w : 0 < m.nw := by have := ok.nw; omega
    by_cases h0 : x = 0
    · subst h0
      rw [Nat.zero_or, rsT_zero]
      exact rsT_tri ok ha h0w hy
    have hxy := Nat.or_lt_two_pow hx hy
    have hA := rsT_bd ok ha hx
    have hB := rsT_bd ok h0w hy
    have hC := rsT_bd ok ha hxy
    by_cases hf : rsT m a x < 1048576
    · obtain ⟨n, n8, n1, n2, _, _, n5⟩ := rsT_next ok ha hx h0 hf
      have hpow := testBit_le n1
      have hpos := Nat.two_pow_pos n
      have b1 : (x ||| y).testBit n = true := by rw [Nat.testBit_or, n1]; rfl
      have h1 := rsT_le (m := m) (a := a) n8 b1
      have h8 := two8 ok hx
      have h2 : rsT m n ((x ||| y) - 2 ^ n) ≤ rsT m n ((x - 2 ^ n) ||| y) := by
        refine rsT_sub ok _ n _ _ (Nat.le_refl _) n2 (Nat.or_lt_two_pow (by omega) hy) ?_
        rw [sub_iff]
        intro i hi
        rw [off_bit (two8 ok hxy) b1, Nat.testBit_or] at hi
        rw [Nat.testBit_or, off_bit h8 n1]
        cases hxi : x.testBit i <;> cases hyi : y.testBit i <;> simp_all
      match k, hk with
      | 0, hk => omega
      | k + 1, hk =>
        have h3 := rsT_or ok k n (x - 2 ^ n) y (by omega) n2 (by omega) hy
        omega
    · omega
/-- A tour that exists is short. -/
theorem rsT_fin {m : Mp} (ok : OkM m) : ∀ (k a s : Nat), (plc s).length ≤ k → a < m.nw → s < 2 ^ m.nw → rsT m a s < 1048576 → rsT m a s ≤ 350 * ((plc s).length + 1)
  | k, a, s, hk, ha, hs, hf => by
    by_cases h0 : s = 0
    · subst h0
      rw [rsT_zero] at hf ⊢
      have := tmA_fin ok ha (by have := ok.nw; omega) hf
      omega
    · obtain ⟨n, n8, n1, n2, n3, n4, n5⟩ := rsT_next ok ha hs h0 hf
      have hl := plc_off ⟨s, two8 ok hs⟩ ⟨n, n8⟩ n1
      simp only at hl
      have hpow := testBit_le n1
      have hpos := Nat.two_pow_pos n
      have h1 := tmA_fin ok ha n2 n3
      match k, hk with
      | 0, hk => omega
      | k + 1, hk =>
        have h2 := rsT_fin ok k n (s - 2 ^ n) (by omega) n2 (by omega) n4
        omega
theorem lgM_rs (m : Mp) (s : Nat) : lgM m s = rsT m 0 s + hiS m (plc s) := rfl
theorem hiS_8 {m : Mp} (ok : OkM m) {s : Nat} (hs : s < 2 ^ m.nw) : 0 ≤ hiS m (plc s) ∧ hiS m (plc s) ≤ 400 := by
  have h := hiS_bd ok (plc s) (fun p hp => sub_sub hs (plc_mem.1 hp).2)
  have := plc_lt ⟨s, two8 ok hs⟩
  simp only at this
  omega
theorem lgM_fin {m : Mp} (ok : OkM m) {s : Nat} (hs : s < 2 ^ m.nw) : (lgM m s < 1048576 ∧ rsT m 0 s < 1048576 ∧ lgM m s ≤ 3550) ∨ (1048576 ≤ lgM m s ∧ rsT m 0 s = 1048576) := by
  have h1 := hiS_8 ok hs
  have h0w : 0 < m.nw := by have := ok.nw; omega
  have h2 := rsT_bd ok h0w hs
  rw [lgM_rs]
  by_cases hf : rsT m 0 s < 1048576
  · have h3 := rsT_fin ok _ 0 s (Nat.le_refl _) h0w hs hf
    have h4 := plc_lt ⟨s, two8 ok hs⟩
    simp only at h4
    left; omega
  · right; omega
/-- The sum of the work of a set. -/
def bitI (s i : Nat) : Int := if s.testBit i = true then 1 else 0
theorem hiS_N (m : Mp) (s : Nat) : ∀ k, hiS m (plcN k s) = (List.range k).foldl (fun b i => b + bitI s i * (m.wk i).2) 0
  | 0 => rfl
  | k + 1 => by
    rw [List.range_succ, List.foldl_append, ← hiS_N m s k, plcN_succ]
    unfold bitI
    by_cases h : s.testBit k = true
    · simp [h, hiS_snoc]
    · simp [h]
theorem hiS_8s (m : Mp) (s : Nat) : hiS m (plc s) = bitI s 0 * (m.wk 0).2 + bitI s 1 * (m.wk 1).2 + bitI s 2 * (m.wk 2).2 + bitI s 3 * (m.wk 3).2 + bitI s 4 * (m.wk 4).2 + bitI s 5 * (m.wk 5).2 + bitI s 6 * (m.wk 6).2 + bitI s 7 * (m.wk 7).2 := by
  show hiS m (plcN 8 s) = _
  rw [hiS_N, show List.range 8 = [0, 1, 2, 3, 4, 5, 6, 7] from rfl]
  simp only [List.foldl_cons, List.foldl_nil, Int.zero_add]
theorem bitI_term {m : Mp} (ok : OkM m) {s i : Nat} (hs : s < 2 ^ m.nw) : bitI s i * (m.wk i).2 = 0 ∨ s.testBit i = true ∧ i < m.nw ∧ bitI s i * (m.wk i).2 = (m.wk i).2 ∧ 0 ≤ (m.wk i).2 := by
  unfold bitI
  by_cases h : s.testBit i = true
  · have hi := sub_sub hs h
    have := ok.wk i hi
    rw [if_pos h]
    exact .inr ⟨h, hi, by omega, by omega⟩
  · rw [if_neg h]; left; omega
theorem hi_term {m : Mp} (ok : OkM m) {x y z : Nat} (i : Nat) (hx : x < 2 ^ m.nw) (hy : y < 2 ^ m.nw) (hz : z < 2 ^ m.nw) (h1 : ∀ i, x.testBit i = true → z.testBit i = true) (h2 : ∀ i, z.testBit i = true → x.testBit i = true ∨ y.testBit i = true) :
    bitI x i * (m.wk i).2 ≤ bitI z i * (m.wk i).2 ∧ bitI z i * (m.wk i).2 ≤ bitI x i * (m.wk i).2 + bitI y i * (m.wk i).2 := by
  have a1 := h1 i
  have a2 := h2 i
  unfold bitI
  have w := fun h : z.testBit i = true => ok.wk i (sub_sub hz h)
  have w2 := fun h : x.testBit i = true => ok.wk i (sub_sub hx h)
  have w3 := fun h : y.testBit i = true => ok.wk i (sub_sub hy h)
  cases hzi : z.testBit i <;> cases hxi : x.testBit i <;> cases hyi : y.testBit i <;> simp_all <;> omega
theorem hiS_or {m : Mp} (ok : OkM m) {x y z : Nat} (hx : x < 2 ^ m.nw) (hy : y < 2 ^ m.nw) (hz : z < 2 ^ m.nw) (h1 : ∀ i, x.testBit i = true → z.testBit i = true) (h2 : ∀ i, z.testBit i = true → x.testBit i = true ∨ y.testBit i = true) :
    hiS m (plc x) ≤ hiS m (plc z) ∧ hiS m (plc z) ≤ hiS m (plc x) + hiS m (plc y) := by
  have t := fun i => hi_term ok i hx hy hz h1 h2
  have t0 := t 0; have t1 := t 1; have t2 := t 2; have t3 := t 3; have t4 := t 4; have t5 := t 5; have t6 := t 6; have t7 := t 7
  rw [hiS_8s, hiS_8s, hiS_8s]
  omega
theorem or_lt {m : Mp} {x y : Nat} (hx : x < 2 ^ m.nw) (hy : y < 2 ^ m.nw) : x ||| y < 2 ^ m.nw := Nat.or_lt_two_pow hx hy
/-- More places: at least as long. -/
theorem lgM_sub {m : Mp} (ok : OkM m) {p s : Nat} (hs : s < 2 ^ m.nw) (h : p &&& s = p) : lgM m p ≤ lgM m s := by
  have h0w : 0 < m.nw := by have := ok.nw; omega
  have hp : p < 2 ^ m.nw := Nat.lt_of_le_of_lt (sub_le h) hs
  have h1 := rsT_sub ok _ 0 s p (Nat.le_refl _) h0w hs h
  have h2 := (hiS_or ok hp hs hs (sub_iff.1 h) (fun i hi => .inr hi)).1
  rw [lgM_rs, lgM_rs]
  omega
theorem lgM_or {m : Mp} (ok : OkM m) {x y : Nat} (hx : x < 2 ^ m.nw) (hy : y < 2 ^ m.nw) : lgM m (x ||| y) ≤ lgM m x + lgM m y := by
  have h0w : 0 < m.nw := by have := ok.nw; omega
  have h1 := rsT_or ok x 0 x y (Nat.le_refl _) h0w hx hy
  have h2 := (hiS_or ok hx hy (or_lt hx hy) (fun i hi => by rw [Nat.testBit_or, hi]; rfl) (fun i hi => by rw [Nat.testBit_or, Bool.or_eq_true] at hi; exact hi)).2
  rw [lgM_rs, lgM_rs, lgM_rs]
  omega
end Go.Proofs.Ytpnkgjkoophckaa

namespace Go.Proofs.Ytpnkgjkoophckaa

theorem whole_pos {m : Mp} (ok : OkM m) : 2 ^ m.nw - 1 ≠ 0 ∧ 2 ^ m.nw - 1 < 256 ∧ 2 ^ m.nw - 1 < 2 ^ m.nw := by
  have h1 := Nat.pow_le_pow_right (n := 2) (by decide) ok.nw.1
  have h2 := Nat.pow_le_pow_right (n := 2) (by decide) ok.nw.2
  omega
theorem whole_bit {m : Mp} (i : Nat) : (2 ^ m.nw - 1).testBit i = decide (i < m.nw) := Nat.testBit_two_pow_sub_one ..
theorem okL_mono {m : Mp} {L L' : Int} (h : L ≤ L') {p : Nat} (hp : okL m L p = true) : okL m L' p = true := by
  unfold okL at *; rw [decide_eq_true_eq] at *; omega
theorem dvW_iff {m : Mp} (ok : OkM m) (L : Int) : (dvW m L ≠ [] ↔ ∃ n, Dvs (okL m L) (2 ^ m.nw - 1) n) ∧ (∀ n, Dvs (okL m L) (2 ^ m.nw - 1) n → (dvW m L).length ≤ n) ∧ (dvW m L ≠ [] → Prt (okL m L) (2 ^ m.nw - 1) (dvW m L)) := by
  obtain ⟨w0, w8, _⟩ := whole_pos ok
  have d := dv_is (okL m L) w8
  refine ⟨⟨fun h => ⟨_, (d.some (.inl h)).dvs⟩, fun ⟨n, hn⟩ h => d.none h w0 n hn⟩, d.few, fun h => d.some (.inl h)⟩
theorem enG_iff {m : Mp} (ok : OkM m) (k L : Int) : enG m k L = true ↔ ∃ n : Nat, (n : Int) ≤ k ∧ Dvs (okL m L) (2 ^ m.nw - 1) n := by
  obtain ⟨d1, d2, d3⟩ := dvW_iff ok L
  unfold enG
  rw [decide_eq_true_eq]
  constructor
  · rintro ⟨h1, h2⟩
    exact ⟨_, h2, (d3 h1).dvs⟩
  · rintro ⟨n, h1, h2⟩
    have := d2 n h2
    exact ⟨d1.2 ⟨n, h2⟩, by omega⟩
theorem enG_mono {m : Mp} (ok : OkM m) {k k' L L' : Int} (hk : k ≤ k') (h : L ≤ L') (hg : enG m k L = true) : enG m k' L' = true := by
  rw [enG_iff ok] at *
  obtain ⟨n, h1, h2⟩ := hg
  exact ⟨n, by omega, h2.mono (fun p _ hp => okL_mono h hp) (whole_pos ok).2.1⟩
theorem bis_spec {P : Int → Bool} (hP : ∀ a b, a ≤ b → P a = true → P b = true) : ∀ (f : Nat) (lo hi : Int), lo ≤ hi → hi - lo < ((2 ^ f : Nat) : Int) → P hi = true → lo ≤ bis P f lo hi ∧ bis P f lo hi ≤ hi ∧ P (bis P f lo hi) = true ∧ ∀ L, lo ≤ L → P L = true → bis P f lo hi ≤ L
  | 0, lo, hi, h1, h2, h3 => by
    simp only [bis]
    obtain rfl : lo = hi := by simp at h2; omega
    exact ⟨Int.le_refl _, Int.le_refl _, h3, fun L h _ => h⟩
  | f + 1, lo, hi, h1, h2, h3 => by
    simp only [bis]
    rw [Nat.pow_succ] at h2
    by_cases hl : lo < hi
    · rw [if_pos hl]
      by_cases hp : P ((lo + hi) / 2) = true
      · rw [if_pos hp]
        obtain ⟨a1, a2, a3, a4⟩ := bis_spec hP f lo ((lo + hi) / 2) (by omega) (by omega) hp
        exact ⟨a1, by omega, a3, a4⟩
      · rw [if_neg hp]
        obtain ⟨a1, a2, a3, a4⟩ := bis_spec hP f ((lo + hi) / 2 + 1) hi (by omega) (by omega) h3
        refine ⟨by omega, a2, a3, fun L hL hPL => a4 L ?_ hPL⟩
        by_cases hc : (lo + hi) / 2 + 1 ≤ L
        · exact hc
        · exact absurd (hP L _ (by omega) hPL) hp
    · rw [if_neg hl]
      obtain rfl : lo = hi := by omega
      exact ⟨Int.le_refl _, Int.le_refl _, h3, fun L h _ => h⟩
theorem lowL_le {m : Mp} {L : Int} (h0 : 0 ≤ L) : ∀ k, (∀ i, i < k → lgM m (2 ^ i) ≤ L) → lowL m k ≤ L
  | 0, _ => h0
  | k + 1, h => by
    have h1 := lowL_le h0 k (fun i hi => h i (by omega))
    have h2 := h k (by omega)
    simp only [lowL]
    split <;> omega
theorem lowL_ge {m : Mp} : ∀ k i, i < k → lgM m (2 ^ i) ≤ lowL m k
  | 0, i, h => by omega
  | k + 1, i, h => by
    simp only [lowL]
    rcases Nat.lt_succ_iff_lt_or_eq.1 h with h | rfl
    · have := lowL_ge (m := m) k i h
      split <;> omega
    · split <;> omega
theorem lg_one {m : Mp} (_ : OkM m) {i : Nat} (hi : i < m.nw) : 2 ^ i < 2 ^ m.nw := Nat.pow_lt_pow_right (by decide) hi
theorem ones_or (k : Nat) : 2 ^ (k + 1) - 1 = (2 ^ k - 1) ||| 2 ^ k := by
  refine Nat.eq_of_testBit_eq fun i => ?_
  rw [Nat.testBit_or, Nat.testBit_two_pow_sub_one, Nat.testBit_two_pow_sub_one, Nat.testBit_two_pow]
  rw [Bool.eq_iff_iff]
  simp
  omega
theorem lgM_zero {m : Mp} (ok : OkM m) : lgM m 0 = 0 := by
  show (rest (tmA m) 0 0).1 + hiS m (plc 0) = 0
  rw [rest_zero, show plc 0 = [] by decide +kernel]
  have := tmA_self ok (a := 0) (by have := ok.nw; omega)
  simp only [hiS, List.foldl_nil]
  omega
/-- If each place can be visited, all can be together. -/
theorem lgM_ones {m : Mp} (ok : OkM m) (hs : ∀ i, i < m.nw → lgM m (2 ^ i) < 1048576) : ∀ k, k ≤ m.nw → lgM m (2 ^ k - 1) ≤ 3550
  | 0, _ => by rw [show 2 ^ 0 - 1 = 0 from rfl, lgM_zero ok]; decide
  | k + 1, h => by
    have h1 := lgM_ones ok hs k (by omega)
    have h2 := hs k (by omega)
    have h3 : 2 ^ k < 2 ^ m.nw := lg_one ok (by omega)
    have h4 : 2 ^ k - 1 < 2 ^ m.nw := Nat.lt_of_le_of_lt (Nat.sub_le _ _) h3
    have h5 := lgM_or ok h4 h3
    rw [← ones_or] at h5
    have h6 : 2 ^ (k + 1) - 1 < 2 ^ m.nw := by rw [ones_or]; exact or_lt h4 h3
    rcases lgM_fin ok h3 with ⟨_, _, h7⟩ | ⟨h7, _⟩
    · rcases lgM_fin ok h6 with ⟨_, _, h8⟩ | ⟨h8, _⟩
      · exact h8
      · omega
    · omega
theorem dvs_ones {P : Nat → Bool} : ∀ k, k ≤ 8 → (∀ i, i < k → P (2 ^ i) = true) → Dvs P (2 ^ k - 1) k
  | 0, _, _ => .nil
  | k + 1, h8, h => by
    have hp := Nat.two_pow_pos k
    have e : 2 ^ (k + 1) - 1 - 2 ^ k = 2 ^ k - 1 := by rw [Nat.pow_succ]; omega
    refine .cons (p := 2 ^ k) (one_sub (by rw [Nat.testBit_two_pow_sub_one]; simp)) hp (h k (by omega)) ?_
    rw [e]
    exact dvs_ones k (by omega) (fun i hi => h i (by omega))
/-- A division holds each single place. -/
theorem dvs_single {m : Mp} (ok : OkM m) {L : Int} {n : Nat} (h : Dvs (okL m L) (2 ^ m.nw - 1) n) {i : Nat} (hi : i < m.nw) : lgM m (2 ^ i) ≤ L := by
  obtain ⟨p, _, _, p1, p2, p3, _⟩ := h.has (whole_pos ok).2.1 i (by rw [whole_bit]; exact decide_eq_true hi)
  have hp : p < 2 ^ m.nw := Nat.lt_of_le_of_lt (sub_le p1) (whole_pos ok).2.2
  have := lgM_sub ok hp (one_sub p2)
  unfold okL at p3
  rw [decide_eq_true_eq] at p3
  omega
theorem enG_low {m : Mp} (ok : OkM m) {k L : Int} (h : enG m k L = true) : lowL m m.nw ≤ L := by
  obtain ⟨n, _, hd⟩ := (enG_iff ok k L).1 h
  have h0 : 0 ≤ L := by
    have := dvs_single ok hd (i := 0) (by have := ok.nw; omega)
    have := (lgM_bd ok (s := 2 ^ 0) (lg_one ok (by have := ok.nw; omega))).1
    omega
  exact lowL_le h0 _ (fun i hi => dvs_single ok hd hi)
theorem low_fin {m : Mp} (ok : OkM m) (h : lowL m m.nw < 1048576) : lgM m (2 ^ m.nw - 1) ≤ 3550 :=
  lgM_ones ok (fun i hi => by have := lowL_ge (m := m) m.nw i hi; omega) m.nw (Nat.le_refl _)
theorem enG_whole {m : Mp} (ok : OkM m) {k : Int} (hk : 1 ≤ k) : enG m k (lgM m (2 ^ m.nw - 1)) = true := by
  rw [enG_iff ok]
  have w := whole_pos ok
  refine ⟨1, by omega, .cons (p := 2 ^ m.nw - 1) (Nat.and_self _) (by omega) (by unfold okL; simp) ?_⟩
  rw [Nat.sub_self]
  exact .nil
theorem lst_spec {m : Mp} (ok : OkM m) {k : Int} (hk : 1 ≤ k) (h : lowL m m.nw < 1048576) : enG m k (lstV m k) = true ∧ (∀ L, enG m k L = true → lstV m k ≤ L) ∧ lowL m m.nw ≤ lstV m k ∧ 0 ≤ lstV m k ∧ lstV m k ≤ 3550 := by
  have hw := low_fin ok h
  have w := whole_pos ok
  have hg := enG_whole ok hk
  have hl := enG_low ok hg
  have hb := lowL_bd ok m.nw (Nat.le_refl _)
  have e : mnI (lgM m (2 ^ m.nw - 1)) 10000 = lgM m (2 ^ m.nw - 1) := by unfold mnI; rw [if_neg (by omega)]
  unfold lstV
  rw [e]
  obtain ⟨a1, a2, a3, a4⟩ := bis_spec (P := enG m k) (fun a b hab ha => enG_mono ok (Int.le_refl _) hab ha) 14 (lowL m m.nw) (lgM m (2 ^ m.nw - 1)) hl (by have : ((2 ^ 14 : Nat) : Int) = 16384 := rfl; omega) hg
  exact ⟨a3, fun L hL => a4 L (enG_low ok hL) hL, a1, by omega, by omega⟩
theorem lst_more {m : Mp} (ok : OkM m) {k : Int} (hk : 1 ≤ k) (h : lowL m m.nw < 1048576) : lstV m (k + 1) ≤ lstV m k := by
  obtain ⟨a1, _⟩ := lst_spec ok hk h
  obtain ⟨_, b2, _⟩ := lst_spec ok (k := k + 1) (by omega) h
  exact b2 _ (enG_mono ok (by omega) (Int.le_refl _) a1)
theorem lst_all {m : Mp} (ok : OkM m) (h : lowL m m.nw < 1048576) : lstV m m.nw = lowL m m.nw := by
  have hn := ok.nw
  obtain ⟨_, b2, b3, _⟩ := lst_spec ok (k := m.nw) (by omega) h
  have hg : enG m m.nw (lowL m m.nw) = true := by
    rw [enG_iff ok]
    exact ⟨m.nw, Int.le_refl _, dvs_ones m.nw hn.2 (fun i hi => by unfold okL; exact decide_eq_true (lowL_ge m.nw i hi))⟩
  have := b2 _ hg
  omega
end Go.Proofs.Ytpnkgjkoophckaa

namespace Go.Proofs.Ytpnkgjkoophckaa

theorem Prt.mem {ok : Nat → Bool} {s : Nat} {l : List Nat} (h : Prt ok s l) : s < 256 → ∀ p, p ∈ l → p &&& s = p ∧ 0 < p ∧ ok p = true := by
  induction h with
  | nil => intro _ p hp; cases hp
  | @snoc s p l h1 h2 h3 _ ih =>
    intro hs q hq
    rcases List.mem_append.1 hq with hq | hq
    · obtain ⟨a, b, c⟩ := ih (by omega) q hq
      refine ⟨?_, b, c⟩
      rw [sub_iff] at a ⊢
      intro i hi
      have := a i hi
      rw [sub_bit hs h1, Bool.and_eq_true] at this
      exact this.1
    · obtain rfl : q = p := by simpa using hq
      exact ⟨h1, h2, h3⟩
/-- How many parts hold a place. -/
theorem Prt.one {ok : Nat → Bool} {s : Nat} {l : List Nat} (h : Prt ok s l) : s < 256 → ∀ i, l.countP (fun p => p.testBit i) = if s.testBit i = true then 1 else 0 := by
  induction h with
  | nil => intro _ i; simp
  | @snoc s p l h1 h2 h3 _ ih =>
    intro hs i
    rw [List.countP_append, ih (by omega) i, sub_bit hs h1]
    have := sub_iff.1 h1 i
    cases hp : p.testBit i
    · cases hsi : s.testBit i <;> simp [hp]
    · rw [this hp]; simp [hp]
theorem dvW_mem {m : Mp} (ok : OkM m) {L : Int} (hL : L ≤ 1048575) {p : Nat} (hp : p ∈ dvW m L) : p < 2 ^ m.nw ∧ 0 < p ∧ lgM m p ≤ L ∧ rsT m 0 p < 1048576 := by
  have w := whole_pos ok
  have h := (dvW_iff ok L).2.2 (fun e => by rw [e] at hp; cases hp)
  obtain ⟨a, b, c⟩ := h.mem w.2.1 p hp
  have hlt : p < 2 ^ m.nw := Nat.lt_of_le_of_lt (sub_le a) w.2.2
  unfold okL at c
  rw [decide_eq_true_eq] at c
  refine ⟨hlt, b, c, ?_⟩
  rcases lgM_fin ok hlt with ⟨_, h, _⟩ | ⟨h, _⟩
  · exact h
  · omega
theorem dvW_len {m : Mp} (ok : OkM m) (L : Int) : (dvW m L).length ≤ m.nw := by
  by_cases h : dvW m L = []
  · rw [h]; simp
  · obtain ⟨d1, d2, _⟩ := dvW_iff ok L
    obtain ⟨n, hn⟩ := d1.1 h
    exact d2 _ (dvs_ones m.nw ok.nw.2 (fun i hi => by unfold okL; exact decide_eq_true (dvs_single ok hn hi)))
theorem dvW_reach {m : Mp} (ok : OkM m) (L : Int) : dvW m L ≠ [] ↔ ∀ i, i < m.nw → lgM m (2 ^ i) ≤ L := by
  obtain ⟨d1, _, _⟩ := dvW_iff ok L
  constructor
  · intro h i hi
    obtain ⟨n, hn⟩ := d1.1 h
    exact dvs_single ok hn hi
  · intro h
    exact d1.2 ⟨_, dvs_ones m.nw ok.nw.2 (fun i hi => by unfold okL; exact decide_eq_true (h i hi))⟩
theorem rchN_all (m : Mp) (L : Int) (k : Nat) : (rchN m L k).length = k ↔ ∀ i, i < k → lgM m (2 ^ i) ≤ L := by
  unfold rchN
  have h : (((List.range k).filter fun n => decide (lgM m (2 ^ n) ≤ L)).length = (List.range k).length) ↔ ∀ a ∈ List.range k, decide (lgM m (2 ^ a) ≤ L) = true := List.length_filter_eq_length_iff
  rw [List.length_range] at h
  rw [h]
  simp
theorem reach_plan {m : Mp} (ok : OkM m) (L : Int) : (rchN m L m.nw).length = m.nw ↔ dvW m L ≠ [] := by
  rw [rchN_all, dvW_reach ok]
end Go.Proofs.Ytpnkgjkoophckaa
