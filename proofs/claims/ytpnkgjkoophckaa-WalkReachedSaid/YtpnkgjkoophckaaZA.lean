/- Walk, plain: divisions of sets into parts; what the best one is; the reference's numbers. -/
import Derived.Test.YtpnkgjkoophckaaYA
import Derived.Test.YtpnkgjkoophckaaZC
namespace Go.Proofs.Ytpnkgjkoophckaa

theorem sub_iff {s p : Nat} : p &&& s = p ↔ ∀ i, p.testBit i = true → s.testBit i = true := by
  constructor
  · intro h i hi
    rw [← h, Nat.testBit_and, Bool.and_eq_true] at hi
    exact hi.2
  · intro h
    refine Nat.eq_of_testBit_eq fun i => ?_
    rw [Nat.testBit_and]
    cases hp : p.testBit i
    · rfl
    · rw [h i hp]; rfl
theorem sub_bit {s p : Nat} (hs : s < 256) (h : p &&& s = p) (i : Nat) : (s - p).testBit i = (s.testBit i && !p.testBit i) := by
  have hp : p < 256 := by have := sub_le h; omega
  have e := sub_xor ⟨s, hs⟩ ⟨p, hp⟩ h
  simp only at e
  rw [e, Nat.testBit_xor]
  have := sub_iff.1 h i
  cases h1 : s.testBit i <;> cases h2 : p.testBit i <;> simp_all
/-- A set falls into so many parts. -/
inductive Dvs (ok : Nat → Bool) : Nat → Nat → Prop
  | nil : Dvs ok 0 0
  | cons {s p n : Nat} : p &&& s = p → 0 < p → ok p = true → Dvs ok (s - p) n → Dvs ok s (n + 1)
theorem Dvs.mono {ok ok' : Nat → Bool} {s n : Nat} (h : Dvs ok s n) (hk : ∀ p, p &&& s = p → ok p = true → ok' p = true) (hs : s < 256) : Dvs ok' s n := by
  induction h with
  | nil => exact .nil
  | @cons s p n h1 h2 h3 _ ih =>
    refine .cons h1 h2 (hk p h1 h3) (ih (fun q hq => hk q ?_) (by omega))
    rw [sub_iff] at hq ⊢
    intro i hi
    have := hq i hi
    rw [sub_bit hs h1, Bool.and_eq_true] at this
    exact this.1
/-- Each place is in one of the parts. -/
theorem Dvs.has {ok : Nat → Bool} {s n : Nat} (h : Dvs ok s n) : s < 256 → ∀ i, s.testBit i = true → ∃ p n', n = n' + 1 ∧ p &&& s = p ∧ p.testBit i = true ∧ ok p = true ∧ Dvs ok (s - p) n' := by
  induction h with
  | nil => intro _ i hi; simp at hi
  | @cons s p n h1 h2 h3 h4 ih =>
    intro hs i hi
    cases hpi : p.testBit i
    · obtain ⟨q, n', rfl, q1, q2, q3, q4⟩ := ih (by omega) i (by rw [sub_bit hs h1, hi, hpi]; rfl)
      have hq : q &&& s = q := by
        rw [sub_iff] at q1 ⊢
        intro j hj
        have := q1 j hj
        rw [sub_bit hs h1, Bool.and_eq_true] at this
        exact this.1
      refine ⟨q, n' + 1, rfl, hq, q2, q3, .cons ?_ h2 h3 (by rw [Nat.sub_right_comm]; exact q4)⟩
      rw [sub_iff]
      intro j hj
      rw [sub_bit hs hq, sub_iff.1 h1 j hj]
      cases hqj : q.testBit j
      · rfl
      · have := sub_iff.1 q1 j hqj
        rw [sub_bit hs h1, hj] at this
        simp at this
    · exact ⟨p, n, rfl, h1, hpi, h3, h4⟩
theorem Dvs.zero {ok : Nat → Bool} {n : Nat} (h : Dvs ok 0 n) : n = 0 := by
  cases h with
  | nil => rfl
  | cons h1 h2 => have := sub_le h1; omega
theorem Dvs.pos {ok : Nat → Bool} {s n : Nat} (h : Dvs ok s n) (hs : s ≠ 0) : 0 < n := by
  cases h with
  | nil => exact absurd rfl hs
  | cons => omega
/-- The parts of a division. -/
inductive Prt (ok : Nat → Bool) : Nat → List Nat → Prop
  | nil : Prt ok 0 []
  | snoc {s p : Nat} {l : List Nat} : p &&& s = p → 0 < p → ok p = true → Prt ok (s - p) l → Prt ok s (l ++ [p])
theorem Prt.dvs {ok : Nat → Bool} {s : Nat} {l : List Nat} (h : Prt ok s l) : Dvs ok s l.length := by
  induction h with
  | nil => exact .nil
  | snoc h1 h2 h3 _ ih => rw [List.length_append]; exact .cons h1 h2 h3 ih
/-- What is known of the best division of a set. -/
structure Spec (ok : Nat → Bool) (t : Nat) (l : List Nat) : Prop where
  none : l = [] → t ≠ 0 → ∀ n, ¬ Dvs ok t n
  some : l ≠ [] ∨ t = 0 → Prt ok t l
  few : ∀ n, Dvs ok t n → l.length ≤ n
theorem dvFold {ok : Nat → Bool} {s : Nat} {rec : Nat → List Nat} (hrec : ∀ p, p &&& s = p → 0 < p → Spec ok (s - p) (rec (s - p))) : ∀ (L : List Nat) (b : List Nat), (∀ p, p ∈ L → p &&& s = p ∧ 0 < p) → (b ≠ [] → Prt ok s b) →
    (L.foldl (dvStep ok s rec) b ≠ [] → Prt ok s (L.foldl (dvStep ok s rec) b)) ∧ (b ≠ [] → L.foldl (dvStep ok s rec) b ≠ [] ∧ (L.foldl (dvStep ok s rec) b).length ≤ b.length) ∧
    ∀ p, p ∈ L → noF s p = false → ok p = true → ∀ n, Dvs ok (s - p) n → L.foldl (dvStep ok s rec) b ≠ [] ∧ (L.foldl (dvStep ok s rec) b).length ≤ n + 1
  | [], b, _, hb => ⟨hb, fun h => ⟨h, Nat.le_refl _⟩, fun _ h => by cases h⟩
  | p :: L, b, hL, hb => by
    obtain ⟨hp1, hp2⟩ := hL p (.head _)
    have sp := hrec p hp1 hp2
    have key : (dvStep ok s rec b p ≠ [] → Prt ok s (dvStep ok s rec b p)) ∧ (b ≠ [] → dvStep ok s rec b p ≠ [] ∧ (dvStep ok s rec b p).length ≤ b.length) ∧ (noF s p = false → ok p = true → ∀ n, Dvs ok (s - p) n → dvStep ok s rec b p ≠ [] ∧ (dvStep ok s rec b p).length ≤ n + 1) := by
      unfold dvStep
      by_cases c1 : noF s p = true ∨ ok p = false
      · rw [if_pos c1]
        refine ⟨hb, fun h => ⟨h, Nat.le_refl _⟩, fun h1 h2 => ?_⟩
        rcases c1 with c1 | c1
        · rw [c1] at h1; cases h1
        · rw [c1] at h2; cases h2
      rw [if_neg c1]
      have hok : ok p = true := by
        cases h : ok p
        · exact absurd (.inr h) c1
        · rfl
      by_cases c2 : s ≠ p ∧ rec (s - p) = []
      · rw [if_pos c2]
        have hne : s - p ≠ 0 := by have := sub_le hp1; omega
        exact ⟨hb, fun h => ⟨h, Nat.le_refl _⟩, fun _ _ n hn => absurd hn (sp.none c2.2 hne n)⟩
      rw [if_neg c2]
      have hpr : Prt ok (s - p) (rec (s - p)) := by
        refine sp.some ?_
        by_cases e : s = p
        · exact .inr (by omega)
        · exact .inl (fun h => c2 ⟨e, h⟩)
      by_cases c3 : b = [] ∨ (rec (s - p)).length + 1 < b.length
      · rw [if_pos c3]
        refine ⟨fun _ => .snoc hp1 hp2 hok hpr, fun h => ⟨by simp, ?_⟩, fun _ _ n hn => ⟨by simp, ?_⟩⟩
        · rcases c3 with c3 | c3
          · exact absurd c3 h
          · rw [List.length_append]; simp only [List.length_cons, List.length_nil]; omega
        · have := sp.few n hn
          rw [List.length_append]; simp only [List.length_cons, List.length_nil]; omega
      · rw [if_neg c3]
        have hbn : b ≠ [] := fun h => c3 (.inl h)
        refine ⟨hb, fun h => ⟨h, Nat.le_refl _⟩, fun _ _ n hn => ⟨hbn, ?_⟩⟩
        have := sp.few n hn
        have : ¬ (rec (s - p)).length + 1 < b.length := fun h => c3 (.inr h)
        omega
    obtain ⟨k1, k2, k3⟩ := key
    obtain ⟨r1, r2, r3⟩ := dvFold hrec L (dvStep ok s rec b p) (fun q hq => hL q (.tail _ hq)) k1
    refine ⟨r1, fun h => ?_, fun q hq h1 h2 n hn => ?_⟩
    · obtain ⟨a1, a2⟩ := k2 h
      obtain ⟨b1, b2⟩ := r2 a1
      exact ⟨b1, by simp only [List.foldl_cons]; omega⟩
    · rcases List.mem_cons.1 hq with rfl | hq
      · obtain ⟨a1, a2⟩ := k3 h1 h2 n hn
        obtain ⟨b1, b2⟩ := r2 a1
        exact ⟨b1, by simp only [List.foldl_cons]; omega⟩
      · exact r3 q hq h1 h2 n hn
theorem dv_spec {ok : Nat → Bool} : ∀ (k s : Nat), s ≤ k → s < 256 → Spec ok s (dv ok s)
  | k, 0, _, _ => ⟨fun _ h => absurd rfl h, fun _ => .nil, fun n _ => Nat.zero_le n⟩
  | 0, s + 1, h, _ => by omega
  | k + 1, s + 1, hk, hs => by
    have hf := dvFold (ok := ok) (s := s + 1) (rec := dv ok) (fun p hp1 hp2 => dv_spec k _ (by omega) (by omega)) (subs (s + 1)) [] (fun p hp => subsF_mem _ _ _ p (Nat.and_self _) hp) (fun h => absurd rfl h)
    rw [← dv_eq] at hf
    obtain ⟨f1, _, f3⟩ := hf
    have main : ∀ n, Dvs ok (s + 1) n → dv ok (s + 1) ≠ [] ∧ (dv ok (s + 1)).length ≤ n := by
      intro n hn
      obtain ⟨p, n', rfl, p1, p2, p3, p4⟩ := hn.has hs (lowb (s + 1)) (lowb_in ⟨s + 1, hs⟩ (Nat.succ_pos s))
      have hp0 : 0 < p := by
        rcases Nat.eq_zero_or_pos p with rfl | h
        · simp at p2
        · exact h
      have hp : p < 256 := by have := sub_le p1; omega
      have hn := noF_low ⟨s + 1, hs⟩ ⟨p, hp⟩ (Nat.succ_pos s) p1
      simp only [p2, Bool.not_true] at hn
      exact f3 p (List.contains_iff_mem.1 (subs_all ⟨s + 1, hs⟩ ⟨p, hp⟩ p1 hp0)) hn p3 n' p4
    exact ⟨fun h _ n hn => (main n hn).1 h, fun h => f1 (h.resolve_right (Nat.succ_ne_zero s)), fun n hn => (main n hn).2⟩
theorem dv_is (ok : Nat → Bool) {s : Nat} (hs : s < 256) : Spec ok s (dv ok s) := dv_spec s s (Nat.le_refl _) hs
/-- The reference's number of parts. -/
def fwStep (ok : Nat → Bool) (s : Nat) (rec : Nat → Int) (b : Int) (p : Nat) : Int := if p &&& s = p ∧ p.testBit (lowb s) = true ∧ ok p = true then min b (1 + rec (s - p)) else b
def fwF (ok : Nat → Bool) : Nat → Nat → Int
  | 0, _ => 0
  | k + 1, s => if s = 0 then 0 else ((List.range s).map (· + 1)).foldl (fwStep ok s (fwF ok k)) 1048576
def fw (ok : Nat → Bool) (s : Nat) : Int := fwF ok s s
theorem foldl_le {f : Int → Nat → Int} (hf : ∀ b p, f b p ≤ b) : ∀ (L : List Nat) (b : Int), L.foldl f b ≤ b
  | [], _ => Int.le_refl _
  | p :: L, b => Int.le_trans (foldl_le hf L (f b p)) (hf b p)
theorem fwStep_le (ok : Nat → Bool) (s : Nat) (rec : Nat → Int) (b : Int) (p : Nat) : fwStep ok s rec b p ≤ b := by unfold fwStep; split <;> omega
theorem foldl_at {f : Int → Nat → Int} (hf : ∀ b p, f b p ≤ b) {v : Int} {p : Nat} (hv : ∀ b, f b p ≤ v) : ∀ (L : List Nat) (b : Int), p ∈ L → L.foldl f b ≤ v
  | [], _, h => by cases h
  | q :: L, b, h => by
    rcases List.mem_cons.1 h with rfl | h
    · exact Int.le_trans (foldl_le hf L _) (hv b)
    · exact foldl_at hf hv L _ h
theorem foldl_from {f : Int → Nat → Int} {P : Int → Prop} : ∀ (L : List Nat) (b : Int), P b → (∀ b p, p ∈ L → P b → P (f b p)) → P (L.foldl f b)
  | [], _, h, _ => h
  | p :: L, b, h, hs => foldl_from L (f b p) (hs b p (.head _) h) (fun c q hq => hs c q (.tail _ hq))
theorem fwF_eq (ok : Nat → Bool) : ∀ (k s : Nat), s ≤ k → fwF ok k s = fwF ok s s
  | 0, s, h => by obtain rfl : s = 0 := by omega
                  rfl
  | k + 1, s, h => by
    cases s with
    | zero => rfl
    | succ s =>
      simp only [fwF]
      rw [if_neg (Nat.succ_ne_zero s)]
      have : ∀ (L : List Nat) (b : Int), (∀ p, p ∈ L → 0 < p) → L.foldl (fwStep ok (s + 1) (fwF ok k)) b = L.foldl (fwStep ok (s + 1) (fwF ok s)) b := by
        intro L
        induction L with
        | nil => intro b _; rfl
        | cons p L ih =>
          intro b hp
          simp only [List.foldl_cons]
          have h0 := hp p (.head _)
          rw [show fwStep ok (s + 1) (fwF ok k) b p = fwStep ok (s + 1) (fwF ok s) b p by unfold fwStep; rw [fwF_eq ok k _ (by omega), fwF_eq ok s _ (by omega)]]
          exact ih _ (fun q hq => hp q (.tail _ hq))
      exact this _ _ (fun p hp => by obtain ⟨q, _, rfl⟩ := List.mem_map.1 hp; omega)
theorem fw_eq (ok : Nat → Bool) {s : Nat} (h0 : s ≠ 0) : fw ok s = ((List.range s).map (· + 1)).foldl (fwStep ok s (fw ok)) 1048576 := by
  unfold fw
  obtain ⟨k, rfl⟩ : ∃ k, s = k + 1 := ⟨s - 1, by omega⟩
  simp only [fwF]
  rw [if_neg h0]
  have : ∀ (L : List Nat) (b : Int), (∀ p, p ∈ L → 0 < p) → L.foldl (fwStep ok (k + 1) (fwF ok k)) b = L.foldl (fwStep ok (k + 1) (fun s => fwF ok s s)) b := by
    intro L
    induction L with
    | nil => intro b _; rfl
    | cons p L ih =>
      intro b hp
      simp only [List.foldl_cons]
      have h0 := hp p (.head _)
      rw [show fwStep ok (k + 1) (fwF ok k) b p = fwStep ok (k + 1) (fun s => fwF ok s s) b p by unfold fwStep; rw [fwF_eq ok k _ (by omega)]]
      exact ih _ (fun q hq => hp q (.tail _ hq))
  exact this _ _ (fun p hp => by obtain ⟨q, _, rfl⟩ := List.mem_map.1 hp; omega)
theorem fw_spec {ok : Nat → Bool} : ∀ (k s : Nat), s ≤ k → s < 256 → (∀ n, Dvs ok s n → fw ok s ≤ n) ∧ (fw ok s < 1048576 → ∃ n : Nat, fw ok s = n ∧ Dvs ok s n) ∧ 0 ≤ fw ok s ∧ fw ok s ≤ 1048576
  | k, 0, _, _ => ⟨fun n _ => by show (0 : Int) ≤ n; omega, fun _ => ⟨0, rfl, .nil⟩, Int.le_refl 0, show (0 : Int) ≤ 1048576 by decide⟩
  | 0, s + 1, h, _ => by omega
  | k + 1, s + 1, hk, hs => by
    have e0 : s + 1 ≠ 0 := Nat.succ_ne_zero s
    rw [fw_eq ok e0]
    refine ⟨fun n hn => ?_, ?_⟩
    · obtain ⟨p, n', rfl, p1, p2, p3, p4⟩ := hn.has hs (lowb (s + 1)) (lowb_in ⟨s + 1, hs⟩ (Nat.succ_pos s))
      have hp0 : 0 < p := by
        rcases Nat.eq_zero_or_pos p with rfl | h
        · simp at p2
        · exact h
      have hle := sub_le p1
      have ih := (fw_spec k (s + 1 - p) (by omega) (by omega)).1 n' p4
      refine foldl_at (fwStep_le ok _ _) (p := p) (fun b => ?_) _ _ (List.mem_map.2 ⟨p - 1, List.mem_range.2 (by omega), by omega⟩)
      unfold fwStep
      rw [if_pos ⟨p1, p2, p3⟩]
      omega
    · have := foldl_from (f := fwStep ok (s + 1) (fw ok)) (P := fun v => (v < 1048576 → ∃ n : Nat, v = n ∧ Dvs ok (s + 1) n) ∧ 0 ≤ v ∧ v ≤ 1048576) ((List.range (s + 1)).map (· + 1)) 1048576 ⟨fun h => absurd h (by decide), by decide, by decide⟩ (fun b p hp hb => by
        obtain ⟨q, hq, rfl⟩ := List.mem_map.1 hp
        have hq := List.mem_range.1 hq
        obtain ⟨_, i2, i3, i4⟩ := fw_spec (ok := ok) k (s + 1 - (q + 1)) (by omega) (by omega)
        unfold fwStep
        split
        · rename_i hc
          refine ⟨fun hlt => ?_, by omega, by omega⟩
          by_cases hm : b ≤ 1 + fw ok (s + 1 - (q + 1))
          · rw [Int.min_eq_left hm] at hlt ⊢
            exact hb.1 hlt
          · rw [Int.min_eq_right (by omega)] at hlt ⊢
            obtain ⟨n, h1, h2⟩ := i2 (by omega)
            exact ⟨n + 1, by rw [h1]; omega, .cons hc.1 (Nat.succ_pos q) hc.2.2 h2⟩
        · exact hb)
      exact ⟨this.1, this.2⟩
/-- The two numbers of parts are the same. -/
theorem fw_dv (ok : Nat → Bool) {s : Nat} (hs : s < 256) (h0 : s ≠ 0) : (dv ok s = [] → fw ok s = 1048576) ∧ (dv ok s ≠ [] → fw ok s = (dv ok s).length) := by
  have d := dv_is ok hs
  obtain ⟨f1, f2, f3, f4⟩ := fw_spec s s (Nat.le_refl _) hs (ok := ok)
  constructor
  · intro h
    by_cases hlt : fw ok s < 1048576
    · obtain ⟨n, _, hn⟩ := f2 hlt
      exact absurd hn (d.none h h0 n)
    · omega
  · intro h
    have hd := (d.some (.inl h)).dvs
    have h1 := f1 _ hd
    have hl := dv_len ok s
    obtain ⟨n, h2, hn⟩ := f2 (by omega)
    have := d.few n hn
    omega
/-- The reference's smallest limit. -/
def lsStep (t : Nat → Int) (s : Nat) (rec : Nat → Int) (b : Int) (p : Nat) : Int := if p &&& s = p ∧ p.testBit (lowb s) = true then min b (max (t p) (rec (s - p))) else b
def lsF (t : Nat → Int) : Nat → Nat → Int
  | 0, s => if s = 0 then 0 else 1048576
  | k + 1, s => if s = 0 then 0 else ((List.range s).map (· + 1)).foldl (lsStep t s (lsF t k)) 1048576
theorem lsStep_le (t : Nat → Int) (s : Nat) (rec : Nat → Int) (b : Int) (p : Nat) : lsStep t s rec b p ≤ b := by unfold lsStep; split <;> omega
theorem ls_spec {t : Nat → Int} {L : Int} (h0 : 0 ≤ L) (h1 : L < 1048576) : ∀ (k s : Nat), s < 256 → (lsF t k s ≤ L ↔ ∃ n, n ≤ k ∧ Dvs (fun p => decide (t p ≤ L)) s n)
  | 0, s, _ => by
    simp only [lsF]
    split
    · rename_i h; subst h; exact ⟨fun _ => ⟨0, Nat.le_refl _, .nil⟩, fun _ => h0⟩
    · rename_i h
      refine ⟨fun hl => absurd hl (by omega), fun ⟨n, hn, hd⟩ => absurd (hd.pos h) (by omega)⟩
  | k + 1, s, hs => by
    simp only [lsF]
    by_cases hz : s = 0
    · rw [if_pos hz]; subst hz; exact ⟨fun _ => ⟨0, Nat.zero_le _, .nil⟩, fun _ => h0⟩
    rw [if_neg hz]
    constructor
    · have := foldl_from (f := lsStep t s (lsF t k)) (P := fun v => v ≤ L → ∃ n, n ≤ k + 1 ∧ Dvs (fun p => decide (t p ≤ L)) s n) ((List.range s).map (· + 1)) 1048576 (fun h => absurd h (by omega)) (fun b p hp hb => by
        obtain ⟨q, hq, rfl⟩ := List.mem_map.1 hp
        have hq := List.mem_range.1 hq
        unfold lsStep
        split
        · rename_i hc
          intro hlt
          by_cases hm : b ≤ L
          · exact hb hm
          · obtain ⟨n, n1, n2⟩ := (ls_spec (t := t) h0 h1 k (s - (q + 1)) (by omega)).1 (by omega)
            exact ⟨n + 1, by omega, .cons hc.1 (Nat.succ_pos q) (decide_eq_true (by omega)) n2⟩
        · exact hb)
      exact this
    · rintro ⟨n, hn, hd⟩
      obtain ⟨p, n', rfl, p1, p2, p3, p4⟩ := hd.has hs (lowb s) (lowb_in ⟨s, hs⟩ (by show 0 < s; omega))
      have hp0 : 0 < p := by
        rcases Nat.eq_zero_or_pos p with rfl | h
        · simp at p2
        · exact h
      have hle := sub_le p1
      have ih := (ls_spec h0 h1 k (s - p) (by omega) (t := t)).2 ⟨n', by omega, p4⟩
      refine foldl_at (lsStep_le t _ _) (p := p) (fun b => ?_) _ _ (List.mem_map.2 ⟨p - 1, List.mem_range.2 (by omega), by omega⟩)
      unfold lsStep
      rw [if_pos ⟨p1, p2⟩]
      have := of_decide_eq_true p3
      omega
theorem lsF_bd {t : Nat → Int} (ht : ∀ p, 0 ≤ t p) : ∀ (k s : Nat), 0 ≤ lsF t k s ∧ lsF t k s ≤ 1048576
  | 0, s => by simp only [lsF]; split <;> decide
  | k + 1, s => by
    simp only [lsF]
    split
    · decide
    · refine foldl_from (f := lsStep t s (lsF t k)) (P := fun v => 0 ≤ v ∧ v ≤ 1048576) _ _ (by decide) (fun b p _ hb => ?_)
      have := ht p
      unfold lsStep
      split <;> omega
end Go.Proofs.Ytpnkgjkoophckaa
