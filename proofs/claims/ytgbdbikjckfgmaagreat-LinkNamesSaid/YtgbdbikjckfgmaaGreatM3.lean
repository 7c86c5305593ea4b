/- Link: lists of numbers in memory; the program's small functions. | Link, plain: skipped pairs. | Link, plain: what a search keeps; its steps. | Link, plain: files, their errors, their pairs. | Link, plain: links as lists, covers; what is sure and possible. | Link: entries and files in memory; loops over them. Printed by gen_mc.py. -/
import Derived.Test.YtgbdbikjckfgmaaGreatWG
import Derived.Test.YtgbdbikjckfgmaaGreatL0
import Derived.Test.YtgbdbikjckfgmaaGreatPH
namespace Go.Proofs.YtgbdbikjckfgmaaGreat
open Go.RowKit Go.Shelf

def IntsIn (w : World) (sv : Value) (n : Nat) (z : Nat → Int) : Prop :=
  (∃ a cap, sv = .slice a 0 cap ∧ n = 0) ∨ ∃ b off cap, sv = .slice (some ⟨b, off, none⟩) n cap ∧ b < w.heap.size ∧ ∀ j, j < n → w.cell? ⟨b, off + j, none⟩ = some (.int .i64 (z j))
theorem IntsAt.toIn {w : World} {sv : Value} {n : Nat} {z : Nat → Int} (h : IntsAt w sv n z) : IntsIn w sv n z := by
  rcases h with ⟨h, h2⟩ | h
  · exact .inl ⟨_, _, h, h2⟩
  · exact .inr h
theorem IntsIn.below {w w' : World} {sv : Value} {n : Nat} {z : Nat → Int} (h : IntsIn w sv n z) (hB : Below w.heap.size w w') : IntsIn w' sv n z := by
  rcases h with h | ⟨b, off, cap, rfl, hb, hz⟩
  · exact .inl h
  · exact .inr ⟨b, off, cap, rfl, Nat.lt_of_lt_of_le hb hB.size, fun j hj => kept hB hb (hz j hj)⟩
theorem IntsIn.slice {w : World} {sv : Value} {n : Nat} {z : Nat → Int} (h : IntsIn w sv n z) : ∃ a cap, sv = .slice a n cap := by
  rcases h with ⟨a, cap, rfl, rfl⟩ | ⟨b, off, cap, rfl, _⟩
  · exact ⟨_, _, rfl⟩
  · exact ⟨_, _, rfl⟩
theorem IntsIn.at {w : World} {a : Option Addr} {n cap : Nat} {z : Nat → Int} (h : IntsIn w (.slice a n cap) n z) {k : Nat} (hk : k < n) : ∃ b off, a = some ⟨b, off, none⟩ ∧ b < w.heap.size ∧ w.cell? ⟨b, off + k, none⟩ = some (.int .i64 (z k)) := by
  rcases h with ⟨_, _, _, h⟩ | ⟨b', o', c', e, hb, hz⟩
  · omega
  · cases e; exact ⟨_, _, rfl, hb, hz k hk⟩
theorem IntsIn.at2 {w : World} {a : Option Addr} {n cap : Nat} {z : Nat → Int} (h : IntsIn w (.slice a n cap) n z) {k l : Nat} (hk : k < n) (hl : l < n) : ∃ b off, a = some ⟨b, off, none⟩ ∧ b < w.heap.size ∧ w.cell? ⟨b, off + k, none⟩ = some (.int .i64 (z k)) ∧ w.cell? ⟨b, off + l, none⟩ = some (.int .i64 (z l)) := by
  rcases h with ⟨_, _, _, h⟩ | ⟨b', o', c', e, hb, hz⟩
  · omega
  · cases e; exact ⟨_, _, rfl, hb, hz k hk, hz l hl⟩
theorem IntsIn.nil (w : World) (a : Option Addr) (c : Nat) (z : Nat → Int) : IntsIn w (.slice a 0 c) 0 z := .inl ⟨_, _, rfl, rfl⟩
theorem IntsIn.congr {w : World} {v : Value} {n : Nat} {z z' : Nat → Int} (h : IntsIn w v n z) (e : ∀ j, j < n → z j = z' j) : IntsIn w v n z' := by
  rcases h with h | ⟨b, off, cap, h1, h2, h3⟩
  · exact .inl h
  · exact .inr ⟨b, off, cap, h1, h2, fun j hj => by rw [← e j hj]; exact h3 j hj⟩
/-- Pairs of numbers. -/
def RsIn (w : World) (sv : Value) (n : Nat) (p q : Nat → Int) : Prop :=
  (∃ a cap, sv = .slice a 0 cap ∧ n = 0) ∨ ∃ b off cap, sv = .slice (some ⟨b, off, none⟩) n cap ∧ b < w.heap.size ∧ ∀ j, j < n →
    w.cell? ⟨b, off + j * 2, none⟩ = some (.int .i64 (p j)) ∧ w.cell? ⟨b, off + j * 2 + 1, none⟩ = some (.int .i64 (q j))
theorem RsIn.below {w w' : World} {sv : Value} {n : Nat} {p q : Nat → Int} (h : RsIn w sv n p q) (hB : Below w.heap.size w w') : RsIn w' sv n p q := by
  rcases h with h | ⟨b, off, cap, rfl, hb, hz⟩
  · exact .inl h
  · exact .inr ⟨b, off, cap, rfl, Nat.lt_of_lt_of_le hb hB.size, fun j hj => ⟨kept hB hb (hz j hj).1, kept hB hb (hz j hj).2⟩⟩
theorem RsIn.at {w : World} {a : Option Addr} {n cap : Nat} {p q : Nat → Int} (h : RsIn w (.slice a n cap) n p q) {k : Nat} (hk : k < n) : ∃ b off, a = some ⟨b, off, none⟩ ∧ b < w.heap.size ∧ w.cell? ⟨b, off + k * 2, none⟩ = some (.int .i64 (p k)) ∧ w.cell? ⟨b, off + k * 2 + 1, none⟩ = some (.int .i64 (q k)) := by
  rcases h with ⟨_, _, _, h⟩ | ⟨b', o', c', e, hb, hz⟩
  · omega
  · cases e; exact ⟨_, _, rfl, hb, hz k hk⟩
theorem RsIn.slice {w : World} {sv : Value} {n : Nat} {p q : Nat → Int} (h : RsIn w sv n p q) : ∃ a cap, sv = .slice a n cap := by
  rcases h with ⟨a, cap, rfl, rfl⟩ | ⟨b, off, cap, rfl, _⟩
  · exact ⟨_, _, rfl⟩
  · exact ⟨_, _, rfl⟩
def risesB (z : Nat → Int) (n : Nat) (lim : Int) : Bool := allB (fun k => inB (z k) 0 (lim - 1) && !(decide (0 < k) && decide (z k ≤ z (k - 1)))) n
/-- A number in a list. -/
def hasN (z : Nat → Int) (n : Nat) (x : Int) : Bool := !allB (fun j => !(z j == x)) n
theorem allB_all {q : Nat → Bool} {n : Nat} (h : allB q n = true) : ∀ k, k < n → q k = true := fun k hk => by
  unfold allB at h; exact List.all_eq_true.1 h k (List.mem_range.2 hk)
theorem hasN_iff {z : Nat → Int} {n : Nat} {x : Int} : hasN z n x = true ↔ ∃ j, j < n ∧ z j = x := by
  unfold hasN
  constructor
  · intro h
    apply Classical.byContradiction
    intro c
    have : allB (fun j => !(z j == x)) n = true := allB_true fun j hj => by
      have : z j ≠ x := fun e => c ⟨j, hj, e⟩
      simpa using this
    rw [this] at h; cases h
  · rintro ⟨j, hj, e⟩
    rw [allB_false hj (by simp [e])]; rfl
theorem lwithin_any (a b c : Int) (w : World) : Calls Tryz.prog 75 #[.int .i64 a, .int .i64 b, .int .i64 c] w fun e w' => e = .returned (.bool (inB a b c)) ∧ w = w' := by
  by_cases h1 : b ≤ a <;> by_cases h2 : a ≤ c
  all_goals
    go_enter Tryz.func75, Tryz.ntmps75
    go_wp2
    go_ret
    exact ⟨ret_bool (by simp [inB, *]), rfl⟩
theorem place_any (a : Int) (w : World) : Calls Tryz.prog 101 #[.int .i64 a] w fun e w' => e = .returned (.bool (inB a 0 9)) ∧ w = w' := by
  go_enter Tryz.func101, Tryz.ntmps101
  go_wp2_with (go_at_call 75; refine (lwithin_any _ _ _ _).mono ?_; rintro e w' ⟨rfl, rfl⟩)
  go_ret
  exact ⟨rfl, rfl⟩
set_option maxHeartbeats 1000000 in
theorem rises_any (a : Option Addr) (n cap : Nat) (z : Nat → Int) (lim : Int) (w : World) (hn : n ≤ 100000) (h0 : -1000000 ≤ lim) (h1 : lim ≤ 1000000) (hz : IntsIn w (.slice a n cap) n z) :
    Calls Tryz.prog 85 #[.slice a n cap, .int .i64 lim] w fun e w' => e = .returned (.bool (risesB z n lim)) ∧ w = w' := by
  have HZ := Lib.hid hz; clear hz
  go_enter Tryz.func85, Tryz.ntmps85
  go_wp2
  go_loop [9] (fun i => ∃ k : Nat, i = .int .i64 k ∧ k ≤ n ∧ ∀ q, q < k → (inB (z q) 0 (lim - 1) && !(decide (0 < q) && decide (z q ≤ z (q - 1)))) = true) (fun i => n - (intOf i).toNat)
  case atStart => exact ⟨0, rfl, Nat.zero_le _, fun q h => absurd h (Nat.not_lt_zero _)⟩
  case round =>
    obtain ⟨k, rfl, hk, hall⟩ := hrel
    have HA := Lib.hid hall; clear hall
    by_cases hlt : k < n
    · obtain ⟨b, off, rfl, hb, x0⟩ := HZ.out.at (k := k) hlt
      cases hin : inB (z k) 0 (lim - 1)
      · go_wp2_with (go_at_call 75; refine (lwithin_any _ _ _ _).mono ?_; rintro e w' ⟨rfl, rfl⟩)
        go_ret
        exact ⟨ret_bool (by unfold risesB; rw [allB_false (k := k) hlt (by rw [hin]; rfl)]), rfl⟩
      · by_cases hk0 : k = 0
        · subst hk0
          rw [Nat.add_zero] at x0
          go_wp2_with (go_at_call 75; refine (lwithin_any _ _ _ _).mono ?_; rintro e w' ⟨rfl, rfl⟩)
          go_round
          case rel => exact ⟨1, by go_num, by omega, (fun q hq => by obtain rfl : q = 0 := by omega
                                                                     rw [hin]; rfl)⟩
          case measure => simp [intOf]; omega
        · obtain ⟨b2, off2, e2, _, x1⟩ := HZ.out.at (k := k - 1) (by omega)
          cases e2
          have kp : 0 < k := by omega
          have ki : (0 : Int) < (k : Int) := by omega
          have hs : IntKind.i64.wrap ((k : Int) - 1) = ((k - 1 : Nat) : Int) := by rw [IntWalk.i64_in _ (by omega)]; omega
          have hs2 : (k : Int) - 1 = ((k - 1 : Nat) : Int) := by omega
          have hs3 : (0 : Int) ≤ ((k - 1 : Nat) : Int) := by omega
          have hs4 : ((k - 1 : Nat) : Int) < (n : Int) := by omega
          by_cases hle : z k ≤ z (k - 1)
          · have HE : Hid (risesB z n lim = false) := by unfold Hid risesB; rw [allB_false (k := k) hlt (by rw [hin]; simp [kp, hle])]
            go_wp2_with (go_at_call 75; refine (lwithin_any _ _ _ _).mono ?_; rintro e w' ⟨rfl, rfl⟩)
            go_ret
            exact ⟨ret_bool HE.out.symm, rfl⟩
          · have HE : Hid ((inB (z k) 0 (lim - 1) && !(decide (0 < k) && decide (z k ≤ z (k - 1)))) = true) := by unfold Hid; rw [hin]; simp [hle]
            go_wp2_with (go_at_call 75; refine (lwithin_any _ _ _ _).mono ?_; rintro e w' ⟨rfl, rfl⟩)
            go_round
            case rel => exact ⟨k + 1, by go_num, by omega, (fun q hq => by rcases Nat.lt_succ_iff_lt_or_eq.1 hq with h | rfl; exact HA.out q h; exact HE.out)⟩
            case measure => simp [intOf]; omega
    · obtain rfl : k = n := by omega
      go_wp2
      go_ret
      exact ⟨ret_bool (by unfold risesB; rw [allB_true HA.out]), rfl⟩
def Post1 (b : Bool) (w : World) (e : Ending) (w' : World) : Prop := ∃ r : Int, e = .returned (.int .i64 r) ∧ decide (0 ≤ r) = b ∧ w = w'
set_option maxHeartbeats 1000000 in
theorem indexI_any (a : Option Addr) (n cap : Nat) (z : Nat → Int) (x : Int) (w : World) (hn : n ≤ 100000) (hz : IntsIn w (.slice a n cap) n z) :
    Calls Tryz.prog 109 #[.slice a n cap, .int .i64 x] w fun e w' => ∃ r : Int, e = .returned (.int .i64 r) ∧ decide (0 ≤ r) = hasN z n x ∧ w = w' := by
  have HZ := Lib.hid hz; clear hz
  have HP : Hid (∀ e w', Post1 (hasN z n x) w e w' → ∃ r : Int, e = .returned (.int .i64 r) ∧ decide (0 ≤ r) = hasN z n x ∧ w = w') := fun _ _ h => h
  refine Calls.mono (R := Post1 (hasN z n x) w) ?_ HP.out
  clear HP
  go_enter Tryz.func109, Tryz.ntmps109
  go_wp2
  go_loop [8] (fun i => ∃ k : Nat, k ≤ n ∧ i = .int .i64 k ∧ ∀ q, q < k → (!(z q == x)) = true) (fun i => n - (intOf i).toNat)
  case atStart => exact ⟨0, Nat.zero_le _, rfl, fun q h => absurd h (Nat.not_lt_zero _)⟩
  case round =>
    obtain ⟨k, hk, rfl, hall⟩ := hrel
    have HA := Lib.hid hall; clear hall
    by_cases hlt : k < n
    · obtain ⟨b, off, rfl, hb, x0⟩ := HZ.out.at (k := k) hlt
      by_cases he : x = z k
      · have HE : Hid (hasN z n x = true) := hasN_iff.2 ⟨k, hlt, he.symm⟩
        have he1 : (x == z k) = true := by simp [he]
        clear he
        go_wp2
        go_ret
        exact ⟨k, rfl, by rw [HE.out]; simp, rfl⟩
      · have HE : Hid ((!(z k == x)) = true) := by unfold Hid; simpa using fun h => he h.symm
        have he1 : (x == z k) = false := by simpa using he
        clear he
        go_wp2
        go_round
        case rel => exact ⟨k + 1, by omega, by go_num, (fun q hq => by rcases Nat.lt_succ_iff_lt_or_eq.1 hq with h | rfl; exact HA.out q h; exact HE.out)⟩
        case measure => simp [intOf]; omega
    · obtain rfl : k = n := by omega
      have HE : Hid (hasN z k x = false) := by unfold Hid hasN; rw [allB_true HA.out]; rfl
      go_wp2
      go_ret
      exact ⟨-1, rfl, by rw [HE.out]; rfl, rfl⟩
set_option maxHeartbeats 1000000 in
theorem containsI_any (a : Option Addr) (n cap : Nat) (z : Nat → Int) (x : Int) (w : World) (hn : n ≤ 100000) (hz : IntsIn w (.slice a n cap) n z) :
    Calls Tryz.prog 76 #[.slice a n cap, .int .i64 x] w fun e w' => e = .returned (.bool (hasN z n x)) ∧ w = w' := by
  have HI := Lib.hid (indexI_any a n cap z x w hn hz); clear hz
  go_enter Tryz.func76, Tryz.ntmps76
  go_wp2_with (go_at_call 109; refine HI.out.mono ?_; rintro e w' ⟨r, rfl, hr, rfl⟩; have HR := Lib.hid hr; clear hr)
  go_ret
  exact ⟨ret_bool HR.out, rfl⟩
end Go.Proofs.YtgbdbikjckfgmaaGreat

namespace Go.Proofs.YtgbdbikjckfgmaaGreat

/-- What is skipped: an old entry and a new one; -1 stands for all. -/
def skB (s : Int × Int) (i k : Nat) : Bool :=
  if s.1 = -1 ∧ s.2 = -1 then false else if s.1 = -1 then decide ((k : Int) = s.2) else if s.2 = -1 then decide ((i : Int) = s.1) else decide ((i : Int) = s.1) && decide ((k : Int) = s.2)
def SK (l : List (Int × Int)) (i k : Nat) : Bool := l.any fun s => skB s i k
theorem SK_nil (i k : Nat) : SK [] i k = false := rfl
theorem off_nil {g : Nat → Nat → Bool} : offG g (SK []) = g := by
  funext i k; simp [offG, SK]
theorem SK_one (a b : Nat) : SK [((a : Int), (b : Int))] = oneS a b := by
  funext i k
  simp only [SK, List.any_cons, List.any_nil, Bool.or_false, skB, oneS]
  rw [if_neg (by omega), if_neg (by omega), if_neg (by omega)]
  congr 1 <;> (rw [Bool.eq_iff_iff, decide_eq_true_eq, decide_eq_true_eq]; omega)
theorem SK_row (a : Nat) : SK [((a : Int), -1)] = rowS a := by
  funext i k
  simp only [SK, List.any_cons, List.any_nil, Bool.or_false, skB, rowS]
  rw [if_neg (by omega), if_neg (by omega), if_pos trivial]
  rw [Bool.eq_iff_iff, decide_eq_true_eq, decide_eq_true_eq]; omega
theorem SK_col (b : Nat) : SK [(-1, (b : Int))] = colS b := by
  funext i k
  simp only [SK, List.any_cons, List.any_nil, Bool.or_false, skB, colS]
  rw [if_neg (by omega), if_pos trivial]
  rw [Bool.eq_iff_iff, decide_eq_true_eq, decide_eq_true_eq]; omega
theorem SK_two (a b : Nat) : SK [((a : Int), -1), (-1, (b : Int))] = twoS a b := by
  have h1 := SK_row a
  have h2 := SK_col b
  funext i k
  have e1 := congrFun (congrFun h1 i) k
  have e2 := congrFun (congrFun h2 i) k
  simp only [SK, List.any_cons, List.any_nil, Bool.or_false, rowS, colS] at e1 e2 ⊢
  rw [e1, e2]; rfl
end Go.Proofs.YtgbdbikjckfgmaaGreat

namespace Go.Proofs.YtgbdbikjckfgmaaGreat

def Rg (no : Nat) (l : Nat → Int) : Prop := ∀ k, l k = -1 ∨ (0 ≤ l k ∧ l k < no)
theorem Rg.put {no : Nat} {l : Nat → Int} (h : Rg no l) {k x : Nat} (hx : x < no) : Rg no (putL l k (x : Int)) := fun j => by
  unfold putL
  split
  · exact .inr ⟨by omega, by omega⟩
  · exact h j
theorem Rg.to {no : Nat} {l : Nat → Int} (h : Rg no l) {k : Nat} (hk : l k ≠ -1) : (((l k).toNat : Nat) : Int) = l k ∧ (l k).toNat < no := by
  rcases h k with e | e
  · exact absurd e hk
  · omega
/-- What a step of the search needs. -/
structure Ok1 (no : Nat) (l : Nat → Int) (s : Nat → Bool) (l2 : Nat → Int) (s2 : Nat → Bool) : Prop where
  rg : Rg no l2
  sub : ∀ k, s k = true → s2 k = true
theorem free_ok {g : Nat → Nat → Bool} {P : Nat → List Nat} {no : Nat} : ∀ (f : Nat) (l : Nat → Int) (s : Nat → Bool) (x : Nat), x < no → Rg no l → Ok1 no l s (freeL g P f l s x).2.1 (freeL g P f l s x).2.2
  | 0, _, _, _, _, h => ⟨h, fun _ h => h⟩
  | f + 1, l, s, x, hx, hl => by
    have main : ∀ (ks : List Nat) (l : Nat → Int) (s : Nat → Bool), Rg no l → Ok1 no l s (tryL g (freeL g P f) x ks l s).2.1 (tryL g (freeL g P f) x ks l s).2.2 := by
      intro ks
      induction ks with
      | nil => intro l s h; exact ⟨h, fun _ h => h⟩
      | cons k ks ih =>
        intro l s hl
        simp only [tryL]
        by_cases c1 : s k = true ∨ g x k = false
        · rw [if_pos c1]; exact ih l s hl
        rw [if_neg c1]
        by_cases c2 : l k = -1
        · rw [if_pos c2]; exact ⟨hl.put hx, sub_put⟩
        rw [if_neg c2]
        have q := free_ok (g := g) (P := P) f l (putL s k true) (l k).toNat (hl.to c2).2 hl
        have hs : ∀ j, s j = true → (freeL g P f l (putL s k true) (l k).toNat).2.2 j = true := fun j hj => q.sub j (sub_put j hj)
        by_cases c3 : (freeL g P f l (putL s k true) (l k).toNat).1 = true
        · rw [if_pos c3]; exact ⟨q.rg.put hx, hs⟩
        · rw [if_neg c3]
          have i := ih (freeL g P f l (putL s k true) (l k).toNat).2.1 (freeL g P f l (putL s k true) (l k).toNat).2.2 q.rg
          exact ⟨i.rg, fun j hj => i.sub j (hs j hj)⟩
    exact main (P x) l s hl
theorem try_skip {g : Nat → Nat → Bool} {rec : (Nat → Int) → (Nat → Bool) → Nat → Bool × St2} {x k : Nat} {ks : List Nat} {l : Nat → Int} {s : Nat → Bool} (h : s k = true ∨ g x k = false) : tryL g rec x (k :: ks) l s = tryL g rec x ks l s := by
  simp only [tryL]; rw [if_pos h]
theorem try_free {g : Nat → Nat → Bool} {rec : (Nat → Int) → (Nat → Bool) → Nat → Bool × St2} {x k : Nat} {ks : List Nat} {l : Nat → Int} {s : Nat → Bool} (h1 : s k = false) (h2 : g x k = true) (h : l k = -1) : tryL g rec x (k :: ks) l s = (true, putL l k (x : Int), putL s k true) := by
  simp only [tryL]; rw [if_neg (by rw [h1, h2]; simp), if_pos h]
theorem try_yes {g : Nat → Nat → Bool} {rec : (Nat → Int) → (Nat → Bool) → Nat → Bool × St2} {x k : Nat} {ks : List Nat} {l : Nat → Int} {s : Nat → Bool} (h1 : s k = false) (h2 : g x k = true) (h : l k ≠ -1) {r : Bool × St2} (hr : rec l (putL s k true) (l k).toNat = r) (hy : r.1 = true) :
    tryL g rec x (k :: ks) l s = (true, putL r.2.1 k (x : Int), r.2.2) := by
  simp only [tryL]; rw [if_neg (by rw [h1, h2]; simp), if_neg h, hr, if_pos hy]
theorem try_no {g : Nat → Nat → Bool} {rec : (Nat → Int) → (Nat → Bool) → Nat → Bool × St2} {x k : Nat} {ks : List Nat} {l : Nat → Int} {s : Nat → Bool} (h1 : s k = false) (h2 : g x k = true) (h : l k ≠ -1) {r : Bool × St2} (hr : rec l (putL s k true) (l k).toNat = r) (hy : r.1 = false) :
    tryL g rec x (k :: ks) l s = tryL g rec x ks r.2.1 r.2.2 := by
  simp only [tryL]; rw [if_neg (by rw [h1, h2]; simp), if_neg h, hr, if_neg (by rw [hy]; simp)]
theorem SK_all (L : List (Int × Int)) (i k : Nat) : SK L i k = !((List.range L.length).all fun j => !skB (L.getD j (0, 0)) i k) := by
  unfold SK
  rw [Bool.eq_iff_iff]
  constructor
  · intro h
    obtain ⟨s, h1, h2⟩ := List.any_eq_true.1 h
    obtain ⟨j, hj, e⟩ := List.mem_iff_getElem.1 h1
    cases hq : ((List.range L.length).all fun j => !skB (L.getD j (0, 0)) i k)
    · rfl
    · have := List.all_eq_true.1 hq j (List.mem_range.2 hj)
      rw [show L.getD j (0, 0) = s by simp [hj, e], h2] at this
      cases this
  · intro h
    apply Classical.byContradiction
    intro c
    have : ((List.range L.length).all fun j => !skB (L.getD j (0, 0)) i k) = true := List.all_eq_true.2 fun j hj => by
      have hj := List.mem_range.1 hj
      cases hq : skB (L.getD j (0, 0)) i k
      · rfl
      · exact absurd (List.any_eq_true.2 ⟨L[j], List.getElem_mem hj, by rw [show L.getD j (0, 0) = L[j] by simp [hj]] at hq; exact hq⟩) c
    rw [this] at h; cases h
end Go.Proofs.YtgbdbikjckfgmaaGreat

namespace Go.Proofs.YtgbdbikjckfgmaaGreat
open Go.RowKit Go.Shelf

/-- An entry of a list. -/
structure En where
  p : Pers
  sex : Int
  nn : Nat
  z : Nat → Int
  pl : Int
/-- A file. -/
structure Fl where
  no : Nat
  O : Nat → En
  nw : Nat
  N : Nat → En
  nm : Nat
  mf : Nat → Int
  mt : Nat → Int
def En.lim (e : En) : Bool := decide (e.nn ≤ 4)
def En.ok (e : En) : Bool := inB e.sex 0 2 && decide (0 < e.nn) && risesB e.z e.nn 100 && inB e.pl 0 9
def Fl.E (f : Fl) (j : Nat) : En := if j < f.no then f.O j else f.N (j - f.no)
def Fl.mok (f : Fl) (j : Nat) : Bool := inB (f.mf j) 0 9 && inB (f.mt j) 0 9
/-- The first number that is not 0. -/
def firstE (q : Nat → Int) : Nat → Int
  | 0 => 0
  | n + 1 => if firstE q n = 0 then q n else firstE q n
theorem firstE_zero {q : Nat → Int} : ∀ {n : Nat}, (∀ k, k < n → q k = 0) → firstE q n = 0
  | 0, _ => rfl
  | n + 1, h => by
    have e := firstE_zero (q := q) (n := n) fun k hk => h k (by omega)
    simp only [firstE]; rw [if_pos e]; exact h n (by omega)
theorem firstE_at {q : Nat → Int} {k : Nat} (h0 : ∀ j, j < k → q j = 0) (hq : q k ≠ 0) : ∀ {n : Nat}, k < n → firstE q n = q k
  | 0, h => absurd h (Nat.not_lt_zero k)
  | n + 1, h => by
    rcases Nat.lt_succ_iff_lt_or_eq.1 h with h | rfl
    · have e := firstE_at (q := q) h0 hq (n := n) h
      simp only [firstE]; rw [if_neg (by rw [e]; exact hq)]; exact e
    · simp only [firstE]; rw [if_pos (firstE_zero h0)]
theorem firstE_eq {q : Nat → Int} : ∀ {n : Nat}, firstE q n = 0 → ∀ k, k < n → q k = 0
  | 0, _, k, hk => absurd hk (Nat.not_lt_zero k)
  | n + 1, h, k, hk => by
    simp only [firstE] at h
    by_cases c : firstE q n = 0
    · rw [if_pos c] at h
      rcases Nat.lt_succ_iff_lt_or_eq.1 hk with hk | rfl
      · exact firstE_eq c k hk
      · exact h
    · rw [if_neg c] at h; exact absurd h c
def Fl.big (f : Fl) : Bool := decide (8 < f.no) || decide (8 < f.nw) || decide (16 < f.nm) || !allB (fun j => (f.E j).lim) (f.no + f.nw)
def Fl.pf (f : Fl) : Int := firstE (fun j => (f.E j).p.fault) (f.no + f.nw)
def Fl.fine (f : Fl) : Bool := allB (fun j => (f.E j).ok) (f.no + f.nw) && allB f.mok f.nm
def Fl.fault (f : Fl) : Int := if f.big = true then 3 else if f.pf ≠ 0 then f.pf else if f.fine = true then 0 else 1
def sexB (a b : En) : Bool := a.sex == b.sex || a.sex == 2 || b.sex == 2
def nameB (a b : En) : Bool := !allB (fun i => allB (fun k => !(b.z k == a.z i)) b.nn) a.nn
def Fl.movB (f : Fl) (x y : Int) : Bool := !allB (fun k => !(f.mf k == x && f.mt k == y)) f.nm
def Fl.plB (f : Fl) (a b : En) : Bool := a.pl == b.pl || f.movB a.pl b.pl
def ageB (a b : En) : Bool := decide (0 < (meetL a.p.born b.p.born).length)
def Fl.pairB (f : Fl) (a b : En) : Bool := sexB a b && nameB a b && f.plB a b && ageB a b
/-- The pairs. -/
def Fl.g (f : Fl) (i k : Nat) : Bool := decide (i < f.no) && decide (k < f.nw) && f.pairB (f.O i) (f.N k)
def Fl.P (f : Fl) (i : Nat) : List Nat := (List.range f.nw).filter (f.g i)
/-- What holds of a file that is valid. -/
structure OkF (f : Fl) : Prop where
  no : f.no ≤ 8
  nw : f.nw ≤ 8
  nm : f.nm ≤ 16
  e : ∀ j, j < f.no + f.nw → (f.E j).nn ≤ 4 ∧ (f.E j).p.fault = 0 ∧ (f.E j).ok = true
  m : ∀ j, j < f.nm → f.mok j = true
theorem Fl.ok {f : Fl} (h : f.fault = 0) : OkF f := by
  unfold Fl.fault at h
  by_cases c1 : f.big = true
  · rw [if_pos c1] at h; exact absurd h (by decide)
  rw [if_neg c1] at h
  by_cases c2 : f.pf ≠ 0
  · rw [if_pos c2] at h; exact absurd h c2
  rw [if_neg c2] at h
  by_cases c3 : f.fine = true
  · unfold Fl.big at c1
    simp only [Bool.or_eq_true, decide_eq_true_eq, Bool.not_eq_true', not_or] at c1
    obtain ⟨⟨⟨a1, a2⟩, a3⟩, a4⟩ := c1
    have a4 : allB (fun j => (f.E j).lim) (f.no + f.nw) = true := by simpa using a4
    have c2 : f.pf = 0 := by simpa using c2
    unfold Fl.fine at c3
    simp only [Bool.and_eq_true] at c3
    exact ⟨by omega, by omega, by omega, fun j hj => ⟨by simpa [En.lim] using allB_all a4 j hj, firstE_eq c2 j hj, allB_all c3.1 j hj⟩, fun j hj => allB_all c3.2 j hj⟩
  · rw [if_neg c3] at h; exact absurd h (by decide)
theorem OkF.o {f : Fl} (h : OkF f) {j : Nat} (hj : j < f.no) : (f.O j).nn ≤ 4 ∧ (f.O j).p.fault = 0 ∧ (f.O j).ok = true := by
  have := h.e j (by omega)
  unfold Fl.E at this; rwa [if_pos hj] at this
theorem OkF.n {f : Fl} (h : OkF f) {j : Nat} (hj : j < f.nw) : (f.N j).nn ≤ 4 ∧ (f.N j).p.fault = 0 ∧ (f.N j).ok = true := by
  have := h.e (f.no + j) (by omega)
  unfold Fl.E at this; rwa [if_neg (by omega), show f.no + j - f.no = j by omega] at this
theorem Fl.g_in {f : Fl} {i k : Nat} (h : f.g i k = true) : i < f.no ∧ k < f.nw := by
  unfold Fl.g at h
  simp only [Bool.and_eq_true, decide_eq_true_eq] at h
  exact h.1
theorem OkF.g8 {f : Fl} (h : OkF f) : G8 f.g := fun i k e => by
  have := Fl.g_in e; have := h.no; have := h.nw; omega
theorem Fl.P_mem {f : Fl} {i k : Nat} : k ∈ f.P i ↔ f.g i k = true := by
  unfold Fl.P
  rw [List.mem_filter, List.mem_range]
  exact ⟨fun h => h.2, fun h => ⟨(Fl.g_in h).2, h⟩⟩
theorem Fl.P_len (f : Fl) (i : Nat) : (f.P i).length ≤ f.nw := Nat.le_trans (List.length_filter_le _ _) (by simp)
/-- The matching that the program finds without some pairs, and its size. -/
def Fl.m (f : Fl) (S : List (Int × Int)) : (Nat → Int) × Nat := matchL (offG f.g (SK S)) f.P 9 f.no
theorem OkF.mx {f : Fl} (h : OkF f) (S : List (Int × Int)) : Mx (offG f.g (SK S)) (f.m S).2 := by
  have h8 := h.nw
  exact mx_match (nn := f.nw) (fun i k e => (Fl.g_in (offG_sub i k e)).2) (fun i k e => (Fl.g_in (offG_sub i k e)).1) (fun i k e => Fl.P_mem.2 (offG_sub i k e)) h8 (by omega)
theorem OkF.mx0 {f : Fl} (h : OkF f) : Mx f.g (f.m []).2 := by
  have := h.mx []
  rwa [off_nil] at this
/-- The size of a largest matching; whether a pair is sure, its cost. -/
def Fl.most (f : Fl) : Nat := (f.m []).2
def Fl.sure (f : Fl) (i k : Nat) : Bool := decide ((f.m [((i : Int), (k : Int))]).2 < f.most)
def Fl.cost (f : Fl) (i k : Nat) : Int := (f.most : Int) - 1 - (f.m [((i : Int), -1), (-1, (k : Int))]).2
def Fl.poss (f : Fl) (i k : Nat) : Bool := decide (f.cost i k = 0)
theorem OkF.sure_iff {f : Fl} (h : OkF f) {i k : Nat} : f.sure i k = true ↔ ∀ l, Mt f.g l → cntL 8 l = f.most → l k = i := by
  unfold Fl.sure
  rw [decide_eq_true_eq]
  have := h.mx [((i : Int), (k : Int))]
  rw [SK_one] at this
  exact Go.Proofs.YtgbdbikjckfgmaaGreat.sure_iff h.mx0 this
theorem OkF.poss_iff {f : Fl} (h : OkF f) {i k : Nat} (hg : f.g i k = true) : f.poss i k = true ↔ ∃ l, Mt f.g l ∧ cntL 8 l = f.most ∧ l k = i := by
  unfold Fl.poss Fl.cost
  rw [decide_eq_true_eq]
  have := h.mx [((i : Int), -1), (-1, (k : Int))]
  rw [SK_two] at this
  have e := Go.Proofs.YtgbdbikjckfgmaaGreat.poss_iff h.g8 hg h.mx0 this
  unfold Fl.most at *
  rw [← e]
  omega
/-- The new entry of an old one. -/
def backL (l : Nat → Int) (i : Nat) : Nat → Int
  | 0 => -1
  | n + 1 => if l n = i then (n : Int) else backL l i n
theorem backL_at {g : Nat → Nat → Bool} {l : Nat → Int} (h : Mt g l) {i k : Nat} (hk : l k = i) : ∀ n, k < n → backL l i n = k
  | 0, h => absurd h (Nat.not_lt_zero k)
  | n + 1, hn => by
    simp only [backL]
    by_cases c : l n = i
    · rw [if_pos c, h.inj n k (by rw [c, hk]) (by rw [c]; omega)]
    · rw [if_neg c]
      have : k ≠ n := fun e => c (by rw [← e]; exact hk)
      exact backL_at h hk n (by omega)
theorem backL_or {l : Nat → Int} {i : Nat} : ∀ n, (backL l i n = -1 ∧ ∀ k, k < n → l k ≠ i) ∨ ∃ k : Nat, k < n ∧ backL l i n = k ∧ l k = i
  | 0 => .inl ⟨rfl, fun k hk => absurd hk (Nat.not_lt_zero k)⟩
  | n + 1 => by
    simp only [backL]
    by_cases c : l n = i
    · rw [if_pos c]; exact .inr ⟨n, by omega, rfl, c⟩
    · rw [if_neg c]
      rcases backL_or (l := l) (i := i) n with ⟨e, h⟩ | ⟨k, h1, h2, h3⟩
      · refine .inl ⟨e, fun k hk => ?_⟩
        rcases Nat.lt_succ_iff_lt_or_eq.1 hk with hk | rfl
        · exact h k hk
        · exact c
      · exact .inr ⟨k, by omega, h2, h3⟩
end Go.Proofs.YtgbdbikjckfgmaaGreat

namespace Go.Proofs.YtgbdbikjckfgmaaGreat
open Go.RowKit Go.Shelf

/-- Whether links are a matching; how many they are. -/
def Fl.isM (f : Fl) (n : Nat) (z : Nat → Int) : Bool :=
  decide (n = f.no) && allB (fun i => decide (z i = -1) || (decide (0 ≤ z i) && f.g i (z i).toNat && allB (fun j => !(z j == z i)) i)) n
def cntM (z : Nat → Int) (n : Nat) : Nat := ((List.range n).filter fun i => decide (z i ≠ -1)).length
def cutQ (z : Nat → Int) (n : Nat) (i : Nat) : Int := if i < n then z i else -1
theorem cnt_cutQ (z : Nat → Int) {n : Nat} (h : n ≤ 8) : cntL 8 (cutQ z n) = cntM z n := by
  have e := cnt_wide (l := cutQ z n) (nn := n) (fun k hk => by
    apply Classical.byContradiction
    intro c
    exact hk (if_neg c)) (8 - n)
  rw [show n + (8 - n) = 8 by omega] at e
  rw [e]
  unfold cntL cntM
  congr 1
  exact List.filter_congr fun k hk => by rw [show cutQ z n k = z k from if_pos (List.mem_range.1 hk)]
theorem Fl.isM_mt {f : Fl} {n : Nat} {z : Nat → Int} (h : f.isM n z = true) : n = f.no ∧ Mt (turnG f.g) (cutQ z n) := by
  unfold Fl.isM at h
  rw [Bool.and_eq_true, decide_eq_true_eq] at h
  obtain ⟨h1, h2⟩ := h
  have at' : ∀ i, i < n → z i ≠ -1 → 0 ≤ z i ∧ f.g i (z i).toNat = true ∧ ∀ j, j < i → z j ≠ z i := fun i hi hz => by
    have e := allB_all h2 i hi
    simp only [Bool.or_eq_true, decide_eq_true_eq, Bool.and_eq_true] at e
    rcases e with e | ⟨⟨e1, e2⟩, e3⟩
    · exact absurd e hz
    · exact ⟨e1, e2, fun j hj => by simpa using allB_all e3 j hj⟩
  have ne : ∀ i, cutQ z n i ≠ -1 → i < n ∧ cutQ z n i = z i := fun i hi => by
    unfold cutQ at hi ⊢
    by_cases c : i < n
    · exact ⟨c, if_pos c⟩
    · rw [if_neg c] at hi; exact absurd rfl hi
  refine ⟨h1, fun k hk => ?_, fun k k' e hk => ?_⟩
  · obtain ⟨a, b⟩ := ne k hk
    rw [b] at hk ⊢
    obtain ⟨c1, c2, _⟩ := at' k a hk
    exact ⟨c1, c2⟩
  · have hk' : cutQ z n k' ≠ -1 := by rw [← e]; exact hk
    obtain ⟨a, b⟩ := ne k hk
    obtain ⟨a', b'⟩ := ne k' hk'
    rw [b, b'] at e
    rw [b] at hk; rw [b'] at hk'
    rcases Nat.lt_trichotomy k k' with c | c | c
    · exact absurd e ((at' k' a' hk').2.2 k c)
    · exact c
    · exact absurd e.symm ((at' k a hk).2.2 k' c)
theorem mt_isM {f : Fl} {z : Nat → Int} (h : Mt (turnG f.g) (cutQ z f.no)) : f.isM f.no z = true := by
  unfold Fl.isM
  rw [Bool.and_eq_true, decide_eq_true_eq]
  refine ⟨rfl, allB_true fun i hi => ?_⟩
  have e : ∀ j, j < f.no → cutQ z f.no j = z j := fun j hj => if_pos hj
  by_cases c : z i = -1
  · simp [c]
  · obtain ⟨a, b⟩ := h.ok i (by rw [e i hi]; exact c)
    rw [e i hi] at a b
    simp only [Bool.or_eq_true, decide_eq_true_eq, Bool.and_eq_true]
    refine .inr ⟨⟨a, b⟩, allB_true fun j hj => ?_⟩
    have : z j ≠ z i := fun e2 => by
      have := h.inj j i (by rw [e i hi, e j (by omega), e2]) (by rw [e j (by omega), e2]; exact c)
      omega
    simpa using this
/-- Links that are a matching, told by the new entries. -/
theorem OkF.turned {f : Fl} (h : OkF f) {n : Nat} {z : Nat → Int} (hm : f.isM n z = true) : n = f.no ∧ ∃ l, Mt f.g l ∧ cntL 8 l = cntM z n ∧ ∀ i k : Nat, (i < n ∧ z i = k) ↔ l k = i := by
  obtain ⟨rfl, hq⟩ := Fl.isM_mt hm
  obtain ⟨l, h1, h2, h3⟩ := mt_turn (turn_8 h.g8) hq
  refine ⟨rfl, l, h1, by rw [← h2, cnt_cutQ z h.no], fun i k => ?_⟩
  rw [← h3 k i]
  unfold cutQ
  by_cases c : i < f.no
  · rw [if_pos c]; exact ⟨fun h => h.2, fun h => ⟨c, h⟩⟩
  · rw [if_neg c]; exact ⟨fun h => absurd h.1 c, fun h => by omega⟩
/-- The links that the program returns. -/
def Fl.lst (f : Fl) (i : Nat) : Int := backL (f.m []).1 i 8
theorem OkF.best {f : Fl} (h : OkF f) : Mt f.g (f.m []).1 ∧ cntL 8 (f.m []).1 = f.most := by
  have h8 := h.nw
  have hn : ∀ i k, offG f.g (SK []) i k = true → k < f.nw := fun i k e => (Fl.g_in (offG_sub i k e)).2
  obtain ⟨D, b⟩ := match_best (P := f.P) (F := 9) hn (fun i k e => Fl.P_mem.2 (offG_sub i k e)) (by omega) f.no
  have hm := b.mt
  exact ⟨hm.mono offG_sub, (mt_wide hn h8 hm).trans b.cnt⟩
theorem OkF.lst_iff {f : Fl} (h : OkF f) {i k : Nat} : f.lst i = k ↔ (f.m []).1 k = i := by
  obtain ⟨hm, _⟩ := h.best
  unfold Fl.lst
  constructor
  · intro e
    rcases backL_or (l := (f.m []).1) (i := i) 8 with ⟨e1, _⟩ | ⟨k', _, e1, e2⟩
    · rw [e1] at e; omega
    · rw [e1] at e
      have : k' = k := by omega
      rw [← this]; exact e2
  · intro e
    have hk : k < 8 := (h.g8 _ _ (hm.ok k (by rw [e]; omega)).2).2
    exact backL_at hm e 8 hk
theorem OkF.lst_or {f : Fl} (_h : OkF f) (i : Nat) : f.lst i = -1 ∨ ∃ k : Nat, f.lst i = k := by
  unfold Fl.lst
  rcases backL_or (l := (f.m []).1) (i := i) 8 with ⟨e1, _⟩ | ⟨k', _, e1, _⟩
  · exact .inl e1
  · exact .inr ⟨k', e1⟩
theorem OkF.lst_g {f : Fl} (h : OkF f) {i k : Nat} (e : f.lst i = k) : f.g i k = true := by
  have e2 := h.lst_iff.1 e
  have := (h.best.1.ok k (by rw [e2]; omega)).2
  rwa [e2, Int.toNat_natCast] at this
theorem OkF.lst_mt {f : Fl} (h : OkF f) : Mt (turnG f.g) (cutQ f.lst f.no) ∧ cntM f.lst f.no = f.most := by
  obtain ⟨hm, hc⟩ := h.best
  obtain ⟨q, h1, h2, h3⟩ := mt_turn h.g8 hm
  have e : cutQ f.lst f.no = q := by
    funext i
    unfold cutQ
    by_cases c : i < f.no
    · rw [if_pos c]
      rcases h.lst_or i with e | ⟨k, e⟩
      · rw [e]
        apply Classical.byContradiction
        intro hq
        have hq' : q i ≠ -1 := fun h => hq h.symm
        have ok := (h1.ok i hq').1
        have := h.lst_iff.2 ((h3 i (q i).toNat).2 (by omega))
        omega
      · rw [e]; exact ((h3 i k).1 (h.lst_iff.1 e)).symm
    · rw [if_neg c]
      apply Classical.byContradiction
      intro hq
      have hq' : q i ≠ -1 := fun h => hq h.symm
      have := (h1.ok i hq').2
      exact c (Fl.g_in this).1
  refine ⟨by rw [e]; exact h1, ?_⟩
  rw [← cnt_cutQ _ h.no, e, ← h2, hc]
theorem OkF.lst_isM {f : Fl} (h : OkF f) : f.isM f.no f.lst = true := mt_isM h.lst_mt.1
/-- No matching is larger. -/
theorem OkF.isM_le {f : Fl} (h : OkF f) {n : Nat} {z : Nat → Int} (hm : f.isM n z = true) : cntM z n ≤ f.most := by
  obtain ⟨_, l, h1, h2, _⟩ := h.turned hm
  rw [← h2]; exact h.mx0.2 l h1
/-- A cover. -/
def Fl.isC (f : Fl) (na : Nat) (a : Nat → Int) (nb : Nat) (b : Nat → Int) : Bool :=
  risesB a na f.no && risesB b nb f.nw && allB (fun i => allB (fun k => !f.g i k || hasN a na i || hasN b nb k) f.nw) f.no
theorem Fl.isC_all {f : Fl} {na nb : Nat} {a b : Nat → Int} (h : f.isC na a nb b = true) : ∀ i k, f.g i k = true → hasN a na i = true ∨ hasN b nb k = true := fun i k hg => by
  unfold Fl.isC at h
  simp only [Bool.and_eq_true] at h
  obtain ⟨a1, a2⟩ := Fl.g_in hg
  have := allB_all (allB_all h.2 i a1) k a2
  simp only [hg, Bool.not_true, Bool.false_or, Bool.or_eq_true] at this
  exact this
/-- No cover is smaller than a matching. -/
theorem OkF.cover_ge {f : Fl} (h : OkF f) {na nb : Nat} {a b : Nat → Int} (hc : f.isC na a nb b = true) : f.most ≤ na + nb := by
  obtain ⟨hm, he⟩ := h.best
  rw [← he]
  generalize (f.m []).1 = l at *
  have hn : ((List.range 8).filter fun k => decide (l k ≠ -1)).Nodup := (range_nodup 8).filter _
  let M : List (Bool × Int) := ((List.range na).map fun j => (true, a j)) ++ ((List.range nb).map fun j => (false, b j))
  have hM : M.length = na + nb := by simp [M]
  rw [← hM]
  unfold cntL
  refine inj_le (fun k : Nat => if hasN b nb k = true then (false, (k : Int)) else (true, l k)) _ M hn (fun k hk => ?_) (fun k k' hk hk' e => ?_)
  · rw [List.mem_filter, decide_eq_true_eq] at hk
    by_cases c : hasN b nb k = true
    · simp only [c, if_true]
      obtain ⟨j, h1, h2⟩ := hasN_iff.1 c
      exact List.mem_append_right _ (List.mem_map.2 ⟨j, List.mem_range.2 h1, by rw [h2]⟩)
    · simp only [c]
      obtain ⟨p1, p2⟩ := hm.ok k hk.2
      rcases Fl.isC_all hc _ _ p2 with d | d
      · obtain ⟨j, h1, h2⟩ := hasN_iff.1 d
        exact List.mem_append_left _ (List.mem_map.2 ⟨j, List.mem_range.2 h1, by rw [h2]; congr 1; omega⟩)
      · exact absurd d c
  · rw [List.mem_filter, decide_eq_true_eq] at hk hk'
    by_cases c : hasN b nb k = true <;> by_cases c' : hasN b nb k' = true
    · simp only [c, c', if_true] at e
      have := (Prod.mk.inj e).2; omega
    · simp only [c, c', if_true] at e
      exact absurd (Prod.mk.inj e).1 (by decide)
    · simp only [c, c', if_true] at e
      exact absurd (Prod.mk.inj e).1 (by decide)
    · simp only [c, c'] at e
      exact hm.inj k k' (Prod.mk.inj e).2 hk.2
/-- Sure pairs are pairs; a sure pair is possible. -/
theorem OkF.sure_lst {f : Fl} (h : OkF f) {i k : Nat} (hs : f.sure i k = true) : f.lst i = k := by
  obtain ⟨hm, he⟩ := h.best
  exact h.lst_iff.2 (h.sure_iff.1 hs _ hm he)
theorem OkF.lst_poss {f : Fl} (h : OkF f) {i k : Nat} (e : f.lst i = k) : f.poss i k = true := by
  obtain ⟨hm, he⟩ := h.best
  exact (h.poss_iff (h.lst_g e)).2 ⟨_, hm, he, h.lst_iff.1 e⟩
theorem OkF.sure_poss {f : Fl} (h : OkF f) {i k : Nat} (hs : f.sure i k = true) : f.poss i k = true := h.lst_poss (h.sure_lst hs)
/-- Whether the largest matching is the only one. -/
def Fl.only (f : Fl) : Bool := allB (fun i => decide (f.lst i = -1) || f.sure i (f.lst i).toNat) f.no
theorem OkF.only_poss {f : Fl} (h : OkF f) (ho : f.only = true) {i k : Nat} (hg : f.g i k = true) (hp : f.poss i k = true) : f.lst i = k := by
  obtain ⟨l, h1, h2, h3⟩ := (h.poss_iff hg).1 hp
  obtain ⟨hm, he⟩ := h.best
  -- each link of the program's matching is in l; both have the same size
  have key : ∀ k, (f.m []).1 k ≠ -1 → l k = (f.m []).1 k := fun k hk => by
    obtain ⟨a1, a2⟩ := hm.ok k hk
    have hi := (Fl.g_in a2).1
    have e : f.lst ((f.m []).1 k).toNat = k := h.lst_iff.2 (by omega)
    have := allB_all ho _ hi
    simp only [Bool.or_eq_true, decide_eq_true_eq] at this
    rcases this with c | c
    · rw [e] at c; omega
    · rw [e, Int.toNat_natCast] at c
      have := h.sure_iff.1 c l h1 h2
      omega
  refine h.lst_iff.2 ?_
  apply Classical.byContradiction
  intro c
  by_cases c2 : (f.m []).1 k = -1
  · -- then l has more links
    have hk8 : k < 8 := (h.g8 _ _ hg).2
    have : cntL 8 (f.m []).1 < cntL 8 l := by
      unfold cntL
      refine filter_lt (k := k) (fun j hj => ?_) ?_ ?_ _ (List.mem_range.2 hk8)
      · rw [decide_eq_true_eq] at hj ⊢
        rw [key j hj]; exact hj
      · simpa using c2
      · rw [decide_eq_true_eq, h3]; omega
    omega
  · exact c ((key k c2).symm.trans h3)
end Go.Proofs.YtgbdbikjckfgmaaGreat

namespace Go.Proofs.YtgbdbikjckfgmaaGreat
open Go.RowKit Go.Shelf

abbrev QT := World → Value → Value → Value → En → Prop
/-- What an entry's lists are: in the program, in the reference. -/
def QP : QT := fun w rv cv nv e => RlsAt w rv e.p.nr e.p.R ∧ RcsAt w cv e.p.nc e.p.C ∧ IntsIn w nv e.nn e.z ∧ e.p.nr ≤ 100000 ∧ e.p.nc ≤ 100000 ∧ e.nn ≤ 100000
def QR : QT := fun w rv cv nv e => RlsIn w rv e.p.nr e.p.R ∧ RcsIn w cv e.p.nc e.p.C ∧ IntsIn w nv e.nn e.z ∧ e.p.nr ≤ maxLen ∧ e.p.nc ≤ maxLen ∧ e.nn ≤ maxLen
def QK (Q : QT) : Prop := ∀ w w' rv cv nv e, Q w rv cv nv e → Below w.heap.size w w' → Q w' rv cv nv e
theorem QP.k : QK QP := fun _ _ _ _ _ _ h hb => ⟨h.1.below hb, h.2.1.below hb, h.2.2.1.below hb, h.2.2.2⟩
theorem QR.k : QK QR := fun _ _ _ _ _ _ h hb => ⟨h.1.below hb, h.2.1.below hb, h.2.2.1.below hb, h.2.2.2⟩
def enV (e : En) (rv cv nv : Value) : Value := .agg #[.int .i64 e.p.lo, .int .i64 e.p.hi, rv, cv, .int .i64 e.sex, nv, .int .i64 e.pl]
/-- An entry's seven cells from an offset on. -/
def En7 (w : World) (b o : Nat) (e : En) (rv cv nv : Value) : Prop :=
  w.cell? ⟨b, o, none⟩ = some (.int .i64 e.p.lo) ∧ w.cell? ⟨b, o + 1, none⟩ = some (.int .i64 e.p.hi) ∧ w.cell? ⟨b, o + 2, none⟩ = some rv ∧ w.cell? ⟨b, o + 3, none⟩ = some cv ∧
  w.cell? ⟨b, o + 4, none⟩ = some (.int .i64 e.sex) ∧ w.cell? ⟨b, o + 5, none⟩ = some nv ∧ w.cell? ⟨b, o + 6, none⟩ = some (.int .i64 e.pl)
theorem En7.below {w w' : World} {b o : Nat} {e : En} {rv cv nv : Value} (h : En7 w b o e rv cv nv) (hb : b < w.heap.size) (hB : Below w.heap.size w w') : En7 w' b o e rv cv nv :=
  ⟨kept hB hb h.1, kept hB hb h.2.1, kept hB hb h.2.2.1, kept hB hb h.2.2.2.1, kept hB hb h.2.2.2.2.1, kept hB hb h.2.2.2.2.2.1, kept hB hb h.2.2.2.2.2.2⟩
def EsQ (Q : QT) (w : World) (sv : Value) (n : Nat) (E : Nat → En) : Prop :=
  (∃ a cap, sv = .slice a 0 cap ∧ n = 0) ∨ ∃ b off cap, sv = .slice (some ⟨b, off, none⟩) n cap ∧ b < w.heap.size ∧ ∀ j, j < n → ∃ rv cv nv, En7 w b (off + j * 7) (E j) rv cv nv ∧ Q w rv cv nv (E j)
theorem EsQ.below {Q : QT} (hQ : QK Q) {w w' : World} {sv : Value} {n : Nat} {E : Nat → En} (h : EsQ Q w sv n E) (hB : Below w.heap.size w w') : EsQ Q w' sv n E := by
  rcases h with h | ⟨b, off, cap, rfl, hb, hz⟩
  · exact .inl h
  · refine .inr ⟨b, off, cap, rfl, Nat.lt_of_lt_of_le hb hB.size, fun j hj => ?_⟩
    obtain ⟨rv, cv, nv, h1, h2⟩ := hz j hj
    exact ⟨rv, cv, nv, h1.below hb hB, hQ _ _ _ _ _ _ h2 hB⟩
theorem EsQ.slice {Q : QT} {w : World} {sv : Value} {n : Nat} {E : Nat → En} (h : EsQ Q w sv n E) : ∃ a cap, sv = .slice a n cap := by
  rcases h with ⟨a, cap, rfl, rfl⟩ | ⟨b, off, cap, rfl, _⟩
  · exact ⟨_, _, rfl⟩
  · exact ⟨_, _, rfl⟩
theorem EsQ.at {Q : QT} {w : World} {a : Option Addr} {n cap : Nat} {E : Nat → En} (h : EsQ Q w (.slice a n cap) n E) {k : Nat} (hk : k < n) : ∃ b off rv cv nv, a = some ⟨b, off, none⟩ ∧ b < w.heap.size ∧ En7 w b (off + k * 7) (E k) rv cv nv ∧ Q w rv cv nv (E k) := by
  rcases h with ⟨_, _, _, h⟩ | ⟨b', o', c', e, hb, hz⟩
  · omega
  · cases e
    obtain ⟨rv, cv, nv, h1, h2⟩ := hz k hk
    exact ⟨_, _, rv, cv, nv, rfl, hb, h1, h2⟩
theorem EsQ.congr {Q : QT} {w : World} {v : Value} {n : Nat} {E E' : Nat → En} (h : EsQ Q w v n E) (e : ∀ j, j < n → E j = E' j) : EsQ Q w v n E' := by
  rcases h with h | ⟨b, off, cap, h1, h2, h3⟩
  · exact .inl h
  · exact .inr ⟨b, off, cap, h1, h2, fun j hj => by rw [← e j hj]; exact h3 j hj⟩
theorem EsQ.nil (Q : QT) (w : World) (a : Option Addr) (c : Nat) (E : Nat → En) : EsQ Q w (.slice a 0 c) 0 E := .inl ⟨_, _, rfl, rfl⟩
theorem QP.pers {w : World} {rv cv nv : Value} {e : En} (h : QP w rv cv nv e) : PersAt w (.agg #[.int .i64 e.p.lo, .int .i64 e.p.hi, rv, cv]) e.p := ⟨rv, cv, rfl, h.1, h.2.1⟩
theorem QR.pers {w : World} {rv cv nv : Value} {e : En} (h : QR w rv cv nv e) : PersIn w (.agg #[.int .i64 e.p.lo, .int .i64 e.p.hi, rv, cv]) e.p := ⟨rv, cv, rfl, h.1, h.2.1⟩
/-- Where a file's lists lie. -/
structure FV where
  oa : Option Addr
  oc : Nat
  na : Option Addr
  nc : Nat
  ma : Option Addr
  mc : Nat
def FV.v (x : FV) (f : Fl) : Value := .agg #[.slice x.oa f.no x.oc, .slice x.na f.nw x.nc, .slice x.ma f.nm x.mc]
structure FlQ (Q : QT) (w : World) (x : FV) (f : Fl) : Prop where
  o : EsQ Q w (.slice x.oa f.no x.oc) f.no f.O
  n : EsQ Q w (.slice x.na f.nw x.nc) f.nw f.N
  m : RsIn w (.slice x.ma f.nm x.mc) f.nm f.mf f.mt
theorem FlQ.below {Q : QT} (hQ : QK Q) {w w' : World} {x : FV} {f : Fl} (h : FlQ Q w x f) (hB : Below w.heap.size w w') : FlQ Q w' x f := ⟨h.o.below hQ hB, h.n.below hQ hB, h.m.below hB⟩

end Go.Proofs.YtgbdbikjckfgmaaGreat
