/- wider (of the law's package). -/
import Derived.Test.YtjaoflfophcibaaPF
namespace Go.Proofs.Ytjaoflfophcibaa
open Go.RowKit Go.Shelf

def inW (a b : R2) : Bool := decide (b.1 ≤ a.1) && decide (a.2 ≤ b.2)
def widerB (n m : Nat) (rl rl' : Nat → Nat) (ct ct' : Nat → Nat → R2) : Bool := decide (n = m) && allB (fun i => decide (rl i = rl' i) && allB (fun k => inW (ct i k) (ct' i k)) (rl i)) n
theorem widerB_of {n : Nat} {rl rl' : Nat → Nat} {ct ct' : Nat → Nat → R2} (h : ∀ i, i < n → rl i = rl' i ∧ ∀ k, k < rl i → (ct' i k).1 ≤ (ct i k).1 ∧ (ct i k).2 ≤ (ct' i k).2) : widerB n n rl rl' ct ct' = true := by
  unfold widerB
  rw [decide_eq_true rfl, allB_true (fun i hi => by rw [decide_eq_true (h i hi).1, allB_true (fun k hk => by unfold inW; rw [decide_eq_true ((h i hi).2 k hk).1, decide_eq_true ((h i hi).2 k hk).2]; rfl)]; rfl)]
  rfl
theorem rows_slice {w : World} {sv : Value} {n : Nat} {rl : Nat → Nat} {ct : Nat → Nat → R2} (h : RowsAt w sv n rl ct) : ∃ a c, sv = .slice a n c := by
  rcases h with ⟨rfl, rfl⟩ | ⟨b, off, cap, rfl, _⟩
  · exact ⟨_, _, rfl⟩
  · exact ⟨_, _, rfl⟩
theorem rs_at {w : World} {a : Option Addr} {n cap : Nat} {R : Nat → R2} (h : RsAt w (.slice a n cap) n R) {k : Nat} (hk : k < n) : ∃ b off, a = some ⟨b, off, none⟩ ∧ b < w.heap.size ∧ w.cell? ⟨b, off + k * 2, none⟩ = some (.int .i64 (R k).1) ∧ w.cell? ⟨b, off + k * 2 + 1, none⟩ = some (.int .i64 (R k).2) := by
  rcases h with ⟨_, h⟩ | ⟨b', o', c', e, hb, hz⟩
  · omega
  · cases e; exact ⟨_, _, rfl, hb, hz k hk⟩
set_option maxRecDepth 100000 in
set_option maxHeartbeats 4000000 in
theorem wider_any (a b : Value) (n m : Nat) (rl rl' : Nat → Nat) (ct ct' : Nat → Nat → R2) (w : World) (ha : RowsAt w a n rl ct) (hb : RowsAt w b m rl' ct') (hn : n ≤ 1000000) (hm : m ≤ 1000000) (hrl : ∀ i, i < n → rl i ≤ 1000000) (hrl' : ∀ i, i < m → rl' i ≤ 1000000) :
    Calls Try.prog 42 #[a, b] w fun e w' => e = .returned (.bool (widerB n m rl rl' ct ct')) ∧ Below w.heap.size w w' := by
  obtain ⟨aa, ac, rfl⟩ := rows_slice ha
  obtain ⟨ba, bc, rfl⟩ := rows_slice hb
  have HA := Lib.hid ha; have HB := Lib.hid hb
  have HL := Lib.hid hrl; have HL' := Lib.hid hrl'
  clear ha hb hrl hrl'
  go_enter Try.func42, Try.ntmps42
  by_cases hnm : n = m
  · subst hnm
    go_wp2_with fail
    go_loopw [5] (fun i wr => ∃ k : Nat, k ≤ n ∧ i = .int .i64 k ∧ Below w.heap.size w wr ∧ ∀ q, q < k → (decide (rl q = rl' q) && allB (fun j => inW (ct q j) (ct' q j)) (rl q)) = true) (fun i _ => n - (intOf i).toNat)
    case atStart => exact ⟨0, Nat.zero_le _, rfl, Below.refl _ _, fun q h => absurd h (Nat.not_lt_zero _)⟩
    case round =>
      obtain ⟨k, hk, rfl, hbl, hall⟩ := hrel
      have HBL := Lib.hid hbl; have HALL := Lib.hid hall
      clear hbl hall
      have ki : (0 : Int) ≤ (k : Int) := by omega
      by_cases hlt : k < n
      · have kj : (k : Int) < (n : Int) := by omega
        obtain ⟨a1, o1, a2, c2, rfl, h1, x1, hr1⟩ := HA.out.at hlt
        obtain ⟨b1, p0, b2, d2, rfl, h2, x2, hr2⟩ := HB.out.at hlt
        have hl1 := HL.out k hlt
        have hl2 := HL'.out k hlt
        have HR1 := Lib.hid hr1; have HR2 := Lib.hid hr2
        have HC6 : Hid (∀ X, Below w.heap.size w X → X.cell? ⟨a1, o1 + k, none⟩ = some (.slice a2 (rl k) c2) ∧ X.cell? ⟨b1, p0 + k, none⟩ = some (.slice b2 (rl' k) d2)) := fun X hX => ⟨kept hX h1 x1, kept hX h2 x2⟩
        clear hr1 hr2
        go_wp2_with fail
        go_cut [28] (fun s28 wx => s28 = .bool ((rl k : Int) != (rl' k : Int)) ∧ Below w.heap.size w wx)
        case first =>
          have HAX : Hid (Below w.heap.size w wr.drew) := HBL.out.drew
          refine wp_region_held_drew (S := fun X => X.cell? ⟨a1, o1 + k, none⟩ = some (.slice a2 (rl k) c2) ∧ X.cell? ⟨b1, p0 + k, none⟩ = some (.slice b2 (rl' k) d2)) (by kernel_rfl) (HC6.out _ HAX.out) (fun hS => ?_)
          generalize wr.drew = X at *
          refine tk [0, 1, 2, 3, 4, 5, 6, 7, 8, 9, 10] ?_
          repeat (refine tkH (oi := ⟨_, _, _, _, _, _⟩) (v := ?_) rfl (by kernel_rfl) (by rfl) (fun _ _ _ h => h) hS ?_ ?_; rotate_left; (· rintro W' ⟨z0, z1⟩; go_simp; try with_reducible rfl); try simp only [Act.put, putA, putZ, putS])
          refine tk0 ?_
          refine wpAnyH_done (by kernel_rfl) ?_ _
          go_wp2_with fail
          go_meet
          exact ⟨rfl, HAX.out⟩
        case rest =>
          rename World => wx
          obtain ⟨rfl, hbx⟩ := hcut
          have HBX := Lib.hid hbx
          clear hbx HBL
          by_cases he : rl k = rl' k
          · have hf : ((rl k : Int) != (rl' k : Int)) = false := by rw [he]; simp
            rw [hf]
            clear hf
            go_wp2_with fail
            go_loopw [6] (fun i wy => ∃ g : Nat, g ≤ rl k ∧ i = .int .i64 g ∧ Below w.heap.size w wy ∧ ∀ j, j < g → inW (ct k j) (ct' k j) = true) (fun i _ => rl k - (intOf i).toNat)
            case atStart => exact ⟨0, Nat.zero_le _, rfl, HBX.out, fun q h => absurd h (Nat.not_lt_zero _)⟩
            case round =>
              clear HBX
              obtain ⟨g, hg, rfl, hby, hall⟩ := hrel
              rename World => wy
              have HBY := Lib.hid hby; have HAL2 := Lib.hid hall
              clear hby hall
              have y1 := kept HBY.out h1 x1
              have gi : (0 : Int) ≤ (g : Int) := by omega
              by_cases hlg : g < rl k
              · have gj : (g : Int) < (rl k : Int) := by omega
                have gj' : (g : Int) < (rl' k : Int) := by omega
                obtain ⟨a3, o3, rfl, h3, x3, x3'⟩ := rs_at HR1.out hlg
                obtain ⟨b3, p3, rfl, h4, x4, x4'⟩ := rs_at HR2.out (show g < rl' k by omega)
                obtain ⟨p1, p2, HPV⟩ : ∃ p q, Hid (ct k g = (p, q)) := ⟨_, _, rfl⟩
                obtain ⟨q1, q2, HQV⟩ : ∃ p q, Hid (ct' k g = (p, q)) := ⟨_, _, rfl⟩
                rw [HPV.out] at x3 x3'
                rw [HQV.out] at x4 x4'
                simp only at x3 x3' x4 x4'
                have HC11 : Hid (∀ X, Below w.heap.size w X → X.cell? ⟨a1, o1 + k, none⟩ = some (.slice (some ⟨a3, o3, none⟩) (rl k) c2) ∧ X.cell? ⟨b1, p0 + k, none⟩ = some (.slice (some ⟨b3, p3, none⟩) (rl' k) d2) ∧ X.cell? ⟨a3, o3 + g * 2, none⟩ = some (.int .i64 p1) ∧ X.cell? ⟨a3, o3 + g * 2 + 1, none⟩ = some (.int .i64 p2) ∧ X.cell? ⟨b3, p3 + g * 2, none⟩ = some (.int .i64 q1) ∧ X.cell? ⟨b3, p3 + g * 2 + 1, none⟩ = some (.int .i64 q2)) := fun X hX => ⟨kept hX h1 x1, kept hX h2 x2, kept hX h3 x3, kept hX h3 x3', kept hX h4 x4, kept hX h4 x4'⟩
                have HAX : Hid (Below w.heap.size w wy.drew) := HBY.out.drew
                go_wp2_with fail
                refine wp_region_held_drew (S := fun X => X.cell? ⟨a1, o1 + k, none⟩ = some (.slice (some ⟨a3, o3, none⟩) (rl k) c2) ∧ X.cell? ⟨b1, p0 + k, none⟩ = some (.slice (some ⟨b3, p3, none⟩) (rl' k) d2) ∧ X.cell? ⟨a3, o3 + g * 2, none⟩ = some (.int .i64 p1) ∧ X.cell? ⟨a3, o3 + g * 2 + 1, none⟩ = some (.int .i64 p2) ∧ X.cell? ⟨b3, p3 + g * 2, none⟩ = some (.int .i64 q1) ∧ X.cell? ⟨b3, p3 + g * 2 + 1, none⟩ = some (.int .i64 q2)) (by kernel_rfl) (HC11.out _ HAX.out) (fun hS => ?_)
                generalize wy.drew = X at *
                by_cases c1 : p1 < q1
                · have HE : Hid (inW (ct k g) (ct' k g) = false) := by unfold Hid inW; rw [HPV.out, HQV.out, decide_eq_false (show ¬ q1 ≤ p1 by omega)]; rfl
                  refine tk [0, 1, 2, 3, 4, 5, 6, 7, 8, 9, 10, 11, 12, 13, 14, 15] ?_
                  repeat (refine tkH (oi := ⟨_, _, _, _, _, _⟩) (v := ?_) rfl (by kernel_rfl) (by rfl) (fun _ _ _ h => h) hS ?_ ?_; rotate_left; (· rintro W' ⟨z0, z1, z2, z3, z4, z5⟩; go_simp; try with_reducible rfl); try simp only [Act.put, putA, putZ, putS])
                  refine tk0 ?_
                  refine tH 16 (oi := ⟨_, _, _, _, _, _⟩) (v := .bool true) rfl (by kernel_rfl) (by rfl) (fun _ _ _ h => h) hS ?_ ?_
                  · rintro W' ⟨z0, z1, z2, z3, z4, z5⟩; go_simp; (try omega)
                  try simp only [Act.put, putA, putZ, putS]
                  refine tH 17 (oi := ⟨_, _, _, _, _, _⟩) (v := ?_) rfl (by kernel_rfl) (by rfl) (fun _ _ _ h => h) hS ?_ ?_
                  rotate_left
                  · rintro W' ⟨z0, z1, z2, z3, z4, z5⟩; go_simp; try with_reducible rfl
                  try simp only [Act.put, putA, putZ, putS]
                  refine wpAnyH_take (i := 18) (oi := ⟨some 56, _, _, _, _, _⟩) (v := undef) rfl (by kernel_rfl) (by kernel_rfl) (by kernel_rfl) (fun _ _ _ h => h) (Or.inr ⟨by rfl, rfl⟩) hS ?_
                  try simp only [Act.put, putA, putZ, putS]
                  refine wpAnyH_take (i := 19) (oi := ⟨some 57, _, _, _, _, _⟩) (v := undef) rfl (by kernel_rfl) (by kernel_rfl) (by kernel_rfl) (fun _ _ _ h => h) (Or.inr ⟨by rfl, rfl⟩) hS ?_
                  try simp only [Act.put, putA, putZ, putS]
                  refine wpAnyH_take (i := 20) (oi := ⟨some 58, _, _, _, _, _⟩) (v := undef) rfl (by kernel_rfl) (by kernel_rfl) (by kernel_rfl) (fun _ _ _ h => h) (Or.inr ⟨by rfl, rfl⟩) hS ?_
                  try simp only [Act.put, putA, putZ, putS]
                  refine wpAnyH_take (i := 21) (oi := ⟨some 59, _, _, _, _, _⟩) (v := undef) rfl (by kernel_rfl) (by kernel_rfl) (by kernel_rfl) (fun _ _ _ h => h) (Or.inr ⟨by rfl, rfl⟩) hS ?_
                  try simp only [Act.put, putA, putZ, putS]
                  refine wpAnyH_take (i := 22) (oi := ⟨some 60, _, _, _, _, _⟩) (v := undef) rfl (by kernel_rfl) (by kernel_rfl) (by kernel_rfl) (fun _ _ _ h => h) (Or.inr ⟨by rfl, rfl⟩) hS ?_
                  try simp only [Act.put, putA, putZ, putS]
                  refine wpAnyH_take (i := 23) (oi := ⟨some 61, _, _, _, _, _⟩) (v := undef) rfl (by kernel_rfl) (by kernel_rfl) (by kernel_rfl) (fun _ _ _ h => h) (Or.inr ⟨by rfl, rfl⟩) hS ?_
                  try simp only [Act.put, putA, putZ, putS]
                  refine wpAnyH_take (i := 24) (oi := ⟨some 62, _, _, _, _, _⟩) (v := undef) rfl (by kernel_rfl) (by kernel_rfl) (by kernel_rfl) (fun _ _ _ h => h) (Or.inr ⟨by rfl, rfl⟩) hS ?_
                  try simp only [Act.put, putA, putZ, putS]
                  refine wpAnyH_take (i := 25) (oi := ⟨some 63, _, _, _, _, _⟩) (v := undef) rfl (by kernel_rfl) (by kernel_rfl) (by kernel_rfl) (fun _ _ _ h => h) (Or.inr ⟨by rfl, rfl⟩) hS ?_
                  try simp only [Act.put, putA, putZ, putS]
                  refine wpAnyH_take (i := 26) (oi := ⟨some 64, _, _, _, _, _⟩) (v := undef) rfl (by kernel_rfl) (by kernel_rfl) (by kernel_rfl) (fun _ _ _ h => h) (Or.inr ⟨by rfl, rfl⟩) hS ?_
                  try simp only [Act.put, putA, putZ, putS]
                  refine wpAnyH_take (i := 27) (oi := ⟨some 65, _, _, _, _, _⟩) (v := undef) rfl (by kernel_rfl) (by kernel_rfl) (by kernel_rfl) (fun _ _ _ h => h) (Or.inr ⟨by rfl, rfl⟩) hS ?_
                  try simp only [Act.put, putA, putZ, putS]
                  refine wpAnyH_take (i := 28) (oi := ⟨some 66, _, _, _, _, _⟩) (v := undef) rfl (by kernel_rfl) (by kernel_rfl) (by kernel_rfl) (fun _ _ _ h => h) (Or.inr ⟨by rfl, rfl⟩) hS ?_
                  try simp only [Act.put, putA, putZ, putS]
                  refine wpAnyH_take (i := 29) (oi := ⟨some 67, _, _, _, _, _⟩) (v := undef) rfl (by kernel_rfl) (by kernel_rfl) (by kernel_rfl) (fun _ _ _ h => h) (Or.inr ⟨by rfl, rfl⟩) hS ?_
                  try simp only [Act.put, putA, putZ, putS]
                  refine wpAnyH_take (i := 30) (oi := ⟨some 68, _, _, _, _, _⟩) (v := undef) rfl (by kernel_rfl) (by kernel_rfl) (by kernel_rfl) (fun _ _ _ h => h) (Or.inr ⟨by rfl, rfl⟩) hS ?_
                  try simp only [Act.put, putA, putZ, putS]
                  refine wpAnyH_take (i := 31) (oi := ⟨some 69, _, _, _, _, _⟩) (v := undef) rfl (by kernel_rfl) (by kernel_rfl) (by kernel_rfl) (fun _ _ _ h => h) (Or.inr ⟨by rfl, rfl⟩) hS ?_
                  try simp only [Act.put, putA, putZ, putS]
                  refine wpAnyH_take (i := 32) (oi := ⟨some 70, _, _, _, _, _⟩) (v := undef) rfl (by kernel_rfl) (by kernel_rfl) (by kernel_rfl) (fun _ _ _ h => h) (Or.inr ⟨by rfl, rfl⟩) hS ?_
                  try simp only [Act.put, putA, putZ, putS]
                  refine wpAnyH_take (i := 33) (oi := ⟨some 71, _, _, _, _, _⟩) (v := undef) rfl (by kernel_rfl) (by kernel_rfl) (by kernel_rfl) (fun _ _ _ h => h) (Or.inr ⟨by rfl, rfl⟩) hS ?_
                  try simp only [Act.put, putA, putZ, putS]
                  refine wpAnyH_take (i := 34) (oi := ⟨some 72, _, _, _, _, _⟩) (v := undef) rfl (by kernel_rfl) (by kernel_rfl) (by kernel_rfl) (fun _ _ _ h => h) (Or.inr ⟨by rfl, rfl⟩) hS ?_
                  try simp only [Act.put, putA, putZ, putS]
                  refine tH 35 (oi := ⟨_, _, _, _, _, _⟩) (v := ?_) rfl (by kernel_rfl) (by rfl) (fun _ _ _ h => h) hS ?_ ?_
                  rotate_left
                  · rintro W' ⟨z0, z1, z2, z3, z4, z5⟩; go_simp; try with_reducible rfl
                  try simp only [Act.put, putA, putZ, putS]
                  refine wpAnyH_done (by kernel_rfl) ?_ _
                  go_wp2_with fail
                  go_ret
                  refine ⟨ret_bool ?_, HAX.out⟩
                  symm
                  unfold widerB
                  rw [allB_false (k := k) hlt (by rw [allB_false (k := g) hlg HE.out]; simp)]
                  simp
                · by_cases c2 : p2 > q2
                  · have HE : Hid (inW (ct k g) (ct' k g) = false) := by unfold Hid inW; rw [HPV.out, HQV.out, decide_eq_false (show ¬ p2 ≤ q2 by omega)]; simp
                    refine tk [0, 1, 2, 3, 4, 5, 6, 7, 8, 9, 10, 11, 12, 13, 14, 15] ?_
                    repeat (refine tkH (oi := ⟨_, _, _, _, _, _⟩) (v := ?_) rfl (by kernel_rfl) (by rfl) (fun _ _ _ h => h) hS ?_ ?_; rotate_left; (· rintro W' ⟨z0, z1, z2, z3, z4, z5⟩; go_simp; try with_reducible rfl); try simp only [Act.put, putA, putZ, putS])
                    refine tk0 ?_
                    refine tH 16 (oi := ⟨_, _, _, _, _, _⟩) (v := .bool false) rfl (by kernel_rfl) (by rfl) (fun _ _ _ h => h) hS ?_ ?_
                    · rintro W' ⟨z0, z1, z2, z3, z4, z5⟩; go_simp; (try omega)
                    try simp only [Act.put, putA, putZ, putS]
                    refine tk [17, 18, 19, 20, 21, 22, 23, 24, 25, 26, 27, 28, 29, 30, 31, 32, 33] ?_
                    repeat (refine tkH (oi := ⟨_, _, _, _, _, _⟩) (v := ?_) rfl (by kernel_rfl) (by rfl) (fun _ _ _ h => h) hS ?_ ?_; rotate_left; (· rintro W' ⟨z0, z1, z2, z3, z4, z5⟩; go_simp; try with_reducible rfl); try simp only [Act.put, putA, putZ, putS])
                    refine tk0 ?_
                    refine tH 34 (oi := ⟨_, _, _, _, _, _⟩) (v := .bool true) rfl (by kernel_rfl) (by rfl) (fun _ _ _ h => h) hS ?_ ?_
                    · rintro W' ⟨z0, z1, z2, z3, z4, z5⟩; go_simp; (try omega)
                    try simp only [Act.put, putA, putZ, putS]
                    refine tH 35 (oi := ⟨_, _, _, _, _, _⟩) (v := ?_) rfl (by kernel_rfl) (by rfl) (fun _ _ _ h => h) hS ?_ ?_
                    rotate_left
                    · rintro W' ⟨z0, z1, z2, z3, z4, z5⟩; go_simp; try with_reducible rfl
                    try simp only [Act.put, putA, putZ, putS]
                    refine wpAnyH_done (by kernel_rfl) ?_ _
                    go_wp2_with fail
                    go_ret
                    refine ⟨ret_bool ?_, HAX.out⟩
                    symm
                    unfold widerB
                    rw [allB_false (k := k) hlt (by rw [allB_false (k := g) hlg HE.out]; simp)]
                    simp
                  · have HE : Hid (inW (ct k g) (ct' k g) = true) := by unfold Hid inW; rw [HPV.out, HQV.out, decide_eq_true (show q1 ≤ p1 by omega), decide_eq_true (show p2 ≤ q2 by omega)]; rfl
                    refine tk [0, 1, 2, 3, 4, 5, 6, 7, 8, 9, 10, 11, 12, 13, 14, 15] ?_
                    repeat (refine tkH (oi := ⟨_, _, _, _, _, _⟩) (v := ?_) rfl (by kernel_rfl) (by rfl) (fun _ _ _ h => h) hS ?_ ?_; rotate_left; (· rintro W' ⟨z0, z1, z2, z3, z4, z5⟩; go_simp; try with_reducible rfl); try simp only [Act.put, putA, putZ, putS])
                    refine tk0 ?_
                    refine tH 16 (oi := ⟨_, _, _, _, _, _⟩) (v := .bool false) rfl (by kernel_rfl) (by rfl) (fun _ _ _ h => h) hS ?_ ?_
                    · rintro W' ⟨z0, z1, z2, z3, z4, z5⟩; go_simp; (try omega)
                    try simp only [Act.put, putA, putZ, putS]
                    refine tk [17, 18, 19, 20, 21, 22, 23, 24, 25, 26, 27, 28, 29, 30, 31, 32, 33] ?_
                    repeat (refine tkH (oi := ⟨_, _, _, _, _, _⟩) (v := ?_) rfl (by kernel_rfl) (by rfl) (fun _ _ _ h => h) hS ?_ ?_; rotate_left; (· rintro W' ⟨z0, z1, z2, z3, z4, z5⟩; go_simp; try with_reducible rfl); try simp only [Act.put, putA, putZ, putS])
                    refine tk0 ?_
                    refine tH 34 (oi := ⟨_, _, _, _, _, _⟩) (v := .bool false) rfl (by kernel_rfl) (by rfl) (fun _ _ _ h => h) hS ?_ ?_
                    · rintro W' ⟨z0, z1, z2, z3, z4, z5⟩; go_simp; (try omega)
                    try simp only [Act.put, putA, putZ, putS]
                    refine tH 35 (oi := ⟨_, _, _, _, _, _⟩) (v := ?_) rfl (by kernel_rfl) (by rfl) (fun _ _ _ h => h) hS ?_ ?_
                    rotate_left
                    · rintro W' ⟨z0, z1, z2, z3, z4, z5⟩; go_simp; try with_reducible rfl
                    try simp only [Act.put, putA, putZ, putS]
                    refine wpAnyH_done (by kernel_rfl) ?_ _
                    go_wp2_with fail
                    go_roundw
                    case rel => exact ⟨g + 1, by omega, by go_num, HAX.out, fun j hj => by
                      rcases Nat.lt_succ_iff_lt_or_eq.1 hj with h | rfl
                      · exact HAL2.out j h
                      · exact HE.out⟩
                    case measure => simp [intOf]; omega
              · obtain rfl : g = rl k := by omega
                go_wp2_with fail
                go_roundw
                case rel => exact ⟨k + 1, by omega, by go_num, HBY.out, fun q hq => by
                  rcases Nat.lt_succ_iff_lt_or_eq.1 hq with h | rfl
                  · exact HALL.out q h
                  · rw [decide_eq_true he, allB_true HAL2.out]; rfl⟩
                case measure => simp [intOf]; omega
          · have hf : ((rl k : Int) != (rl' k : Int)) = true := by
              have : ¬ (rl k : Int) = (rl' k : Int) := by omega
              simpa using this
            rw [hf]
            go_wp2_with fail
            go_ret
            refine ⟨ret_bool ?_, HBX.out⟩
            symm
            unfold widerB
            rw [allB_false (k := k) hlt (by rw [decide_eq_false he]; rfl)]
            simp
      · obtain rfl : k = n := by omega
        go_wp2_with fail
        go_ret
        refine ⟨ret_bool ?_, HBL.out⟩
        symm
        unfold widerB
        rw [decide_eq_true rfl, allB_true HALL.out]
        rfl
  · have hf : ((n : Int) != (m : Int)) = true := by
      have : ¬ (n : Int) = (m : Int) := by omega
      simpa using this
    go_wp2_with fail
    go_ret
    refine ⟨ret_bool ?_, Below.refl _ _⟩
    unfold widerB
    rw [decide_eq_false hnm]
    rfl
end Go.Proofs.Ytjaoflfophcibaa
