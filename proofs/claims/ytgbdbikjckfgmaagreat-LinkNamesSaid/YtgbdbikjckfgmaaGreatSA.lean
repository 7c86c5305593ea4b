/- Link: what LinkNames needs (1 of 3). -/
import Derived.Test.YtgbdbikjckfgmaaGreatND
import Derived.Carry
import Derived.Lib.SmallJoins
import Derived.Maps.Keyed
import Derived.Maps.Views
import Derived.OpenShut
import Derived.ProofKit
import Derived.WalkSpells
namespace Go.Proofs.YtgbdbikjckfgmaaGreat
open Go.RowKit Go.Shelf
set_option maxHeartbeats 4000000 in
theorem ints5_any (a b : Option Addr) (n m ca cb : Nat) (p q : Nat → Int) (w : World) (hp : IntsIn w (.slice a n ca) n p) (hq : IntsIn w (.slice b m cb) m q) (hn : n ≤ 100000) (hm : m ≤ 100000) :
    Calls Tryz.prog 30 #[.slice a n ca, .slice b m cb] w fun e w' => e = .returned (.bool (decide (n = m) && allB (fun j => p j == q j) n)) ∧ Below w.heap.size w w' := by
  have HP := Lib.hid hp
  have HQ := Lib.hid hq
  clear hp hq
  by_cases hnm : n = m
  · subst hnm
    have hnI : ((n : Int) != (n : Int)) = false := by simp
    have HF : Hid (∀ k, k < n → (p k == q k) = false → (decide (n = n) && allB (fun j => p j == q j) n) = false) := fun k hk h => by rw [allB_false (p := fun j => p j == q j) hk h, Bool.and_false]
    have HT : Hid ((∀ k, k < n → (p k == q k) = true) → (decide (n = n) && allB (fun j => p j == q j) n) = true) := fun h => by rw [allB_true (p := fun j => p j == q j) h]; simp
    generalize (decide (n = n) && allB (fun j => p j == q j) n) = r at *
    go_enter Tryz.func30, Tryz.ntmps30
    go_wp2_with fail
    go_loopw [5] (fun i wr => ∃ k : Nat, i = .int .i64 k ∧ k ≤ n ∧ (∀ l, l < k → (p l == q l) = true) ∧ Below w.heap.size w wr) (fun i _ => n - (intOf i).toNat)
    case atStart => exact ⟨0, rfl, Nat.zero_le _, fun q h => absurd h (Nat.not_lt_zero _), Below.refl _ _⟩
    case round =>
      obtain ⟨k, rfl, hk, hall, hbl⟩ := hrel
      have HALL := Lib.hid hall
      have HB := Lib.hid hbl
      rename World => wy
      clear hall hbl
      by_cases hlt : k < n
      · have HBD := Lib.hid (HB.out.drew)
        obtain ⟨pb, po, rfl, hpb, ep⟩ := (HP.out.below HBD.out).at hlt
        obtain ⟨qb, qo, rfl, hqb, eq⟩ := (HQ.out.below HBD.out).at hlt
        have ki : (0 : Int) ≤ (k : Int) := by omega
        have kj : (k : Int) < (n : Int) := by omega
        cases he : (p k != q k)
        · have HX : Hid ((p k == q k) = true) := by unfold Hid; have h := he; simp at h; simp [h]
          go_wp2_with fail
          refine wp_region_Z (S := fun X => X.cell? ⟨pb, po + k, none⟩ = some (.int .i64 (p k)) ∧ X.cell? ⟨qb, qo + k, none⟩ = some (.int .i64 (q k))) (by kernel_rfl) ⟨ep, eq⟩ (fun hS => ?_)
          generalize wy.drew = X at *
          refine tk [0, 1, 2, 3, 4, 5, 6, 7, 8] ?_
          repeat (refine tkZ (oi := ⟨_, _, _, _, _, _⟩) (v := ?_) rfl (by kernel_rfl) (by rfl) (fun _ _ _ h => h) hS ?_ ?_; rotate_left; (· rintro W' ⟨z0, z1⟩; go_simp; try with_reducible rfl); try simp only [Act.put, putA, putZ, putS])
          refine tk0 ?_
          refine wpAnyZ_done (by kernel_rfl) ?_ _
          clear hS ep eq
          go_wp2_with fail
          go_roundw
          case rel => exact ⟨k + 1, by go_num, by omega, (fun q' hq => by rcases Nat.lt_succ_iff_lt_or_eq.1 hq with h | rfl; exact HALL.out q' h; exact HX.out), HBD.out⟩
          case measure => simp [intOf]; omega
        · have HR := Lib.hid (HF.out k hlt (by have h := he; simp at h; simp [h]))
          go_wp2_with fail
          refine wp_region_Z (S := fun X => X.cell? ⟨pb, po + k, none⟩ = some (.int .i64 (p k)) ∧ X.cell? ⟨qb, qo + k, none⟩ = some (.int .i64 (q k))) (by kernel_rfl) ⟨ep, eq⟩ (fun hS => ?_)
          generalize wy.drew = X at *
          refine tk [0, 1, 2, 3, 4, 5, 6, 7, 8] ?_
          repeat (refine tkZ (oi := ⟨_, _, _, _, _, _⟩) (v := ?_) rfl (by kernel_rfl) (by rfl) (fun _ _ _ h => h) hS ?_ ?_; rotate_left; (· rintro W' ⟨z0, z1⟩; go_simp; try with_reducible rfl); try simp only [Act.put, putA, putZ, putS])
          refine tk0 ?_
          refine wpAnyZ_done (by kernel_rfl) ?_ _
          clear hS ep eq
          go_wp2_with fail
          go_ret
          exact ⟨ret_bool HR.out.symm, HBD.out⟩
      · have HR := Lib.hid (HT.out (fun l hl => HALL.out l (by omega)))
        obtain rfl : k = n := by omega
        go_wp2_with fail
        go_ret
        exact ⟨ret_bool HR.out.symm, HB.out⟩
  · have hnI : ((n : Int) != (m : Int)) = true := by simp; omega
    have HR : Hid ((decide (n = m) && allB (fun j => p j == q j) n) = false) := by unfold Hid; rw [decide_eq_false hnm]; rfl
    generalize (decide (n = m) && allB (fun j => p j == q j) n) = r at *
    clear HP HQ
    go_enter Tryz.func30, Tryz.ntmps30
    go_wp2_with fail
    go_ret
    exact ⟨ret_bool HR.out.symm, Below.refl _ _⟩
set_option maxHeartbeats 4000000 in
theorem pairs5_any (a b : Option Addr) (n m ca cb : Nat) (p p' q q' : Nat → Int) (w : World) (hp : RsIn w (.slice a n ca) n p p') (hq : RsIn w (.slice b m cb) m q q') (hn : n ≤ 100000) (hm : m ≤ 100000) :
    Calls Tryz.prog 26 #[.slice a n ca, .slice b m cb] w fun e w' => e = .returned (.bool (decide (n = m) && allB (fun j => p j == q j && p' j == q' j) n)) ∧ Below w.heap.size w w' := by
  have HP := Lib.hid hp
  have HQ := Lib.hid hq
  clear hp hq
  by_cases hnm : n = m
  · subst hnm
    have hnI : ((n : Int) != (n : Int)) = false := by simp
    have HF : Hid (∀ k, k < n → (p k == q k && p' k == q' k) = false → (decide (n = n) && allB (fun j => p j == q j && p' j == q' j) n) = false) := fun k hk h => by rw [allB_false (p := fun j => p j == q j && p' j == q' j) hk h, Bool.and_false]
    have HT : Hid ((∀ k, k < n → (p k == q k && p' k == q' k) = true) → (decide (n = n) && allB (fun j => p j == q j && p' j == q' j) n) = true) := fun h => by rw [allB_true (p := fun j => p j == q j && p' j == q' j) h]; simp
    generalize (decide (n = n) && allB (fun j => p j == q j && p' j == q' j) n) = r at *
    go_enter Tryz.func26, Tryz.ntmps26
    go_wp2_with fail
    go_loopw [5] (fun i wr => ∃ k : Nat, i = .int .i64 k ∧ k ≤ n ∧ (∀ l, l < k → (p l == q l && p' l == q' l) = true) ∧ Below w.heap.size w wr) (fun i _ => n - (intOf i).toNat)
    case atStart => exact ⟨0, rfl, Nat.zero_le _, fun q h => absurd h (Nat.not_lt_zero _), Below.refl _ _⟩
    case round =>
      obtain ⟨k, rfl, hk, hall, hbl⟩ := hrel
      have HALL := Lib.hid hall
      have HB := Lib.hid hbl
      rename World => wy
      clear hall hbl
      by_cases hlt : k < n
      · have HBD := Lib.hid (HB.out.drew)
        obtain ⟨pb, po, rfl, hpb, ep, ep'⟩ := (HP.out.below HBD.out).at hlt
        obtain ⟨qb, qo, rfl, hqb, eq, eq'⟩ := (HQ.out.below HBD.out).at hlt
        have ki : (0 : Int) ≤ (k : Int) := by omega
        have kj : (k : Int) < (n : Int) := by omega
        cases he : (p k != q k)
        · cases he' : (p' k != q' k)
          · have HX : Hid ((p k == q k && p' k == q' k) = true) := by unfold Hid; have h := he; have h' := he'; simp at h h'; simp [h, h']
            go_wp2_with fail
            refine wp_region_Z (S := fun X => X.cell? ⟨pb, po + k * 2, none⟩ = some (.int .i64 (p k)) ∧ X.cell? ⟨pb, po + k * 2 + 1, none⟩ = some (.int .i64 (p' k)) ∧ X.cell? ⟨qb, qo + k * 2, none⟩ = some (.int .i64 (q k)) ∧ X.cell? ⟨qb, qo + k * 2 + 1, none⟩ = some (.int .i64 (q' k))) (by kernel_rfl) ⟨ep, ep', eq, eq'⟩ (fun hS => ?_)
            generalize wy.drew = X at *
            refine tk [0, 1, 2, 3, 4, 5, 6, 7, 8, 9, 10, 11, 12, 13, 14, 15, 16, 17, 18, 19, 20, 21, 22, 23] ?_
            repeat (refine tkZ (oi := ⟨_, _, _, _, _, _⟩) (v := ?_) rfl (by kernel_rfl) (by rfl) (fun _ _ _ h => h) hS ?_ ?_; rotate_left; (· rintro W' ⟨z0, z1, z2, z3⟩; go_simp; try with_reducible rfl); try simp only [Act.put, putA, putZ, putS])
            refine tk0 ?_
            refine wpAnyZ_done (by kernel_rfl) ?_ _
            clear hS ep ep' eq eq'
            go_wp2_with fail
            go_roundw
            case rel => exact ⟨k + 1, by go_num, by omega, (fun q' hq => by rcases Nat.lt_succ_iff_lt_or_eq.1 hq with h | rfl; exact HALL.out q' h; exact HX.out), HBD.out⟩
            case measure => simp [intOf]; omega
          · have HR := Lib.hid (HF.out k hlt (by have h := he'; simp at h; simp [h]))
            go_wp2_with fail
            refine wp_region_Z (S := fun X => X.cell? ⟨pb, po + k * 2, none⟩ = some (.int .i64 (p k)) ∧ X.cell? ⟨pb, po + k * 2 + 1, none⟩ = some (.int .i64 (p' k)) ∧ X.cell? ⟨qb, qo + k * 2, none⟩ = some (.int .i64 (q k)) ∧ X.cell? ⟨qb, qo + k * 2 + 1, none⟩ = some (.int .i64 (q' k))) (by kernel_rfl) ⟨ep, ep', eq, eq'⟩ (fun hS => ?_)
            generalize wy.drew = X at *
            refine tk [0, 1, 2, 3, 4, 5, 6, 7, 8, 9, 10, 11, 12, 13, 14, 15, 16, 17, 18, 19, 20, 21, 22, 23] ?_
            repeat (refine tkZ (oi := ⟨_, _, _, _, _, _⟩) (v := ?_) rfl (by kernel_rfl) (by rfl) (fun _ _ _ h => h) hS ?_ ?_; rotate_left; (· rintro W' ⟨z0, z1, z2, z3⟩; go_simp; try with_reducible rfl); try simp only [Act.put, putA, putZ, putS])
            refine tk0 ?_
            refine wpAnyZ_done (by kernel_rfl) ?_ _
            clear hS ep ep' eq eq'
            go_wp2_with fail
            go_ret
            exact ⟨ret_bool HR.out.symm, HBD.out⟩
        · have HR := Lib.hid (HF.out k hlt (by have h := he; simp at h; simp [h]))
          go_wp2_with fail
          refine wp_region_Z (S := fun X => X.cell? ⟨pb, po + k * 2, none⟩ = some (.int .i64 (p k)) ∧ X.cell? ⟨pb, po + k * 2 + 1, none⟩ = some (.int .i64 (p' k)) ∧ X.cell? ⟨qb, qo + k * 2, none⟩ = some (.int .i64 (q k)) ∧ X.cell? ⟨qb, qo + k * 2 + 1, none⟩ = some (.int .i64 (q' k))) (by kernel_rfl) ⟨ep, ep', eq, eq'⟩ (fun hS => ?_)
          generalize wy.drew = X at *
          refine tk [0, 1, 2, 3, 4, 5, 6, 7, 8, 9, 10, 11] ?_
          repeat (refine tkZ (oi := ⟨_, _, _, _, _, _⟩) (v := ?_) rfl (by kernel_rfl) (by rfl) (fun _ _ _ h => h) hS ?_ ?_; rotate_left; (· rintro W' ⟨z0, z1, z2, z3⟩; go_simp; try with_reducible rfl); try simp only [Act.put, putA, putZ, putS])
          refine tk0 ?_
          refine wpAnyZ_take (i := 12) (oi := ⟨_, _, _, _, _, _⟩) (v := undef) rfl (by kernel_rfl) (by kernel_rfl) (by kernel_rfl) (fun _ _ _ h => h) (Or.inr ⟨by rfl, rfl⟩) hS ?_
          try simp only [Act.put, putA, putZ, putS]
          refine wpAnyZ_take (i := 13) (oi := ⟨_, _, _, _, _, _⟩) (v := undef) rfl (by kernel_rfl) (by kernel_rfl) (by kernel_rfl) (fun _ _ _ h => h) (Or.inr ⟨by rfl, rfl⟩) hS ?_
          try simp only [Act.put, putA, putZ, putS]
          refine wpAnyZ_take (i := 14) (oi := ⟨_, _, _, _, _, _⟩) (v := undef) rfl (by kernel_rfl) (by kernel_rfl) (by kernel_rfl) (fun _ _ _ h => h) (Or.inr ⟨by rfl, rfl⟩) hS ?_
          try simp only [Act.put, putA, putZ, putS]
          refine wpAnyZ_take (i := 15) (oi := ⟨_, _, _, _, _, _⟩) (v := undef) rfl (by kernel_rfl) (by kernel_rfl) (by kernel_rfl) (fun _ _ _ h => h) (Or.inr ⟨by rfl, rfl⟩) hS ?_
          try simp only [Act.put, putA, putZ, putS]
          refine wpAnyZ_take (i := 16) (oi := ⟨_, _, _, _, _, _⟩) (v := undef) rfl (by kernel_rfl) (by kernel_rfl) (by kernel_rfl) (fun _ _ _ h => h) (Or.inr ⟨by rfl, rfl⟩) hS ?_
          try simp only [Act.put, putA, putZ, putS]
          refine wpAnyZ_take (i := 17) (oi := ⟨_, _, _, _, _, _⟩) (v := undef) rfl (by kernel_rfl) (by kernel_rfl) (by kernel_rfl) (fun _ _ _ h => h) (Or.inr ⟨by rfl, rfl⟩) hS ?_
          try simp only [Act.put, putA, putZ, putS]
          refine wpAnyZ_take (i := 18) (oi := ⟨_, _, _, _, _, _⟩) (v := undef) rfl (by kernel_rfl) (by kernel_rfl) (by kernel_rfl) (fun _ _ _ h => h) (Or.inr ⟨by rfl, rfl⟩) hS ?_
          try simp only [Act.put, putA, putZ, putS]
          refine wpAnyZ_take (i := 19) (oi := ⟨_, _, _, _, _, _⟩) (v := undef) rfl (by kernel_rfl) (by kernel_rfl) (by kernel_rfl) (fun _ _ _ h => h) (Or.inr ⟨by rfl, rfl⟩) hS ?_
          try simp only [Act.put, putA, putZ, putS]
          refine wpAnyZ_take (i := 20) (oi := ⟨_, _, _, _, _, _⟩) (v := undef) rfl (by kernel_rfl) (by kernel_rfl) (by kernel_rfl) (fun _ _ _ h => h) (Or.inr ⟨by rfl, rfl⟩) hS ?_
          try simp only [Act.put, putA, putZ, putS]
          refine wpAnyZ_take (i := 21) (oi := ⟨_, _, _, _, _, _⟩) (v := undef) rfl (by kernel_rfl) (by kernel_rfl) (by kernel_rfl) (fun _ _ _ h => h) (Or.inr ⟨by rfl, rfl⟩) hS ?_
          try simp only [Act.put, putA, putZ, putS]
          refine wpAnyZ_take (i := 22) (oi := ⟨_, _, _, _, _, _⟩) (v := undef) rfl (by kernel_rfl) (by kernel_rfl) (by kernel_rfl) (fun _ _ _ h => h) (Or.inr ⟨by rfl, rfl⟩) hS ?_
          try simp only [Act.put, putA, putZ, putS]
          refine tk [23] ?_
          repeat (refine tkZ (oi := ⟨_, _, _, _, _, _⟩) (v := ?_) rfl (by kernel_rfl) (by rfl) (fun _ _ _ h => h) hS ?_ ?_; rotate_left; (· rintro W' ⟨z0, z1, z2, z3⟩; go_simp; try with_reducible rfl); try simp only [Act.put, putA, putZ, putS])
          refine tk0 ?_
          refine wpAnyZ_done (by kernel_rfl) ?_ _
          clear hS ep ep' eq eq'
          go_wp2_with fail
          go_ret
          exact ⟨ret_bool HR.out.symm, HBD.out⟩
      · have HR := Lib.hid (HT.out (fun l hl => HALL.out l (by omega)))
        obtain rfl : k = n := by omega
        go_wp2_with fail
        go_ret
        exact ⟨ret_bool HR.out.symm, HB.out⟩
  · have hnI : ((n : Int) != (m : Int)) = true := by simp; omega
    have HR : Hid ((decide (n = m) && allB (fun j => p j == q j && p' j == q' j) n) = false) := by unfold Hid; rw [decide_eq_false hnm]; rfl
    generalize (decide (n = m) && allB (fun j => p j == q j && p' j == q' j) n) = r at *
    clear HP HQ
    go_enter Tryz.func26, Tryz.ntmps26
    go_wp2_with fail
    go_ret
    exact ⟨ret_bool HR.out.symm, Below.refl _ _⟩
end Go.Proofs.YtgbdbikjckfgmaaGreat
namespace Go.Proofs.YtgbdbikjckfgmaaGreat
open Go.RowKit Go.Shelf
theorem Tryz.infoMove5 : (Tryz.prog.info? 110).map (fun i => (i.zero, i.size, i.bytes)) = some (some (.agg #[.int .i64 0, .int .i64 0]), 2, 16) := by kernel_rfl
theorem Tryz.sizeFile : (Tryz.prog.info? 33).map (·.size) = some 3 := by kernel_rfl
theorem Fr.setRow (A : World) (g : Nat) (cs : Array Value) : Fr (fun k => k = g) A (A.setRow g cs) := ⟨rfl, rfl, rfl, by simp, fun _ _ he => setRow_other _ _ _ _ he⟩
end Go.Proofs.YtgbdbikjckfgmaaGreat
namespace Go.Proofs.YtgbdbikjckfgmaaGreat
open Go.RowKit Go.Shelf
theorem Tryz.sizeLEntry : (Tryz.prog.info? 100).map (·.size) = some 7 := by kernel_rfl
def zL (l : List Int) (j : Nat) : Int := l.getD j 0
/-- An entry of the chapter. -/
def enT (sx pl lo hi : Int) (n : Nat) (z : Nat → Int) : En := ⟨⟨lo, hi, 1, fun _ => ⟨0, 1, 0, 0⟩, 0, fun _ => ⟨0, 0, 0⟩⟩, sx, n, z, pl⟩
set_option maxRecDepth 100000 in
set_option maxHeartbeats 4000000 in
theorem entry_any (sx pl lo hi : Int) (a : Option Addr) (n c : Nat) (w : World) :
    Calls Tryz.prog 84 #[.int .i64 sx, .int .i64 pl, .int .i64 lo, .int .i64 hi, .slice a n c] w fun e w' => ∃ g, e = .returned (.agg #[.int .i64 lo, .int .i64 hi, .slice (some ⟨g, 0, none⟩) 1 1, .slice none 0 0, .int .i64 sx, .slice a n c, .int .i64 pl]) ∧ w.heap.size < g ∧ w'.heap[g]? = some (.cells #[.int .i64 0, .int .i64 1, .int .i64 0, .int .i64 0] 156 (0, 0)) ∧ Below w.heap.size w w' := by
  have HA := Lib.hid (BF.made2 w #[.int .i64 0, .int .i64 0, .slice none 0 0, .slice none 0 0, .int .i64 0, .slice none 0 0, .int .i64 0] #[.int .i64 0, .int .i64 1, .int .i64 0, .int .i64 0] 100 156)
  have HRR := Lib.hid (HA.out.bk _ _ _ (.head _)).2
  have HSL : Hid ((Tryz.prog.info? 100).map (·.size) = some (#[.int .i64 lo, .int .i64 hi, .slice (some ⟨w.heap.size + 1, 0, none⟩) 1 1, .slice none 0 0, .int .i64 sx, .slice a n c, .int .i64 pl] : Array Value).size) := Tryz.sizeLEntry
  have HA3 := Lib.hid (HA.out.setR (.head _) #[.int .i64 lo, .int .i64 hi, .slice (some ⟨w.heap.size + 1, 0, none⟩) 1 1, .slice none 0 0, .int .i64 sx, .slice a n c, .int .i64 pl] (L' := [(w.heap.size + 1, #[.int .i64 0, .int .i64 1, .int .i64 0, .int .i64 0], 156)]) (List.forall_mem_cons.2 ⟨⟨show w.heap.size + 1 ≠ w.heap.size by omega, .tail _ (.head _)⟩, List.forall_mem_nil _⟩))
  have hrow := (HA3.out.bk w.heap.size _ _ (.head _)).2
  have HG := Lib.hid (HA3.out.bk _ _ _ (.tail _ (.head _))).2
  clear HA
  go_enter Tryz.func84, Tryz.ntmps84
  go_wp2_with (refine wpList_store_row (o := ⟨none, _, _, _, _, _⟩) rfl 100 (.tmp 10) (.tmp 20) rfl w.heap.size #[.int .i64 lo, .int .i64 hi, .slice (some ⟨w.heap.size + 1, 0, none⟩) 1 1, .slice none 0 0, .int .i64 sx, .slice a n c, .int .i64 pl] rfl rfl 100 #[.int .i64 0, .int .i64 0, .slice none 0 0, .slice none 0 0, .int .i64 0, .slice none 0 0, .int .i64 0] HRR.out HSL.out rfl (by simp [Value.oneCell']) ?_; generalize (((w.alloc (.cells #[.int .i64 0, .int .i64 0, .slice none 0 0, .slice none 0 0, .int .i64 0, .slice none 0 0, .int .i64 0] 100)).alloc (.cells #[.int .i64 0, .int .i64 1, .int .i64 0, .int .i64 0] 156)).setRow w.heap.size #[.int .i64 lo, .int .i64 hi, .slice (some ⟨w.heap.size + 1, 0, none⟩) 1 1, .slice none 0 0, .int .i64 sx, .slice a n c, .int .i64 pl]) = wz at *)
  exact bodyPost_ret (v := .agg #[.int .i64 lo, .int .i64 hi, .slice (some ⟨w.heap.size + 1, 0, none⟩) 1 1, .slice none 0 0, .int .i64 sx, .slice a n c, .int .i64 pl]) (results_cell_row rfl _ _ w.heap.size 100 #[.int .i64 lo, .int .i64 hi, .slice (some ⟨w.heap.size + 1, 0, none⟩) 1 1, .slice none 0 0, .int .i64 sx, .slice a n c, .int .i64 pl] (0, 0) _ rfl hrow Tryz.underlying100 rfl HSL.out) rfl ⟨_, rfl, Nat.lt_succ_self _, HG.out, HA3.out.fr⟩
theorem qp_of {W : World} {g : Nat} {a : Option Addr} {n c : Nat} {z : Nat → Int} {sx pl lo hi : Int} (h : W.heap[g]? = some (.cells #[.int .i64 0, .int .i64 1, .int .i64 0, .int .i64 0] 156 (0, 0))) (hz : IntsIn W (.slice a n c) n z) (hn : n ≤ 100) : QP W (.slice (some ⟨g, 0, none⟩) 1 1) (.slice none 0 0) (.slice a n c) (enT sx pl lo hi n z) :=
  ⟨.inr ⟨g, 0, 1, rfl, (Array.getElem?_eq_some_iff.1 h).1, fun j hj => by
    obtain rfl : j = 0 := by have h : j < 1 := hj; omega
    exact ⟨cell_of_row _ _ 0 _ _ _ h, cell_of_row _ _ 1 _ _ _ h, cell_of_row _ _ 2 _ _ _ h, cell_of_row _ _ 3 _ _ _ h⟩⟩, .inl ⟨rfl, rfl⟩, hz, by show (1 : Nat) ≤ 100000; omega, by show (0 : Nat) ≤ 100000; omega, by show n ≤ 100000; omega⟩
end Go.Proofs.YtgbdbikjckfgmaaGreat
namespace Go.Proofs.YtgbdbikjckfgmaaGreat
open Go.RowKit Go.Shelf
def tO (d : Int) (j : Nat) : En := if j = 0 then enT 0 1 0 1000 1 (zL [5]) else if j = 1 then enT 1 1 0 1000 2 (zL [7, 9]) else enT 0 2 d 2000 1 (zL [5])
def tN (j : Nat) : En := if j = 0 then enT 0 1 400 900 1 (zL [5]) else if j = 1 then enT 2 3 1000 1500 1 (zL [7]) else enT 0 2 100 600 2 (zL [5, 6])
def townsF (d : Int) (n : Nat) (mf mt : Nat → Int) : Fl := ⟨3, tO d, 3, tN, n, mf, mt⟩
theorem EsQ.three {W : World} {B : Nat} {E : Nat → En} {e0 e1 e2 : En} {V0 V1 V2 : Value × Value × Value} (hB : B < W.heap.size) (h0 : E 0 = e0) (h1 : E 1 = e1) (h2 : E 2 = e2) (h : ∀ i u, (e7 e0 V0 ++ e7 e1 V1 ++ e7 e2 V2)[i]? = some u → W.cell? ⟨B, i, none⟩ = some u)
    (q0 : QP W V0.1 V0.2.1 V0.2.2 e0) (q1 : QP W V1.1 V1.2.1 V1.2.2 e1) (q2 : QP W V2.1 V2.2.1 V2.2.2 e2) : EsQ QP W (.slice (some ⟨B, 0, none⟩) 3 3) 3 E := by
  subst h0 h1 h2
  refine .inr ⟨B, 0, 3, rfl, hB, fun j hj => ?_⟩
  rcases (show j = 0 ∨ j = 1 ∨ j = 2 by omega) with rfl | rfl | rfl
  · exact ⟨_, _, _, ⟨h 0 _ rfl, h 1 _ rfl, h 2 _ rfl, h 3 _ rfl, h 4 _ rfl, h 5 _ rfl, h 6 _ rfl⟩, q0⟩
  · exact ⟨_, _, _, ⟨h 7 _ rfl, h 8 _ rfl, h 9 _ rfl, h 10 _ rfl, h 11 _ rfl, h 12 _ rfl, h 13 _ rfl⟩, q1⟩
  · exact ⟨_, _, _, ⟨h 14 _ rfl, h 15 _ rfl, h 16 _ rfl, h 17 _ rfl, h 18 _ rfl, h 19 _ rfl, h 20 _ rfl⟩, q2⟩
theorem ints1_own {W : World} {b : Nat} {p : Int} (h : W.heap[b]? = some (.cells #[.int .i64 p] 3 (0, 0))) : IntsIn W (.slice (some ⟨b, 0, none⟩) 1 1) 1 (zL [p]) :=
  .inr ⟨b, 0, 1, rfl, (Array.getElem?_eq_some_iff.1 h).1, fun j hj => by
    obtain rfl : j = 0 := by omega
    exact cell_of_row _ _ 0 _ _ _ h⟩
theorem ints2_own {W : World} {b : Nat} {p q : Int} (h : W.heap[b]? = some (.cells #[.int .i64 p, .int .i64 q] 3 (0, 0))) : IntsIn W (.slice (some ⟨b, 0, none⟩) 2 2) 2 (zL [p, q]) :=
  .inr ⟨b, 0, 2, rfl, (Array.getElem?_eq_some_iff.1 h).1, fun j hj => by
    rcases (show j = 0 ∨ j = 1 by omega) with rfl | rfl
    · exact cell_of_row _ _ 0 _ _ _ h
    · exact cell_of_row _ _ 1 _ _ _ h⟩
set_option maxRecDepth 100000 in
set_option maxHeartbeats 8000000 in
theorem towns_any (d : Int) (a : Option Addr) (n c : Nat) (mf mt : Nat → Int) (w : World) (hm : RsIn w (.slice a n c) n mf mt) :
    Calls Tryz.prog 50 #[.int .i64 d, .slice a n c] w fun e w' => ∃ z : FV, e = .returned (.agg #[.slice z.oa 3 z.oc, .slice z.na 3 z.nc, .slice z.ma n z.mc]) ∧ FlQ QP w' z (townsF d n mf mt) ∧ Below w.heap.size w w' := by
  have HM := Lib.hid (fun X (hX : Below w.heap.size w X) => hm.below hX)
  clear hm
  have HA0 := Lib.hid ((BF.base w).alloc #[.slice none 0 0, .slice none 0 0, .slice none 0 0] 33)
  go_enter Tryz.func50, Tryz.ntmps50
  have hn0 := (HA0.out.lt (.head _)).2
  have HN0 := Lib.hid (HA0.out.alloc #[.int .i64 5] 3)
  rw [World.size_alloc] at HN0 hn0
  go_wp2_with fail
  refine (entry_any 0 1 0 1000 (some ⟨w.heap.size + 1, 0, none⟩) 1 1 _).mono ?_
  rintro _ w1 ⟨g0, rfl, hl, hg, hb⟩
  have hg0 : w.heap.size < g0 := Nat.lt_of_le_of_lt HN0.out.fr.size hl
  have HA1 := Lib.hid ((HN0.out.below hb).add (Nat.le_of_lt hg0) hg)
  clear hl hg hb HN0 HA0
  generalize w.heap.size + 1 = n0 at *
  have hn1 := (HA1.out.lt (.tail _ (.tail _ (.head _)))).2
  have HN1 := Lib.hid (HA1.out.alloc #[.int .i64 7, .int .i64 9] 3)
  go_wp2_with fail
  refine (entry_any 1 1 0 1000 (some ⟨w1.heap.size, 0, none⟩) 2 2 _).mono ?_
  rintro _ w2 ⟨g1, rfl, hl, hg, hb⟩
  have hg1 : w.heap.size < g1 := Nat.lt_of_le_of_lt HN1.out.fr.size hl
  have HA2 := Lib.hid ((HN1.out.below hb).add (Nat.le_of_lt hg1) hg)
  clear hl hg hb HN1 HA1
  generalize w1.heap.size = n1 at *
  have hn2 := (HA2.out.lt (.tail _ (.tail _ (.tail _ (.tail _ (.head _)))))).2
  have HN2 := Lib.hid (HA2.out.alloc #[.int .i64 5] 3)
  go_wp2_with fail
  refine (entry_any 0 2 d 2000 (some ⟨w2.heap.size, 0, none⟩) 1 1 _).mono ?_
  rintro _ w3 ⟨g2, rfl, hl, hg, hb⟩
  have hg2 : w.heap.size < g2 := Nat.lt_of_le_of_lt HN2.out.fr.size hl
  have HA3 := Lib.hid ((HN2.out.below hb).add (Nat.le_of_lt hg2) hg)
  clear hl hg hb HN2 HA2
  generalize w2.heap.size = n2 at *
  have HB3 := Lib.hid (HA3.out.alloc #[.int .i64 0, .int .i64 1000, .slice (some ⟨g0, 0, none⟩) 1 1, .slice none 0 0, .int .i64 0, .slice (some ⟨n0, 0, none⟩) 1 1, .int .i64 1, .int .i64 0, .int .i64 1000, .slice (some ⟨g1, 0, none⟩) 1 1, .slice none 0 0, .int .i64 1, .slice (some ⟨n1, 0, none⟩) 2 2, .int .i64 1, .int .i64 d, .int .i64 2000, .slice (some ⟨g2, 0, none⟩) 1 1, .slice none 0 0, .int .i64 0, .slice (some ⟨n2, 0, none⟩) 1 1, .int .i64 2] 100)
  have hB1 := (HA3.out.lt (.tail _ (.tail _ (.tail _ (.tail _ (.tail _ (.tail _ (.head _)))))))).2
  have hn3 := (HB3.out.lt (.tail _ (.tail _ (.tail _ (.tail _ (.tail _ (.tail _ (.tail _ (.head _))))))))).2
  have HN3 := Lib.hid (HB3.out.alloc #[.int .i64 5] 3)
  rw [World.size_alloc] at HN3 hn3
  go_wp2_with fail
  refine (entry_any 0 1 400 900 (some ⟨w3.heap.size + 1, 0, none⟩) 1 1 _).mono ?_
  rintro _ w4 ⟨g3, rfl, hl, hg, hb⟩
  have hg3 : w.heap.size < g3 := Nat.lt_of_le_of_lt HN3.out.fr.size hl
  have HA4 := Lib.hid ((HN3.out.below hb).add (Nat.le_of_lt hg3) hg)
  clear hl hg hb HN3 HB3
  generalize w3.heap.size + 1 = n3 at *
  generalize w3.heap.size = B1 at *
  have hn4 := (HA4.out.lt (.tail _ (.tail _ (.tail _ (.tail _ (.tail _ (.tail _ (.tail _ (.tail _ (.tail _ (.head _))))))))))).2
  have HN4 := Lib.hid (HA4.out.alloc #[.int .i64 7] 3)
  go_wp2_with fail
  refine (entry_any 2 3 1000 1500 (some ⟨w4.heap.size, 0, none⟩) 1 1 _).mono ?_
  rintro _ w5 ⟨g4, rfl, hl, hg, hb⟩
  have hg4 : w.heap.size < g4 := Nat.lt_of_le_of_lt HN4.out.fr.size hl
  have HA5 := Lib.hid ((HN4.out.below hb).add (Nat.le_of_lt hg4) hg)
  clear hl hg hb HN4 HA4
  generalize w4.heap.size = n4 at *
  have hn5 := (HA5.out.lt (.tail _ (.tail _ (.tail _ (.tail _ (.tail _ (.tail _ (.tail _ (.tail _ (.tail _ (.tail _ (.tail _ (.head _))))))))))))).2
  have HN5 := Lib.hid (HA5.out.alloc #[.int .i64 5, .int .i64 6] 3)
  go_wp2_with fail
  refine (entry_any 0 2 100 600 (some ⟨w5.heap.size, 0, none⟩) 2 2 _).mono ?_
  rintro _ w6 ⟨g5, rfl, hl, hg, hb⟩
  have hg5 : w.heap.size < g5 := Nat.lt_of_le_of_lt HN5.out.fr.size hl
  have HA6 := Lib.hid ((HN5.out.below hb).add (Nat.le_of_lt hg5) hg)
  clear hl hg hb HN5 HA5
  generalize w5.heap.size = n5 at *
  have HB6 := Lib.hid (HA6.out.alloc #[.int .i64 400, .int .i64 900, .slice (some ⟨g3, 0, none⟩) 1 1, .slice none 0 0, .int .i64 0, .slice (some ⟨n3, 0, none⟩) 1 1, .int .i64 1, .int .i64 1000, .int .i64 1500, .slice (some ⟨g4, 0, none⟩) 1 1, .slice none 0 0, .int .i64 2, .slice (some ⟨n4, 0, none⟩) 1 1, .int .i64 3, .int .i64 100, .int .i64 600, .slice (some ⟨g5, 0, none⟩) 1 1, .slice none 0 0, .int .i64 0, .slice (some ⟨n5, 0, none⟩) 2 2, .int .i64 2] 100)
  have hB2 : w.heap.size < w6.heap.size := (HA6.out.lt (.tail _ (.tail _ (.tail _ (.tail _ (.tail _ (.tail _ (.tail _ (.tail _ (.tail _ (.tail _ (.tail _ (.tail _ (.tail _ (.head _))))))))))))))).2
  clear HA6
  have HRR := Lib.hid (HB6.out.bk _ _ _ (.tail _ (.tail _ (.tail _ (.tail _ (.tail _ (.tail _ (.tail _ (.tail _ (.tail _ (.tail _ (.tail _ (.tail _ (.tail _ (.tail _ (.head _)))))))))))))))).2
  have HSL : Hid ((Tryz.prog.info? 33).map (·.size) = some (#[.slice (some ⟨B1, 0, none⟩) 3 3, .slice (some ⟨w6.heap.size, 0, none⟩) 3 3, .slice a n c] : Array Value).size) := Tryz.sizeFile
  have HF := Lib.hid (HB6.out.setR (.tail _ (.tail _ (.tail _ (.tail _ (.tail _ (.tail _ (.tail _ (.tail _ (.tail _ (.tail _ (.tail _ (.tail _ (.tail _ (.tail _ (.head _))))))))))))))) #[.slice (some ⟨B1, 0, none⟩) 3 3, .slice (some ⟨w6.heap.size, 0, none⟩) 3 3, .slice a n c] (L' := [(w6.heap.size, #[.int .i64 400, .int .i64 900, .slice (some ⟨g3, 0, none⟩) 1 1, .slice none 0 0, .int .i64 0, .slice (some ⟨n3, 0, none⟩) 1 1, .int .i64 1, .int .i64 1000, .int .i64 1500, .slice (some ⟨g4, 0, none⟩) 1 1, .slice none 0 0, .int .i64 2, .slice (some ⟨n4, 0, none⟩) 1 1, .int .i64 3, .int .i64 100, .int .i64 600, .slice (some ⟨g5, 0, none⟩) 1 1, .slice none 0 0, .int .i64 0, .slice (some ⟨n5, 0, none⟩) 2 2, .int .i64 2], 100), (g5, #[.int .i64 0, .int .i64 1, .int .i64 0, .int .i64 0], 156), (n5, #[.int .i64 5, .int .i64 6], 3), (g4, #[.int .i64 0, .int .i64 1, .int .i64 0, .int .i64 0], 156), (n4, #[.int .i64 7], 3), (g3, #[.int .i64 0, .int .i64 1, .int .i64 0, .int .i64 0], 156), (n3, #[.int .i64 5], 3), (B1, #[.int .i64 0, .int .i64 1000, .slice (some ⟨g0, 0, none⟩) 1 1, .slice none 0 0, .int .i64 0, .slice (some ⟨n0, 0, none⟩) 1 1, .int .i64 1, .int .i64 0, .int .i64 1000, .slice (some ⟨g1, 0, none⟩) 1 1, .slice none 0 0, .int .i64 1, .slice (some ⟨n1, 0, none⟩) 2 2, .int .i64 1, .int .i64 d, .int .i64 2000, .slice (some ⟨g2, 0, none⟩) 1 1, .slice none 0 0, .int .i64 0, .slice (some ⟨n2, 0, none⟩) 1 1, .int .i64 2], 100), (g2, #[.int .i64 0, .int .i64 1, .int .i64 0, .int .i64 0], 156), (n2, #[.int .i64 5], 3), (g1, #[.int .i64 0, .int .i64 1, .int .i64 0, .int .i64 0], 156), (n1, #[.int .i64 7, .int .i64 9], 3), (g0, #[.int .i64 0, .int .i64 1, .int .i64 0, .int .i64 0], 156), (n0, #[.int .i64 5], 3)]) (List.forall_mem_cons.2 ⟨⟨show w6.heap.size ≠ w.heap.size by omega, (.head _)⟩, List.forall_mem_cons.2 ⟨⟨show g5 ≠ w.heap.size by omega, (.tail _ (.head _))⟩, List.forall_mem_cons.2 ⟨⟨show n5 ≠ w.heap.size by omega, (.tail _ (.tail _ (.head _)))⟩, List.forall_mem_cons.2 ⟨⟨show g4 ≠ w.heap.size by omega, (.tail _ (.tail _ (.tail _ (.head _))))⟩, List.forall_mem_cons.2 ⟨⟨show n4 ≠ w.heap.size by omega, (.tail _ (.tail _ (.tail _ (.tail _ (.head _)))))⟩, List.forall_mem_cons.2 ⟨⟨show g3 ≠ w.heap.size by omega, (.tail _ (.tail _ (.tail _ (.tail _ (.tail _ (.head _))))))⟩, List.forall_mem_cons.2 ⟨⟨show n3 ≠ w.heap.size by omega, (.tail _ (.tail _ (.tail _ (.tail _ (.tail _ (.tail _ (.head _)))))))⟩, List.forall_mem_cons.2 ⟨⟨show B1 ≠ w.heap.size by omega, (.tail _ (.tail _ (.tail _ (.tail _ (.tail _ (.tail _ (.tail _ (.head _))))))))⟩, List.forall_mem_cons.2 ⟨⟨show g2 ≠ w.heap.size by omega, (.tail _ (.tail _ (.tail _ (.tail _ (.tail _ (.tail _ (.tail _ (.tail _ (.head _)))))))))⟩, List.forall_mem_cons.2 ⟨⟨show n2 ≠ w.heap.size by omega, (.tail _ (.tail _ (.tail _ (.tail _ (.tail _ (.tail _ (.tail _ (.tail _ (.tail _ (.head _))))))))))⟩, List.forall_mem_cons.2 ⟨⟨show g1 ≠ w.heap.size by omega, (.tail _ (.tail _ (.tail _ (.tail _ (.tail _ (.tail _ (.tail _ (.tail _ (.tail _ (.tail _ (.head _)))))))))))⟩, List.forall_mem_cons.2 ⟨⟨show n1 ≠ w.heap.size by omega, (.tail _ (.tail _ (.tail _ (.tail _ (.tail _ (.tail _ (.tail _ (.tail _ (.tail _ (.tail _ (.tail _ (.head _))))))))))))⟩, List.forall_mem_cons.2 ⟨⟨show g0 ≠ w.heap.size by omega, (.tail _ (.tail _ (.tail _ (.tail _ (.tail _ (.tail _ (.tail _ (.tail _ (.tail _ (.tail _ (.tail _ (.tail _ (.head _)))))))))))))⟩, List.forall_mem_cons.2 ⟨⟨show n0 ≠ w.heap.size by omega, (.tail _ (.tail _ (.tail _ (.tail _ (.tail _ (.tail _ (.tail _ (.tail _ (.tail _ (.tail _ (.tail _ (.tail _ (.tail _ (.head _))))))))))))))⟩, List.forall_mem_nil _⟩⟩⟩⟩⟩⟩⟩⟩⟩⟩⟩⟩⟩⟩))
  have HQ0 := Lib.hid (qp_of (sx := 0) (pl := 1) (lo := 0) (hi := 1000) (HF.out.bk _ _ _ (.tail _ (.tail _ (.tail _ (.tail _ (.tail _ (.tail _ (.tail _ (.tail _ (.tail _ (.tail _ (.tail _ (.tail _ (.tail _ (.head _))))))))))))))).2 (ints1_own (HF.out.bk _ _ _ (.tail _ (.tail _ (.tail _ (.tail _ (.tail _ (.tail _ (.tail _ (.tail _ (.tail _ (.tail _ (.tail _ (.tail _ (.tail _ (.tail _ (.head _)))))))))))))))).2) (by omega))
  have HQ1 := Lib.hid (qp_of (sx := 1) (pl := 1) (lo := 0) (hi := 1000) (HF.out.bk _ _ _ (.tail _ (.tail _ (.tail _ (.tail _ (.tail _ (.tail _ (.tail _ (.tail _ (.tail _ (.tail _ (.tail _ (.head _))))))))))))).2 (ints2_own (HF.out.bk _ _ _ (.tail _ (.tail _ (.tail _ (.tail _ (.tail _ (.tail _ (.tail _ (.tail _ (.tail _ (.tail _ (.tail _ (.tail _ (.head _)))))))))))))).2) (by omega))
  have HQ2 := Lib.hid (qp_of (sx := 0) (pl := 2) (lo := d) (hi := 2000) (HF.out.bk _ _ _ (.tail _ (.tail _ (.tail _ (.tail _ (.tail _ (.tail _ (.tail _ (.tail _ (.tail _ (.head _))))))))))).2 (ints1_own (HF.out.bk _ _ _ (.tail _ (.tail _ (.tail _ (.tail _ (.tail _ (.tail _ (.tail _ (.tail _ (.tail _ (.tail _ (.head _)))))))))))).2) (by omega))
  have HQ3 := Lib.hid (qp_of (sx := 0) (pl := 1) (lo := 400) (hi := 900) (HF.out.bk _ _ _ (.tail _ (.tail _ (.tail _ (.tail _ (.tail _ (.tail _ (.head _)))))))).2 (ints1_own (HF.out.bk _ _ _ (.tail _ (.tail _ (.tail _ (.tail _ (.tail _ (.tail _ (.tail _ (.head _))))))))).2) (by omega))
  have HQ4 := Lib.hid (qp_of (sx := 2) (pl := 3) (lo := 1000) (hi := 1500) (HF.out.bk _ _ _ (.tail _ (.tail _ (.tail _ (.tail _ (.head _)))))).2 (ints1_own (HF.out.bk _ _ _ (.tail _ (.tail _ (.tail _ (.tail _ (.tail _ (.head _))))))).2) (by omega))
  have HQ5 := Lib.hid (qp_of (sx := 0) (pl := 2) (lo := 100) (hi := 600) (HF.out.bk _ _ _ (.tail _ (.tail _ (.head _)))).2 (ints2_own (HF.out.bk _ _ _ (.tail _ (.tail _ (.tail _ (.head _))))).2) (by omega))
  have HEO := Lib.hid (EsQ.three (E := tO d) (V0 := (.slice (some ⟨g0, 0, none⟩) 1 1, .slice none 0 0, .slice (some ⟨n0, 0, none⟩) 1 1)) (V1 := (.slice (some ⟨g1, 0, none⟩) 1 1, .slice none 0 0, .slice (some ⟨n1, 0, none⟩) 2 2)) (V2 := (.slice (some ⟨g2, 0, none⟩) 1 1, .slice none 0 0, .slice (some ⟨n2, 0, none⟩) 1 1)) (HF.out.lt (.tail _ (.tail _ (.tail _ (.tail _ (.tail _ (.tail _ (.tail _ (.tail _ (.head _)))))))))).2 rfl rfl rfl (fun i u hu => (HF.out.cell (.tail _ (.tail _ (.tail _ (.tail _ (.tail _ (.tail _ (.tail _ (.tail _ (.head _))))))))) i).trans (by rw [← Array.getElem?_toList]; exact hu)) HQ0.out HQ1.out HQ2.out)
  have HEN := Lib.hid (EsQ.three (E := tN) (V0 := (.slice (some ⟨g3, 0, none⟩) 1 1, .slice none 0 0, .slice (some ⟨n3, 0, none⟩) 1 1)) (V1 := (.slice (some ⟨g4, 0, none⟩) 1 1, .slice none 0 0, .slice (some ⟨n4, 0, none⟩) 1 1)) (V2 := (.slice (some ⟨g5, 0, none⟩) 1 1, .slice none 0 0, .slice (some ⟨n5, 0, none⟩) 2 2)) (HF.out.lt (.tail _ (.head _))).2 rfl rfl rfl (fun i u hu => (HF.out.cell (.tail _ (.head _)) i).trans (by rw [← Array.getElem?_toList]; exact hu)) HQ3.out HQ4.out HQ5.out)
  have HMM := Lib.hid (HM.out _ HF.out.fr)
  have hrow := (HF.out.bk w.heap.size _ _ (.head _)).2
  have HFR := Lib.hid HF.out.fr
  clear HF HB6 HQ0 HQ1 HQ2 HQ3 HQ4 HQ5 HM
  go_wp2_with (refine wpList_store_row (o := ⟨none, _, _, _, _, _⟩) rfl 33 (.tmp 4) (.tmp 21) rfl w.heap.size #[.slice (some ⟨B1, 0, none⟩) 3 3, .slice (some ⟨w6.heap.size, 0, none⟩) 3 3, .slice a n c] rfl rfl 33 #[.slice none 0 0, .slice none 0 0, .slice none 0 0] HRR.out HSL.out rfl (by simp [Value.oneCell']) ?_; generalize (w6.alloc (.cells #[.int .i64 400, .int .i64 900, .slice (some ⟨g3, 0, none⟩) 1 1, .slice none 0 0, .int .i64 0, .slice (some ⟨n3, 0, none⟩) 1 1, .int .i64 1, .int .i64 1000, .int .i64 1500, .slice (some ⟨g4, 0, none⟩) 1 1, .slice none 0 0, .int .i64 2, .slice (some ⟨n4, 0, none⟩) 1 1, .int .i64 3, .int .i64 100, .int .i64 600, .slice (some ⟨g5, 0, none⟩) 1 1, .slice none 0 0, .int .i64 0, .slice (some ⟨n5, 0, none⟩) 2 2, .int .i64 2] 100)).setRow w.heap.size #[.slice (some ⟨B1, 0, none⟩) 3 3, .slice (some ⟨w6.heap.size, 0, none⟩) 3 3, .slice a n c] = wz at *)
  exact bodyPost_ret (v := .agg #[.slice (some ⟨B1, 0, none⟩) 3 3, .slice (some ⟨w6.heap.size, 0, none⟩) 3 3, .slice a n c]) (results_cell_row rfl _ _ w.heap.size 33 #[.slice (some ⟨B1, 0, none⟩) 3 3, .slice (some ⟨w6.heap.size, 0, none⟩) 3 3, .slice a n c] (0, 0) _ rfl hrow Tryz.underlying33 rfl HSL.out) rfl ⟨⟨some ⟨B1, 0, none⟩, 3, some ⟨w6.heap.size, 0, none⟩, 3, a, c⟩, rfl, ⟨HEO.out, HEN.out, HMM.out⟩, HFR.out⟩
end Go.Proofs.YtgbdbikjckfgmaaGreat
namespace Go.Proofs.YtgbdbikjckfgmaaGreat
open Go.RowKit Go.Shelf
def bF (j : Nat) : Int := if j < 2 then 1 else 0
def bT (j : Nat) : Int := if j = 0 then 2 else if j = 1 then 3 else 0
set_option maxHeartbeats 2000000 in
theorem both_any (w : World) : Calls Tryz.prog 51 #[] w fun e w' => ∃ b, e = .returned (.slice (some ⟨b, 0, none⟩) 2 2) ∧ RsIn w' (.slice (some ⟨b, 0, none⟩) 2 2) 2 bF bT ∧ Below w.heap.size w w' := by
  have HA := Lib.hid ((BF.base w).alloc #[.int .i64 1, .int .i64 2, .int .i64 1, .int .i64 3] 110)
  have HR : Hid (RsIn (w.alloc (.cells #[.int .i64 1, .int .i64 2, .int .i64 1, .int .i64 3] 110)) (.slice (some ⟨w.heap.size, 0, none⟩) 2 2) 2 bF bT) := .inr ⟨w.heap.size, 0, 2, rfl, (HA.out.lt (.head _)).2, fun j hj => by
    rcases (show j = 0 ∨ j = 1 by omega) with rfl | rfl
    · exact ⟨HA.out.cell (.head _) 0, HA.out.cell (.head _) 1⟩
    · exact ⟨HA.out.cell (.head _) 2, HA.out.cell (.head _) 3⟩⟩
  go_enter Tryz.func51, Tryz.ntmps51
  go_wp2_with fail
  go_ret
  exact ⟨_, rfl, HR.out, HA.out.fr⟩
theorem ex_fault : (townsF 500 2 bF bT).fault = 0 := by decide +kernel
theorem ex_fault7 : (townsF 700 2 bF bT).fault = 0 := by decide +kernel
theorem ex_fault1 : (townsF 500 1 bF bT).fault = 0 := by decide +kernel
theorem ex_pairs : chL (townsF 500 2 bF bT) pT 3 = [(0, 0), (0, 2), (1, 1), (2, 2)] := by decide +kernel
theorem ex_sure : chL (townsF 500 2 bF bT) (townsF 500 2 bF bT).sure 3 = [(0, 0), (1, 1), (2, 2)] := by decide +kernel
theorem ex_only : (townsF 700 2 bF bT).only = false := by decide +kernel
theorem ex_cost : (townsF 500 2 bF bT).costV 0 2 = (1, 0) := by decide +kernel
theorem ex_alO : pickN (townsF 500 1 bF bT).alO 3 = [0, 2] := by decide +kernel
theorem ex_alN : pickN (townsF 500 1 bF bT).alN 3 = [0, 2] := by decide +kernel
end Go.Proofs.YtgbdbikjckfgmaaGreat
namespace Go.Proofs.YtgbdbikjckfgmaaGreat
open Go.RowKit Go.Shelf
theorem aw_pairs (z : FV) (w : World) (h : FlQ QP w z (townsF 500 2 bF bT)) : Calls Tryz.prog 22 #[.agg #[.slice z.oa 3 z.oc, .slice z.na 3 z.nc, .slice z.ma 2 z.mc]] w fun e w' => ∃ a c, e = .returned (.tuple #[.slice a 4 c, .int .i64 0]) ∧ SkIn w' (.slice a 4 c) [(0, 0), (0, 2), (1, 1), (2, 2)] ∧ Below w.heap.size w w' := by
  have h1 := pairs_ok z _ w h ex_fault
  have e : chL (townsF 500 2 bF bT) pT (townsF 500 2 bF bT).no = [(0, 0), (0, 2), (1, 1), (2, 2)] := ex_pairs
  rw [e] at h1; exact h1
theorem aw_sure (z : FV) (w : World) (h : FlQ QP w z (townsF 500 2 bF bT)) : Calls Tryz.prog 37 #[.agg #[.slice z.oa 3 z.oc, .slice z.na 3 z.nc, .slice z.ma 2 z.mc]] w fun e w' => ∃ a c, e = .returned (.tuple #[.slice a 3 c, .int .i64 0]) ∧ SkIn w' (.slice a 3 c) [(0, 0), (1, 1), (2, 2)] ∧ Below w.heap.size w w' := by
  have h1 := sureF_ok z _ w h ex_fault
  have e : chL (townsF 500 2 bF bT) (townsF 500 2 bF bT).sure (townsF 500 2 bF bT).no = [(0, 0), (1, 1), (2, 2)] := ex_sure
  rw [e] at h1; exact h1
theorem aw_always (z : FV) (w : World) (h : FlQ QP w z (townsF 500 1 bF bT)) : Calls Tryz.prog 27 #[.agg #[.slice z.oa 3 z.oc, .slice z.na 3 z.nc, .slice z.ma 1 z.mc]] w fun e w' => ∃ a c b d, e = .returned (.tuple #[.slice a 2 c, .slice b 2 d, .int .i64 0]) ∧ IntsIn w' (.slice a 2 c) 2 (nz [0, 2]) ∧ IntsIn w' (.slice b 2 d) 2 (nz [0, 2]) ∧ Below w.heap.size w w' := by
  have h1 := alwaysF_ok z _ w h ex_fault1
  have e : pickN (townsF 500 1 bF bT).alO (townsF 500 1 bF bT).no = [0, 2] := ex_alO
  have e2 : pickN (townsF 500 1 bF bT).alN (townsF 500 1 bF bT).nw = [0, 2] := ex_alN
  rw [e, e2] at h1; exact h1
theorem aw_only (z : FV) (w : World) (h : FlQ QP w z (townsF 700 2 bF bT)) : Calls Tryz.prog 38 #[.agg #[.slice z.oa 3 z.oc, .slice z.na 3 z.nc, .slice z.ma 2 z.mc]] w fun e w' => e = .returned (.tuple #[.slice none 0 0, .int .i64 10]) ∧ Below w.heap.size w w' := by
  have h1 := onlyF_ok z _ w h ex_fault7
  refine Calls.mono h1 fun e w' hp => ?_
  rcases hp with ⟨hb, _⟩ | ⟨_, hp⟩
  · rw [ex_only] at hb; cases hb
  · exact hp
theorem aw_cost (z : FV) (w : World) (h : FlQ QP w z (townsF 500 2 bF bT)) : Calls Tryz.prog 31 #[.agg #[.slice z.oa 3 z.oc, .slice z.na 3 z.nc, .slice z.ma 2 z.mc], .int .i64 0, .int .i64 2] w fun e w' => e = .returned (.tuple #[.int .i64 1, .int .i64 0]) ∧ Below w.heap.size w w' := by
  have h1 := costF_ok 0 2 z _ w h ex_fault
  rw [ex_cost] at h1; exact h1
end Go.Proofs.YtgbdbikjckfgmaaGreat
namespace Go.Proofs.YtgbdbikjckfgmaaGreat
open Go.RowKit Go.Shelf
theorem pairs_lit (L : List (Int × Int)) (a b : Option Addr) (c d : Nat) (w : World) (hL : L.length ≤ 100000) (h1 : SkIn w (.slice a L.length c) L) (h2 : SkIn w (.slice b L.length d) L) : Calls Tryz.prog 26 #[.slice a L.length c, .slice b L.length d] w fun e w' => e = .returned (.bool true) ∧ Below w.heap.size w w' := by
  refine (pairs5_any a b _ _ c d _ _ _ _ w h1 h2 hL hL).mono ?_
  rintro e w' ⟨rfl, hb⟩
  exact ⟨ret_bool (by rw [decide_eq_true rfl, Bool.true_and]; exact allB_true fun j _ => by simp), hb⟩
theorem ints_lit (z : Nat → Int) (n : Nat) (a b : Option Addr) (c d : Nat) (w : World) (hn : n ≤ 100000) (h1 : IntsIn w (.slice a n c) n z) (h2 : IntsIn w (.slice b n d) n z) : Calls Tryz.prog 30 #[.slice a n c, .slice b n d] w fun e w' => e = .returned (.bool true) ∧ Below w.heap.size w w' := by
  refine (ints5_any a b _ _ c d _ _ w h1 h2 hn hn).mono ?_
  rintro e w' ⟨rfl, hb⟩
  exact ⟨ret_bool (by rw [decide_eq_true rfl, Bool.true_and]; exact allB_true fun j _ => by simp), hb⟩
theorem RsIn.one {w : World} {b : Nat} {p q : Nat → Int} (h : RsIn w (.slice (some ⟨b, 0, none⟩) 2 2) 2 p q) : RsIn w (.slice (some ⟨b, 0, none⟩) 1 2) 1 p q := by
  rcases h with ⟨_, _, _, h⟩ | ⟨b', o', c', e, hb, hz⟩
  · omega
  · cases e; exact .inr ⟨_, _, _, rfl, hb, fun j hj => hz j (by omega)⟩
set_option maxRecDepth 100000 in
set_option maxHeartbeats 8000000 in
theorem awake5_any (w : World) : Calls Tryz.prog 19 #[] w fun e w' => e = .returned (.bool true) ∧ Below w.heap.size w w' := by
  have HB0 : Hid (Below w.heap.size w w) := Below.refl _ _
  go_enter Tryz.func19, Tryz.ntmps19
  go_wp2_with fail
  refine (both_any _).mono ?_
  rintro _ w1 ⟨b0, rfl, hr0, hb⟩
  have HB1 := Lib.hid (HB0.out.trans (hb.mono HB0.out.size))
  clear hb HB0
  have HR0 := Lib.hid hr0
  clear hr0
  go_wp2_with fail
  refine (towns_any 500 (some ⟨b0, 0, none⟩) 2 2 bF bT _ HR0.out).mono ?_
  rintro _ w2 ⟨z0, rfl, hq0, hb⟩
  have HB2 := Lib.hid (HB1.out.trans (hb.mono HB1.out.size))
  clear hb HB1
  have HQ0 := Lib.hid hq0
  clear hq0 HR0
  go_wp2_with fail
  refine (aw_pairs z0 _ HQ0.out).mono ?_
  rintro _ w3 ⟨pa, pc, rfl, hp, hb⟩
  have HB3 := Lib.hid (HB2.out.trans (hb.mono HB2.out.size))
  have HP := Lib.hid hp
  clear hp
  clear hb HB2
  clear HQ0
  go_wp2_with fail
  refine (both_any _).mono ?_
  rintro _ w4 ⟨b1, rfl, hr1, hb⟩
  have HB4 := Lib.hid (HB3.out.trans (hb.mono HB3.out.size))
  have HP' := Lib.hid (HP.out.below hb)
  clear HP
  have HP := HP'
  clear HP'
  clear hb HB3
  have HR1 := Lib.hid hr1
  clear hr1
  go_wp2_with fail
  refine (towns_any 500 (some ⟨b1, 0, none⟩) 2 2 bF bT _ HR1.out).mono ?_
  rintro _ w5 ⟨z1, rfl, hq1, hb⟩
  have HB5 := Lib.hid (HB4.out.trans (hb.mono HB4.out.size))
  have HP' := Lib.hid (HP.out.below hb)
  clear HP
  have HP := HP'
  clear HP'
  clear hb HB4
  have HQ1 := Lib.hid hq1
  clear hq1 HR1
  go_wp2_with fail
  refine (aw_sure z1 _ HQ1.out).mono ?_
  rintro _ w6 ⟨sa, sc, rfl, hs, hb⟩
  have HB6 := Lib.hid (HB5.out.trans (hb.mono HB5.out.size))
  have HP' := Lib.hid (HP.out.below hb)
  clear HP
  have HP := HP'
  clear HP'
  have HS := Lib.hid hs
  clear hs
  clear hb HB5
  clear HQ1
  go_wp2_with fail
  refine (both_any _).mono ?_
  rintro _ w7 ⟨b2, rfl, hr2, hb⟩
  have HB7 := Lib.hid (HB6.out.trans (hb.mono HB6.out.size))
  have HP' := Lib.hid (HP.out.below hb)
  clear HP
  have HP := HP'
  clear HP'
  have HS' := Lib.hid (HS.out.below hb)
  clear HS
  have HS := HS'
  clear HS'
  clear hb HB6
  have HR2 := Lib.hid hr2.one
  clear hr2
  go_wp2_with fail
  refine (towns_any 500 (some ⟨b2, 0, none⟩) 1 2 bF bT _ HR2.out).mono ?_
  rintro _ w8 ⟨z2, rfl, hq2, hb⟩
  have HB8 := Lib.hid (HB7.out.trans (hb.mono HB7.out.size))
  have HP' := Lib.hid (HP.out.below hb)
  clear HP
  have HP := HP'
  clear HP'
  have HS' := Lib.hid (HS.out.below hb)
  clear HS
  have HS := HS'
  clear HS'
  clear hb HB7
  have HQ2 := Lib.hid hq2
  clear hq2 HR2
  go_wp2_with fail
  refine (aw_always z2 _ HQ2.out).mono ?_
  rintro _ w9 ⟨oa, oc, na, nc, rfl, ho, hn, hb⟩
  have HB9 := Lib.hid (HB8.out.trans (hb.mono HB8.out.size))
  have HP' := Lib.hid (HP.out.below hb)
  clear HP
  have HP := HP'
  clear HP'
  have HS' := Lib.hid (HS.out.below hb)
  clear HS
  have HS := HS'
  clear HS'
  have HO := Lib.hid ho
  clear ho
  have HN := Lib.hid hn
  clear hn
  clear hb HB8
  clear HQ2
  go_wp2_with fail
  refine (both_any _).mono ?_
  rintro _ w10 ⟨b3, rfl, hr3, hb⟩
  have HB10 := Lib.hid (HB9.out.trans (hb.mono HB9.out.size))
  have HP' := Lib.hid (HP.out.below hb)
  clear HP
  have HP := HP'
  clear HP'
  have HS' := Lib.hid (HS.out.below hb)
  clear HS
  have HS := HS'
  clear HS'
  have HO' := Lib.hid (HO.out.below hb)
  clear HO
  have HO := HO'
  clear HO'
  have HN' := Lib.hid (HN.out.below hb)
  clear HN
  have HN := HN'
  clear HN'
  clear hb HB9
  have HR3 := Lib.hid hr3
  clear hr3
  go_wp2_with fail
  refine (towns_any 700 (some ⟨b3, 0, none⟩) 2 2 bF bT _ HR3.out).mono ?_
  rintro _ w11 ⟨z3, rfl, hq3, hb⟩
  have HB11 := Lib.hid (HB10.out.trans (hb.mono HB10.out.size))
  have HP' := Lib.hid (HP.out.below hb)
  clear HP
  have HP := HP'
  clear HP'
  have HS' := Lib.hid (HS.out.below hb)
  clear HS
  have HS := HS'
  clear HS'
  have HO' := Lib.hid (HO.out.below hb)
  clear HO
  have HO := HO'
  clear HO'
  have HN' := Lib.hid (HN.out.below hb)
  clear HN
  have HN := HN'
  clear HN'
  clear hb HB10
  have HQ3 := Lib.hid hq3
  clear hq3 HR3
  go_wp2_with fail
  refine (aw_only z3 _ HQ3.out).mono ?_
  rintro _ w12 ⟨rfl, hb⟩
  have HB12 := Lib.hid (HB11.out.trans (hb.mono HB11.out.size))
  have HP' := Lib.hid (HP.out.below hb)
  clear HP
  have HP := HP'
  clear HP'
  have HS' := Lib.hid (HS.out.below hb)
  clear HS
  have HS := HS'
  clear HS'
  have HO' := Lib.hid (HO.out.below hb)
  clear HO
  have HO := HO'
  clear HO'
  have HN' := Lib.hid (HN.out.below hb)
  clear HN
  have HN := HN'
  clear HN'
  clear hb HB11
  clear HQ3
  go_wp2_with fail
  refine (both_any _).mono ?_
  rintro _ w13 ⟨b4, rfl, hr4, hb⟩
  have HB13 := Lib.hid (HB12.out.trans (hb.mono HB12.out.size))
  have HP' := Lib.hid (HP.out.below hb)
  clear HP
  have HP := HP'
  clear HP'
  have HS' := Lib.hid (HS.out.below hb)
  clear HS
  have HS := HS'
  clear HS'
  have HO' := Lib.hid (HO.out.below hb)
  clear HO
  have HO := HO'
  clear HO'
  have HN' := Lib.hid (HN.out.below hb)
  clear HN
  have HN := HN'
  clear HN'
  clear hb HB12
  have HR4 := Lib.hid hr4
  clear hr4
  go_wp2_with fail
  refine (towns_any 500 (some ⟨b4, 0, none⟩) 2 2 bF bT _ HR4.out).mono ?_
  rintro _ w14 ⟨z4, rfl, hq4, hb⟩
  have HB14 := Lib.hid (HB13.out.trans (hb.mono HB13.out.size))
  have HP' := Lib.hid (HP.out.below hb)
  clear HP
  have HP := HP'
  clear HP'
  have HS' := Lib.hid (HS.out.below hb)
  clear HS
  have HS := HS'
  clear HS'
  have HO' := Lib.hid (HO.out.below hb)
  clear HO
  have HO := HO'
  clear HO'
  have HN' := Lib.hid (HN.out.below hb)
  clear HN
  have HN := HN'
  clear HN'
  clear hb HB13
  have HQ4 := Lib.hid hq4
  clear hq4 HR4
  go_wp2_with fail
  refine (aw_cost z4 _ HQ4.out).mono ?_
  rintro _ w15 ⟨rfl, hb⟩
  have HB15 := Lib.hid (HB14.out.trans (hb.mono HB14.out.size))
  have HP' := Lib.hid (HP.out.below hb)
  clear HP
  have HP := HP'
  clear HP'
  have HS' := Lib.hid (HS.out.below hb)
  clear HS
  have HS := HS'
  clear HS'
  have HO' := Lib.hid (HO.out.below hb)
  clear HO
  have HO := HO'
  clear HO'
  have HN' := Lib.hid (HN.out.below hb)
  clear HN
  have HN := HN'
  clear HN'
  clear hb HB14
  clear HQ4
  have hbl := below_alloc w15 (.cells #[.int .i64 0, .int .i64 0, .int .i64 0, .int .i64 2, .int .i64 1, .int .i64 1, .int .i64 2, .int .i64 2] 45)
  have HL := Lib.hid (SkIn.own (l := [(0, 0), (0, 2), (1, 1), (2, 2)]) (own_new w15 45 2 4 0 #[.int .i64 0, .int .i64 0, .int .i64 0, .int .i64 2, .int .i64 1, .int .i64 1, .int .i64 2, .int .i64 2] (Nat.zero_le _) rfl (by decide)))
  have HP' := Lib.hid (HP.out.below hbl)
  clear HP
  have HP := HP'
  clear HP'
  have HS' := Lib.hid (HS.out.below hbl)
  clear HS
  have HS := HS'
  clear HS'
  have HO' := Lib.hid (HO.out.below hbl)
  clear HO
  have HO := HO'
  clear HO'
  have HN' := Lib.hid (HN.out.below hbl)
  clear HN
  have HN := HN'
  clear HN'
  have HBL := Lib.hid (HB15.out.trans (hbl.mono HB15.out.size))
  clear HB15 hbl
  have HB15 := HBL
  clear HBL
  go_wp2_with fail
  refine (pairs_lit [(0, 0), (0, 2), (1, 1), (2, 2)] _ _ _ _ _ (by decide) HP.out HL.out).mono ?_
  rintro _ w16 ⟨rfl, hb⟩
  have HB16 := Lib.hid (HB15.out.trans (hb.mono HB15.out.size))
  have HP' := Lib.hid (HP.out.below hb)
  clear HP
  have HP := HP'
  clear HP'
  have HS' := Lib.hid (HS.out.below hb)
  clear HS
  have HS := HS'
  clear HS'
  have HO' := Lib.hid (HO.out.below hb)
  clear HO
  have HO := HO'
  clear HO'
  have HN' := Lib.hid (HN.out.below hb)
  clear HN
  have HN := HN'
  clear HN'
  clear hb HB15
  clear HL
  clear HP
  have hbl := below_alloc w16 (.cells #[.int .i64 0, .int .i64 0, .int .i64 1, .int .i64 1, .int .i64 2, .int .i64 2] 45)
  have HL := Lib.hid (SkIn.own (l := [(0, 0), (1, 1), (2, 2)]) (own_new w16 45 2 3 0 #[.int .i64 0, .int .i64 0, .int .i64 1, .int .i64 1, .int .i64 2, .int .i64 2] (Nat.zero_le _) rfl (by decide)))
  have HS' := Lib.hid (HS.out.below hbl)
  clear HS
  have HS := HS'
  clear HS'
  have HO' := Lib.hid (HO.out.below hbl)
  clear HO
  have HO := HO'
  clear HO'
  have HN' := Lib.hid (HN.out.below hbl)
  clear HN
  have HN := HN'
  clear HN'
  have HBL := Lib.hid (HB16.out.trans (hbl.mono HB16.out.size))
  clear HB16 hbl
  have HB16 := HBL
  clear HBL
  go_wp2_with fail
  refine (pairs_lit [(0, 0), (1, 1), (2, 2)] _ _ _ _ _ (by decide) HS.out HL.out).mono ?_
  rintro _ w17 ⟨rfl, hb⟩
  have HB17 := Lib.hid (HB16.out.trans (hb.mono HB16.out.size))
  have HS' := Lib.hid (HS.out.below hb)
  clear HS
  have HS := HS'
  clear HS'
  have HO' := Lib.hid (HO.out.below hb)
  clear HO
  have HO := HO'
  clear HO'
  have HN' := Lib.hid (HN.out.below hb)
  clear HN
  have HN := HN'
  clear HN'
  clear hb HB16
  clear HL
  clear HS
  have hbl := below_alloc w17 (.cells #[.int .i64 0, .int .i64 2] 3)
  have HL := Lib.hid (IntsIn.own (l := [0, 2]) (own_new w17 3 1 2 0 #[.int .i64 0, .int .i64 2] (Nat.zero_le _) rfl (by decide)))
  have HO' := Lib.hid (HO.out.below hbl)
  clear HO
  have HO := HO'
  clear HO'
  have HN' := Lib.hid (HN.out.below hbl)
  clear HN
  have HN := HN'
  clear HN'
  have HBL := Lib.hid (HB17.out.trans (hbl.mono HB17.out.size))
  clear HB17 hbl
  have HB17 := HBL
  clear HBL
  go_wp2_with fail
  refine (ints_lit (nz [0, 2]) 2 _ _ _ _ _ (by decide) HO.out HL.out).mono ?_
  rintro _ w18 ⟨rfl, hb⟩
  have HB18 := Lib.hid (HB17.out.trans (hb.mono HB17.out.size))
  have HO' := Lib.hid (HO.out.below hb)
  clear HO
  have HO := HO'
  clear HO'
  have HN' := Lib.hid (HN.out.below hb)
  clear HN
  have HN := HN'
  clear HN'
  clear hb HB17
  clear HL
  clear HO
  have hbl := below_alloc w18 (.cells #[.int .i64 0, .int .i64 2] 3)
  have HL := Lib.hid (IntsIn.own (l := [0, 2]) (own_new w18 3 1 2 0 #[.int .i64 0, .int .i64 2] (Nat.zero_le _) rfl (by decide)))
  have HN' := Lib.hid (HN.out.below hbl)
  clear HN
  have HN := HN'
  clear HN'
  have HBL := Lib.hid (HB18.out.trans (hbl.mono HB18.out.size))
  clear HB18 hbl
  have HB18 := HBL
  clear HBL
  go_wp2_with fail
  refine (ints_lit (nz [0, 2]) 2 _ _ _ _ _ (by decide) HN.out HL.out).mono ?_
  rintro _ w19 ⟨rfl, hb⟩
  have HB19 := Lib.hid (HB18.out.trans (hb.mono HB18.out.size))
  have HN' := Lib.hid (HN.out.below hb)
  clear HN
  have HN := HN'
  clear HN'
  clear hb HB18
  clear HL
  go_wp2_with fail
  go_ret
  exact ⟨rfl, HB19.out⟩
end Go.Proofs.YtgbdbikjckfgmaaGreat
namespace Go.Proofs.YtgbdbikjckfgmaaGreat
open Go.RowKit Go.Shelf
def Fl.rowM (f : Fl) (z : Nat → Int) (i : Nat) : Bool := decide (0 ≤ z i) && f.g i (z i).toNat && allB (fun j => !(z j == z i)) i
theorem Fl.isM_no {f : Fl} {n : Nat} {z : Nat → Int} {i : Nat} (hi : i < n) (h1 : z i ≠ -1) (h2 : f.rowM z i = false) : f.isM n z = false := by
  unfold Fl.isM
  rw [allB_false hi, Bool.and_false]
  rw [decide_eq_false h1, Bool.false_or]; exact h2
theorem Fl.isM_yes {f : Fl} {n : Nat} {z : Nat → Int} (hn : n = f.no) (h : ∀ i, i < n → z i ≠ -1 → f.rowM z i = true) : f.isM n z = true := by
  unfold Fl.isM
  rw [decide_eq_true hn, Bool.true_and]
  refine allB_true fun i hi => ?_
  by_cases h1 : z i = -1
  · rw [decide_eq_true h1, Bool.true_or]
  · rw [decide_eq_false h1, Bool.false_or]; exact h i hi h1
theorem cntM_succ (z : Nat → Int) (n : Nat) : cntM z (n + 1) = if z n = -1 then cntM z n else cntM z n + 1 := by
  unfold cntM
  rw [List.range_succ, List.filter_append, List.length_append, List.filter_cons, List.filter_nil]
  by_cases h : z n = -1
  · rw [if_pos h, if_neg (by simp [h])]; rfl
  · rw [if_neg h, if_pos (by simp [h])]; rfl
theorem cntM_le (z : Nat → Int) : ∀ n, cntM z n ≤ n
  | 0 => Nat.le_refl _
  | n + 1 => by
    have := cntM_le z n
    rw [cntM_succ]; split <;> omega
end Go.Proofs.YtgbdbikjckfgmaaGreat
namespace Go.Proofs.YtgbdbikjckfgmaaGreat
open Go.RowKit Go.Shelf
theorem OkF.fault {f : Fl} (h : OkF f) : f.fault = 0 := by
  have b : f.big = false := by
    have h1 := h.no; have h2 := h.nw; have h3 := h.nm
    unfold Fl.big
    rw [decide_eq_false (by omega : ¬ 8 < f.no), decide_eq_false (by omega : ¬ 8 < f.nw), decide_eq_false (by omega : ¬ 16 < f.nm), allB_true (p := fun j => (f.E j).lim) fun j hj => decide_eq_true (h.e j hj).1]; rfl
  have p : f.pf = 0 := firstE_zero fun j hj => (h.e j hj).2.1
  have q : f.fine = true := by
    unfold Fl.fine
    rw [allB_true (p := fun j => (f.E j).ok) fun j hj => (h.e j hj).2.2, allB_true h.m]; rfl
  unfold Fl.fault; rw [b, p, q]; rfl
end Go.Proofs.YtgbdbikjckfgmaaGreat
namespace Go.Proofs.YtgbdbikjckfgmaaGreat
open Go.RowKit Go.Shelf Go.Maps
def rng64 (k : Int) : Prop := (Lit.int .i64 k).wf = true
theorem iKeyed : Keyed Tryz.prog 3 := int_keyed Tryz.underlying3
theorem iKeyOf {k : Int} (h : rng64 k) : keyOf Tryz.prog 3 (.int .i64 k) = some (.int .i64 k) := keyOf_int_mk Tryz.underlying3 h
/-- A set of numbers: its members, its size. -/
def IMD (D : DataW Unit) (F : Int → Bool) (n : Nat) : Prop :=
  Tidy D ∧ size D = n ∧ ∀ k, rng64 k → D.atKey (.int .i64 k) (.lit (.bool false)) = .lit (.bool (F k)) ∧ has D (.int .i64 k) = F k
def IM (w : World) (F : Int → Bool) (bm n : Nat) : Prop := ∃ D : DataW Unit, IMD D F n ∧ w.ownsMap Tryz.prog 3 blR bm n D
theorem IM.made (w : World) : IM (w.alloc (.map #[] 0)) (fun _ => false) w.heap.size 0 :=
  ⟨.map [], ⟨tidy_empty, rfl, fun _ _ => ⟨rfl, rfl⟩⟩, World.ownsMap_made _ _ _ _⟩
theorem IM.kept {w w' : World} {F : Int → Bool} {bm n : Nat} {row : Option Nat} (h : IM w F bm n) (hg : w.grownBy w' row) (hne : some bm ≠ row) : IM w' F bm n := by
  obtain ⟨D, h1, h2⟩ := h; exact ⟨D, h1, h2.kept hg hne⟩
theorem IM.lt {w : World} {F : Int → Bool} {bm n : Nat} (h : IM w F bm n) : bm < w.heap.size := by
  obtain ⟨D, h1, h2⟩ := h; exact h2.lt
theorem IM.below {w w' : World} {F : Int → Bool} {bm n : Nat} (h : IM w F bm n) (hb : Below w.heap.size w w') : IM w' F bm n :=
  h.kept (row := none) ⟨hb.1, hb.2, hb.3, hb.size, fun k hk _ => hb.block k hk⟩ (by simp)
theorem IM.look {F : Int → Bool} {k : Int} (hk : rng64 k) {W : World} {bm m : Nat} (h : IM W F bm m) :
    (Instr.lookup 144 (.map (some bm)) (.int .i64 k) false).run Tryz.prog W = .ok (.bool (F k)) W := by
  obtain ⟨D, hD, hW⟩ := h
  obtain ⟨es, clock, hb, F', _, rfl⟩ := hW
  have hF := (hD.2.2 k hk).1
  rcases Maps.fit_look false iKeyed Tryz.underlying144 (cZero W) hb F' (iKeyOf hk) with ⟨hrun, _, hat⟩ | ⟨e0, y, _, _, hrun, hRv, hat, _⟩
  · rw [hat] at hF
    simp only [DataW.lit.injEq, Lit.bool.injEq] at hF
    rw [hrun, ← hF]; rfl
  · rw [hat] at hF
    obtain ⟨x, hx, rfl⟩ := blR_inv hRv
    simp only [DataW.lit.injEq, Lit.bool.injEq] at hF
    rw [hrun, hx, hF]; rfl
theorem IM.len {F : Int → Bool} {W : World} {bm m : Nat} (h : IM W F bm m) (ty : TypeId) : (Builtin.len_ #[144] ty #[.map (some bm)]).run Tryz.prog W = .ok (.int .i64 (m : Int)) W := by
  obtain ⟨D, hD, hW⟩ := h
  rw [hW.len Tryz.underlying144 ty, hD.2.1]
def addI (F : Int → Bool) (k x : Int) : Bool := F x || decide (x = k)
theorem IM.put {F : Int → Bool} {k : Int} (hk : rng64 k) {w : World} {bm n : Nat} (h : IM w F bm n) (hF : F k = false) (hn : n < maxLen) :
    ∃ w', (Instr.mapUpdate 144 (.map (some bm)) (.int .i64 k) (.bool true)).run Tryz.prog w = .ok () w' ∧ IM w' (addI F k) bm (n + 1) ∧ w.grownBy w' (some bm) := by
  obtain ⟨D, ⟨h1, h3, h4⟩, h2⟩ := h
  obtain ⟨w', hrun, r1, r2⟩ := h2.update iKeyed Tryz.underlying144 hn (iKeyOf hk) (val := .bool true) (d := .lit (.bool true)) (ps := []) rfl
  refine ⟨w', hrun, ⟨_, ⟨h1.put (iKeyed.key (iKeyOf hk)) _, ?_, fun x hx => ?_⟩, r1⟩, r2⟩
  · rw [size_put h1, (h4 k hk).2, hF, h3]; rfl
  · unfold addI
    by_cases e : x = k
    · subst e
      rw [atKey_put_same h1.isMap (iKeyed.key (iKeyOf hx)), has_put_same h1.isMap (iKeyed.key (iKeyOf hx))]
      simp
    · have hne : (Lit.int .i64 x) ≠ .int .i64 k := fun h => e (by injection h)
      rw [atKey_put_other hne, has_put_other hne, decide_eq_false e, Bool.or_false]
      exact h4 x hx
theorem wpList_update_im {ops : Array Oper} {rest : List Oper} {o : Oper} {a : Act} {w : World} {Q : Exit → Act → World → Prop} (hg : o.guard = none) (x y v : Operand) (hop : o.op = Op.mapUpdate 144 x y v) {k : Int} (hk : rng64 k) (F : Int → Bool) (bm n : Nat) (hF : F k = false) (hn : n < maxLen)
    (hm : a.eval x = .map (some bm)) (hown : IM w F bm n) (hx : a.eval y = .int .i64 k) (hv : a.eval v = .bool true)
    (hK : ∀ w', IM w' (addI F k) bm (n + 1) → w.grownBy w' (some bm) → wpList Tryz.prog ops Q rest (a.put o.dst undef) w') : wpList Tryz.prog ops Q (o :: rest) a w := by
  refine wpList_plain hg fun K' hK' => ?_
  obtain ⟨w', hrun, r1, r2⟩ := hown.put hk hF hn
  unfold Oper.wp
  simp [execOp, hop, hm, hx, hv, hrun, Result.andThen]
  exact hK' _ _ (hK w' r1 r2)
theorem wpList_len_im {ops : Array Oper} {rest : List Oper} {o : Oper} {a : Act} {w : World} {Q : Exit → Act → World → Prop} (hg : o.guard = none) (x : Operand) (hop : o.op = Op.call { callee := Callee.builtin Builtin.len, args := #[x], argTypes := #[144] }) (F : Int → Bool) (bm n : Nat)
    (hm : a.eval x = .map (some bm)) (hown : IM w F bm n) (hK : wpList Tryz.prog ops Q rest (a.put o.dst (.int .i64 (n : Int))) w) : wpList Tryz.prog ops Q (o :: rest) a w := by
  refine wpList_plain hg fun K' hK' => ?_
  unfold Oper.wp
  simp [execOp, hop, resolve, invoke, builtin, hm, hown.len o.type, Result.andThen]
  exact hK' _ _ hK
end Go.Proofs.YtgbdbikjckfgmaaGreat
namespace Go.Proofs.YtgbdbikjckfgmaaGreat
open Go.RowKit Go.Shelf Go.Maps
/-- The numbers that the first links have. -/
def inF (z : Nat → Int) (n : Nat) (x : Int) : Bool := !allB (fun j => !(decide (z j ≠ -1) && decide (x = z j))) n
theorem inF_yes {z : Nat → Int} {k : Nat} (h : z k ≠ -1) : inF z (k + 1) = addI (inF z k) (z k) := by
  funext x
  unfold inF addI
  rw [allB_succ, Bool.not_and, Bool.not_not, decide_eq_true h, Bool.true_and]
theorem inF_no {z : Nat → Int} {k : Nat} (h : z k = -1) : inF z (k + 1) = inF z k := by
  funext x
  unfold inF
  rw [allB_succ, Bool.not_and, Bool.not_not, h]; simp
theorem inF_at {z : Nat → Int} {k : Nat} (h : z k ≠ -1) : inF z k (z k) = !allB (fun j => !(z j == z k)) k := by
  unfold inF
  congr 2
  funext j
  congr 1
  rw [Bool.eq_iff_iff]
  simp only [Bool.and_eq_true, decide_eq_true_eq, beq_iff_eq]
  constructor
  · exact fun q => q.2.symm
  · exact fun q => ⟨by rw [q]; exact h, q.symm⟩
theorem Fl.rowM_eq (f : Fl) {z : Nat → Int} {k : Nat} (h : z k ≠ -1) : f.rowM z k = (hasN (nz (f.P k)) (f.P k).length (z k) && !inF z k (z k)) := by
  rw [inF_at h, Bool.not_not]
  unfold Fl.rowM
  by_cases h0 : 0 ≤ z k
  · rw [f.hasP k h0, decide_eq_true h0, Bool.true_and]
  · rw [f.hasP_neg k (by omega), decide_eq_false h0]; rfl
set_option maxRecDepth 100000 in
set_option maxHeartbeats 16000000 in
theorem provM_ok (x : FV) (f : Fl) (a : Option Addr) (n c : Nat) (z : Nat → Int) (many : Int) (w : World) (h : FlQ QP w x f) (hf : f.fault = 0) (hl : IntsIn w (.slice a n c) n z) (hr : ∀ j, j < n → rng64 (z j)) (hn : n ≤ 100000) :
    Calls Tryz.prog 48 #[.agg #[.slice x.oa f.no x.oc, .slice x.na f.nw x.nc, .slice x.ma f.nm x.mc], .slice a n c, .int .i64 many] w fun e w' => e = .returned (.bool (f.isM n z && decide (many ≤ (cntM z n : Int)))) ∧ Below w.heap.size w w' := by
  have OK := Lib.hid (Fl.ok hf)
  have HA0 := Lib.hid ((BF.base w).alloc #[.slice x.oa f.no x.oc, .slice x.na f.nw x.nc, .slice x.ma f.nm x.mc] 33)
  have HC := Lib.hid (work_ok x f _ (h.below QP.k HA0.out.fr) hf)
  have hno := OK.out.no
  have hnw := OK.out.nw
  have HL := Lib.hid hl
  have HRG := Lib.hid hr
  have HPL := Lib.hid (fun i => f.P_len i)
  have HMN := Lib.hid (fun i hi h1 h2 => Fl.isM_no (f := f) (n := n) (z := z) (i := i) hi h1 h2)
  have HMY : Hid (n = f.no → (∀ i, i < n → z i ≠ -1 → f.rowM z i = true) → f.isM n z = true) := fun h1 h2 => Fl.isM_yes h1 h2
  have HM0 : Hid (n ≠ f.no → f.isM n z = false) := fun h => by unfold Fl.isM; rw [decide_eq_false h]; rfl
  have HRE := Lib.hid (fun k hk => f.rowM_eq (z := z) (k := k) hk)
  have HWK : Hid (∀ B W, WkF W B f → ∃ xv, WkAt W B xv f.no f.nw f.P) := fun B W h => h
  clear h hf hl hr OK
  obtain ⟨rb, hrb⟩ : ∃ rb, f.isM n z = rb := ⟨_, rfl⟩
  rw [hrb] at HMN HMY HM0 ⊢
  clear hrb
  generalize f.rowM z = rowM at *
  generalize f.no = no at *
  generalize f.nw = nw at *
  generalize f.nm = nm at *
  go_enter Tryz.func48, Tryz.ntmps48
  go_wp2_with fail
  refine HC.out.mono ?_
  rintro _ w1 ⟨B, rfl, hwk, hb⟩
  have HW := Lib.hid hwk
  have HA1 := Lib.hid (HA0.out.below hb)
  clear hb hwk HC HA0
  have c0 := HA1.out.cell (.head _) 0
  by_cases h0 : n = no
  case neg =>
    have hr := HM0.out h0
    subst hr
    have k0 : ((n : Int) != (no : Int)) = true := by simp; omega
    go_wp2_with fail
    go_ret
    exact ⟨rfl, HA1.out.fr⟩
  subst h0
  have k0 : ((n : Int) != (n : Int)) = false := by simp
  have HMY2 := Lib.hid (HMY.out rfl)
  clear HMY HM0
  have HIM0 : Hid (IM (w1.alloc (.map #[] 0)) (inF z 0) w1.heap.size 0) := IM.made w1
  have HB0 : Hid (Below w1.heap.size w1 (w1.alloc (.map #[] 0))) := below_alloc w1 _
  have hmm := @run_makeMap Tryz.prog
  go_wp2_with fail
  clear hmm
  generalize w1.alloc (.map #[] 0) = ws at *
  obtain ⟨bm, hbm⟩ : ∃ b, w1.heap.size = b := ⟨_, rfl⟩
  have HBM : Hid (w1.heap.size ≤ bm) := Nat.le_of_eq hbm
  rw [hbm] at HIM0 ⊢
  clear hbm c0
  go_loopw [30] (fun v wr => ∃ k : Nat, v = .int .i64 (k : Int) ∧ k ≤ n ∧ (∀ j, j < k → z j ≠ -1 → rowM j = true) ∧ IM wr (inF z k) bm (cntM z k) ∧ Below w1.heap.size w1 wr) (fun v _ => n - (intOf v).toNat)
  case atStart => exact ⟨0, rfl, Nat.zero_le _, fun j hj => absurd hj (Nat.not_lt_zero j), HIM0.out, HB0.out⟩
  case round =>
    clear HIM0 HB0
    obtain ⟨k, rfl, hk, hall, him, hbl⟩ := hrel
    rename World => wx
    have HIM := Lib.hid him
    have HALL := Lib.hid hall
    have HB := Lib.hid hbl
    clear him hall hbl
    by_cases hlt : k < n
    · obtain ⟨lb, lo, rfl, hlb, hzi⟩ := (HL.out.below (HA1.out.fr.trans (HB.out.mono HA1.out.fr.size))).at hlt
      obtain ⟨xv, hwk⟩ := HWK.out B _ (HW.out.below HB.out)
      have k4 := hwk.c4
      have hBl := hwk.lt
      obtain ⟨rb', ro, ra, rc, hpa, hrb', hrc, hri⟩ := hwk.rows.at hlt
      rw [hpa] at k4
      have hm : (f.P k).length ≤ 8 := by have := HPL.out k; omega
      have HCN := Lib.hid (containsI_any _ _ _ _ (z k) wx (by omega) hri)
      have hlk := HIM.out.look (HRG.out k hlt)
      have HCS := Lib.hid (cntM_succ z k)
      have hcl := cntM_le z k
      have HRK := Lib.hid (HRE.out k)
      have HMK := Lib.hid (HMN.out k hlt)
      have HFY := Lib.hid (fun h => inF_yes (z := z) (k := k) h)
      have HFN := Lib.hid (fun h => inF_no (z := z) (k := k) h)
      have HRZ := Lib.hid (HRG.out k hlt)
      obtain ⟨m2, hm2⟩ : ∃ m2, cntM z (k + 1) = m2 := ⟨_, rfl⟩
      rw [hm2] at HCS
      have HM2 := Lib.hid hm2
      clear hm2
      obtain ⟨rk, hrk⟩ : ∃ rk, rowM k = rk := ⟨_, rfl⟩
      have HNX : Hid (z k = -1 ∨ rk = true → ∀ j, j < k + 1 → z j ≠ -1 → rowM j = true) := fun h j hj hz => by
        rcases Nat.lt_succ_iff_lt_or_eq.1 hj with hj | rfl
        · exact HALL.out j hj hz
        · rcases h with h | h
          · exact absurd h hz
          · rw [hrk]; exact h
      rw [hrk] at HRK HMK
      clear hrk HALL hri hwk hpa
      obtain ⟨F1, hF1⟩ : ∃ F1, inF z (k + 1) = F1 := ⟨_, rfl⟩
      have HF1 := Lib.hid hF1
      rw [hF1] at HFY HFN
      clear hF1
      obtain ⟨lk, hlk2⟩ : ∃ lk, inF z k (z k) = lk := ⟨_, rfl⟩
      have HLK := Lib.hid hlk2
      rw [hlk2] at hlk HRK
      clear hlk2
      generalize inF z k = F0 at *
      generalize cntM z k = m1 at *
      generalize hasN (nz (f.P k)) (f.P k).length (z k) = ct at *
      obtain ⟨zi, hzk⟩ : ∃ zi, z k = zi := ⟨_, rfl⟩
      rw [hzk] at hzi HCN hlk HCS HRK HMK HFY HFN HRZ HNX HLK
      clear hzk
      have ki : (0 : Int) ≤ (k : Int) := by omega
      have kj : (k : Int) < (n : Int) := by omega
      by_cases hm1 : zi = -1
      · have kz : (zi == -1) = true := by simp [hm1]
        have HE : Hid (m2 = m1) := by unfold Hid; rw [HCS.out, if_pos hm1]
        have HF : Hid (F1 = F0) := HFN.out hm1
        have HN2 := Lib.hid (HNX.out (.inl hm1))
        clear HCS HRK HMK HFY HFN HNX HCN hlk HLK hm1
        go_wp2_with fail
        go_roundw
        case rel => exact ⟨k + 1, by go_num, by omega, HN2.out, by rw [HM2.out, HE.out, HF1.out, HF.out]; exact HIM.out, HB.out⟩
        case measure => simp [intOf]; omega
      · have kz : (zi == -1) = false := by simp [hm1]
        have HE : Hid (m2 = m1 + 1) := by unfold Hid; rw [HCS.out, if_neg hm1]
        have HF : Hid (F1 = addI F0 zi) := HFY.out hm1
        have HR := Lib.hid (HRK.out hm1)
        have HMI := Lib.hid (HMK.out hm1)
        have HN2 : Hid (rk = true → ∀ j, j < k + 1 → z j ≠ -1 → rowM j = true) := fun h => HNX.out (.inr h)
        clear HCS HRK HMK HFY HFN HNX hm1
        cases lk
        case true =>
          have hr : rk = false := by rw [HR.out]; simp
          have hrb := HMI.out hr
          subst hrb
          clear HR HMI HN2 hr
          go_wp2_with fail
          go_ret
          exact ⟨rfl, HA1.out.fr.trans (HB.out.mono HA1.out.fr.size)⟩
        case false =>
          have HR2 : Hid (rk = ct) := by unfold Hid; rw [HR.out]; simp
          clear HR
          go_wp2_with fail
          refine HCN.out.mono ?_
          rintro _ w4 ⟨rfl, he⟩
          have HB4 : Hid (Below w1.heap.size w1 w4) := by unfold Hid; rw [← he]; exact HB.out
          have HIM4 : Hid (IM w4 F0 bm m1) := by unfold Hid; rw [← he]; exact HIM.out
          clear he HB HIM HCN hlk k4 hzi hrc
          cases ct
          · have hrb := HMI.out HR2.out
            subst hrb
            clear HMI HN2 HR2
            go_wp2_with fail
            go_ret
            exact ⟨rfl, HA1.out.fr.trans (HB4.out.mono HA1.out.fr.size)⟩
          · have HN3 := Lib.hid (HN2.out HR2.out)
            clear HMI HN2 HR2
            go_wp2_with (refine wpList_update_im rfl (.tmp 52) (.tmp 53) (.const (.bool true)) rfl HRZ.out F0 bm m1 HLK.out (by unfold maxLen; omega) rfl HIM4.out rfl rfl ?_)
            intro w5 him5 hgr
            have HIM5 := Lib.hid him5
            have HB5 := Lib.hid (HB4.out.trans ((Fr.grown hgr).low HB4.out.size (fun q hq e => by cases e; have := HBM.out; omega)))
            clear him5 hgr
            go_wp2_with fail
            go_roundw
            case rel => exact ⟨k + 1, by go_num, by omega, HN3.out, by rw [HM2.out, HE.out, HF1.out, HF.out]; exact HIM5.out, HB5.out⟩
            case measure => simp [intOf]; omega
    · obtain rfl : n = k := by omega
      have hrb := HMY2.out HALL.out
      subst hrb
      clear HMY2 HALL
      go_wp2_with (refine wpList_len_im rfl (.tmp 55) rfl _ bm _ rfl HIM.out ?_)
      go_ret
      exact ⟨ret_bool (by rw [Bool.true_and]), HA1.out.fr.trans (HB.out.mono HA1.out.fr.size)⟩
end Go.Proofs.YtgbdbikjckfgmaaGreat
namespace Go.Proofs.YtgbdbikjckfgmaaGreat
open Go.RowKit Go.Shelf
/-- What the closure of ProveCover has captured. -/
structure CvAt (w : World) (b1 b2 b3 : Nat) (oa pa : Option Addr) (na nb oc pc i : Nat) (za zb : Nat → Int) : Prop where
  l1 : b1 < w.heap.size
  l2 : b2 < w.heap.size
  l3 : b3 < w.heap.size
  c1 : w.cell? ⟨b1, 0, none⟩ = some (.slice oa na oc)
  c2 : w.cell? ⟨b2, 0, none⟩ = some (.int .i64 (i : Int))
  c3 : w.cell? ⟨b3, 0, none⟩ = some (.slice pa nb pc)
  i1 : IntsIn w (.slice oa na oc) na za
  i3 : IntsIn w (.slice pa nb pc) nb zb
theorem CvAt.below {w w' : World} {b1 b2 b3 : Nat} {oa pa : Option Addr} {na nb oc pc i : Nat} {za zb : Nat → Int} (h : CvAt w b1 b2 b3 oa pa na nb oc pc i za zb) (hB : Below w.heap.size w w') : CvAt w' b1 b2 b3 oa pa na nb oc pc i za zb :=
  ⟨Nat.lt_of_lt_of_le h.l1 hB.size, Nat.lt_of_lt_of_le h.l2 hB.size, Nat.lt_of_lt_of_le h.l3 hB.size, kept hB h.l1 h.c1, kept hB h.l2 h.c2, kept hB h.l3 h.c3, h.i1.below hB, h.i3.below hB⟩
set_option maxHeartbeats 2000000 in
theorem closure_cov (b1 b2 b3 : Nat) (oa pa : Option Addr) (na nb oc pc i : Nat) (za zb : Nat → Int) (k : Int) (w : World) (h : CvAt w b1 b2 b3 oa pa na nb oc pc i za zb) (h1 : na ≤ 100000) (h2 : nb ≤ 100000) :
    Calls Tryz.prog 86 #[.int .i64 k, .pointer (some ⟨b1, 0, none⟩), .pointer (some ⟨b2, 0, none⟩), .pointer (some ⟨b3, 0, none⟩)] w fun e w' => e = .returned (.bool (hasN za na (i : Int) || hasN zb nb k)) ∧ Below w.heap.size w w' := by
  have HC1 := Lib.hid (containsI_any oa na oc za (i : Int) w h1 h.i1)
  have HC2 := Lib.hid (containsI_any pa nb pc zb k w h2 h.i3)
  have c1 := h.c1
  have c2 := h.c2
  have c3 := h.c3
  clear h
  generalize hasN za na (i : Int) = r1 at *
  generalize hasN zb nb k = r2 at *
  go_enter Tryz.func86, Tryz.ntmps86
  go_wp2_with fail
  refine HC1.out.mono ?_
  rintro _ w1 ⟨rfl, rfl⟩
  cases r1
  · go_wp2_with fail
    refine HC2.out.mono ?_
    rintro _ w2 ⟨rfl, rfl⟩
    go_wp2_with fail
    go_ret
    exact ⟨by simp, Below.refl _ _⟩
  · go_wp2_with fail
    go_ret
    exact ⟨by simp, Below.refl _ _⟩
set_option maxHeartbeats 2000000 in
theorem allc_cov (c b1 b2 b3 : Nat) (oa pa : Option Addr) (na nb oc pc i : Nat) (za zb : Nat → Int) (k : Int) (w : World) (h : CvAt w b1 b2 b3 oa pa na nb oc pc i za zb) (h1 : na ≤ 100000) (h2 : nb ≤ 100000)
    (hc : w.cell? ⟨c, 0, none⟩ = some (.func (.func 86) #[] #[.pointer (some ⟨b1, 0, none⟩), .pointer (some ⟨b2, 0, none⟩), .pointer (some ⟨b3, 0, none⟩)])) :
    Calls Tryz.prog 117 #[.int .i64 k, .pointer (some ⟨c, 0, none⟩)] w fun e w' => e = .returned (.bool (!(hasN za na (i : Int) || hasN zb nb k))) ∧ Below w.heap.size w w' := by
  have HC := Lib.hid (closure_cov b1 b2 b3 oa pa na nb oc pc i za zb k w h h1 h2)
  clear h
  generalize (hasN za na (i : Int) || hasN zb nb k) = r at *
  go_enter Tryz.func117, Tryz.ntmps117
  go_wp2_with fail
  refine HC.out.mono ?_
  rintro _ w1 ⟨rfl, hb⟩
  have HB := Lib.hid hb
  clear hb
  go_wp2_with fail
  go_ret
  exact ⟨rfl, HB.out⟩
set_option maxHeartbeats 4000000 in
theorem indexFunc_cov (c b1 b2 b3 : Nat) (oa pa : Option Addr) (na nb oc pc i : Nat) (za zb : Nat → Int) (w : World) (h : CvAt w b1 b2 b3 oa pa na nb oc pc i za zb) (h1 : na ≤ 100000) (h2 : nb ≤ 100000) (hl : c < w.heap.size)
    (hc : w.cell? ⟨c, 0, none⟩ = some (.func (.func 86) #[] #[.pointer (some ⟨b1, 0, none⟩), .pointer (some ⟨b2, 0, none⟩), .pointer (some ⟨b3, 0, none⟩)])) (a : Option Addr) (n cap : Nat) (z : Nat → Int) (hn : n ≤ 100000) (hz : IntsIn w (.slice a n cap) n z) :
    Calls Tryz.prog 139 #[.slice a n cap, .func (.func 117) #[] #[.pointer (some ⟨c, 0, none⟩)]] w (IdxP (fun j => hasN za na (i : Int) || hasN zb nb (z j)) n w) := by
  have HZ := Lib.hid hz; clear hz
  have HV := Lib.hid (fun W (hW : Below w.heap.size w W) k => allc_cov c b1 b2 b3 oa pa na nb oc pc i za zb k W (h.below hW) h1 h2 (kept hW hl hc)); clear h hc
  generalize hasN za na (i : Int) = r1 at *
  generalize hasN zb nb = r2 at *
  go_enter Tryz.func139, Tryz.ntmps139
  go_wp2_with fail
  go_loopw [8] (fun v wr => ∃ k : Nat, k ≤ n ∧ v = .int .i64 (k : Int) ∧ (∀ j, j < k → (r1 || r2 (z j)) = true) ∧ Below w.heap.size w wr) (fun v _ => n - (intOf v).toNat)
  case atStart => exact ⟨0, Nat.zero_le _, rfl, fun q h => absurd h (Nat.not_lt_zero _), Below.refl _ _⟩
  case round =>
    obtain ⟨k, hk, rfl, hall, hbl⟩ := hrel
    have HA := Lib.hid hall; clear hall
    have HB := Lib.hid hbl; clear hbl
    by_cases hlt : k < n
    · obtain ⟨b, off, rfl, hb, x0⟩ := (HZ.out.below HB.out).at hlt
      have HVK := Lib.hid (HV.out wr HB.out (z k))
      have ki : (0 : Int) ≤ (k : Int) := by omega
      have kj : (k : Int) < (n : Int) := by omega
      cases hin : (r1 || r2 (z k))
      · have HF := Lib.hid (allB_false (p := fun j => r1 || r2 (z j)) hlt hin)
        rw [hin] at HVK
        clear hin
        generalize z k = zk at *
        go_wp2_with fail
        refine HVK.out.mono ?_
        rintro r w2 ⟨rfl, hb2⟩
        have HB2 := Lib.hid (HB.out.trans (hb2.mono HB.out.size))
        clear hb2
        go_wp2_with fail
        go_ret
        exact ⟨_, rfl, by rw [HF.out]; simp, HB2.out⟩
      · have HI := Lib.hid hin
        rw [hin] at HVK
        clear hin
        have HN : Hid (∀ j, j < k + 1 → (r1 || r2 (z j)) = true) := fun q hq => by rcases Nat.lt_succ_iff_lt_or_eq.1 hq with h | rfl; exact HA.out q h; exact HI.out
        generalize z k = zk at *
        go_wp2_with fail
        refine HVK.out.mono ?_
        rintro r w2 ⟨rfl, hb2⟩
        have HB2 := Lib.hid (HB.out.trans (hb2.mono HB.out.size))
        clear hb2
        go_wp2_with fail
        go_roundw
        case rel => exact ⟨k + 1, by omega, by go_num, HN.out, HB2.out⟩
        case measure => simp [intOf]; omega
    · obtain rfl : k = n := by omega
      go_wp2_with fail
      go_ret
      exact ⟨_, rfl, by rw [allB_true HA.out]; rfl, HB.out⟩
set_option maxHeartbeats 2000000 in
theorem all_cov (b1 b2 b3 : Nat) (oa pa : Option Addr) (na nb oc pc i : Nat) (za zb : Nat → Int) (w : World) (h : CvAt w b1 b2 b3 oa pa na nb oc pc i za zb) (h1 : na ≤ 100000) (h2 : nb ≤ 100000) (a : Option Addr) (n cap : Nat) (z : Nat → Int) (hn : n ≤ 100000) (hz : IntsIn w (.slice a n cap) n z) :
    Calls Tryz.prog 87 #[.slice a n cap, .func (.func 86) #[] #[.pointer (some ⟨b1, 0, none⟩), .pointer (some ⟨b2, 0, none⟩), .pointer (some ⟨b3, 0, none⟩)]] w fun e w' => e = .returned (.bool (allB (fun j => hasN za na (i : Int) || hasN zb nb (z j)) n)) ∧ Below w.heap.size w w' := by
  have HI : Hid (∀ c W, Below w.heap.size w W → c < W.heap.size → W.cell? ⟨c, 0, none⟩ = some (.func (.func 86) #[] #[.pointer (some ⟨b1, 0, none⟩), .pointer (some ⟨b2, 0, none⟩), .pointer (some ⟨b3, 0, none⟩)]) → Calls Tryz.prog 116 #[.slice a n cap, .func (.func 117) #[] #[.pointer (some ⟨c, 0, none⟩)]] W fun e w' => e = .returned (.bool (!allB (fun j => hasN za na (i : Int) || hasN zb nb (z j)) n)) ∧ Below W.heap.size W w') := fun c W hW hl hc => by
    have HJ := Lib.hid (indexFunc_cov c b1 b2 b3 oa pa na nb oc pc i za zb W (h.below hW) h1 h2 hl hc a n cap z hn (hz.below hW))
    generalize (fun j => hasN za na (i : Int) || hasN zb nb (z j)) = q at *
    go_enter Tryz.func116, Tryz.ntmps116
    go_wp2_with (go_at_call 139; refine HJ.out.mono ?_; rintro e w' ⟨r, rfl, hr, hb⟩; have HR := Lib.hid hr; clear hr)
    go_ret
    exact ⟨ret_bool HR.out, hb⟩
  clear h hz
  generalize allB (fun j => hasN za na (i : Int) || hasN zb nb (z j)) n = q at *
  go_enter Tryz.func87, Tryz.ntmps87
  go_wp2_with (go_at_call 116; refine (HI.out _ _ (below_alloc _ _) (by simp) (box_cell _ _ _)).mono ?_; rintro e w' ⟨rfl, hb⟩)
  go_ret
  exact ⟨ret_bool (by simp), (below_alloc _ _).trans (hb.mono (by simp))⟩
end Go.Proofs.YtgbdbikjckfgmaaGreat
namespace Go.Proofs.YtgbdbikjckfgmaaGreat
open Go.RowKit Go.Shelf
set_option maxHeartbeats 4000000 in
theorem total_two (L : Nat) (a1 a2 : Option Addr) (n1 c1 n2 c2 : Nat) (w : World) (h0 : w.cell? ⟨L, 0, none⟩ = some (.slice a1 n1 c1)) (h1 : w.cell? ⟨L, 1, none⟩ = some (.slice a2 n2 c2)) (b1 : n1 ≤ 100000) (b2 : n2 ≤ 100000) :
    Calls Tryz.prog 88 #[.slice (some ⟨L, 0, none⟩) 2 2] w fun e w' => e = .returned (.int .i64 ((n1 : Int) + (n2 : Int))) ∧ Below w.heap.size w w' := by
  have k1 : IntKind.i64.wrap (0 + (n1 : Int)) = (n1 : Int) := (IntWalk.i64_in _ (by omega)).trans (by omega)
  have k1' : IntKind.i64.wrap (n1 : Int) = (n1 : Int) := IntWalk.i64_in _ (by omega)
  have k2 : IntKind.i64.wrap ((n1 : Int) + (n2 : Int)) = (n1 : Int) + (n2 : Int) := IntWalk.i64_in _ (by omega)
  go_enter Tryz.func88, Tryz.ntmps88
  go_wp2_with fail
  go_loopw [2, 7] (fun s v wr => ∃ k : Nat, v = .int .i64 (k : Int) ∧ k ≤ 2 ∧ s = .int .i64 (if k = 0 then 0 else if k = 1 then (n1 : Int) else (n1 : Int) + (n2 : Int)) ∧ wr = w) (fun _ v _ => 2 - (intOf v).toNat)
  case atStart => exact ⟨0, rfl, Nat.zero_le _, rfl, rfl⟩
  case round =>
    obtain ⟨k, rfl, hk, rfl, rfl⟩ := hrel
    rcases (by omega : k = 0 ∨ k = 1 ∨ k = 2) with rfl | rfl | rfl
    · go_wp2_with fail
      go_roundw
      case rel => exact ⟨1, by first | rfl | go_num, by omega, by first | rfl | (simp [k1, k1']), by first | trivial | rfl⟩
      case measure => simp [intOf]
    · go_wp2_with fail
      go_roundw
      case rel => exact ⟨2, by first | rfl | go_num, by omega, by first | rfl | (simp [k2]), by first | trivial | rfl⟩
      case measure => simp [intOf]
    · go_wp2_with fail
      go_ret
      exact ⟨rfl, Below.refl _ _⟩
/-- Row i is covered. -/
def Fl.rowC (f : Fl) (za zb : Nat → Int) (na nb i : Nat) : Bool := allB (fun j => hasN za na (i : Int) || hasN zb nb (nz (f.P i) j)) (f.P i).length
theorem Fl.rowC_eq (f : Fl) (za zb : Nat → Int) (na nb i : Nat) : f.rowC za zb na nb i = allB (fun k => !f.g i k || hasN za na (i : Int) || hasN zb nb (k : Int)) f.nw := by
  unfold Fl.rowC
  rw [Bool.eq_iff_iff]
  constructor
  · intro h
    refine allB_true fun k hk => ?_
    cases hg : f.g i k
    · rfl
    · obtain ⟨j, hj, e⟩ := List.getElem_of_mem (Fl.P_mem.2 hg)
      have h2 := allB_all h j hj
      have e2 : nz (f.P i) j = (k : Int) := by unfold nz; simp [hj, e]
      rw [e2] at h2
      rw [Bool.not_true, Bool.false_or]; exact h2
  · intro h
    refine allB_true fun j hj => ?_
    have hm : (f.P i)[j] ∈ f.P i := List.getElem_mem hj
    have hg := Fl.P_mem.1 hm
    have e2 : nz (f.P i) j = (((f.P i)[j] : Nat) : Int) := by unfold nz; simp [hj]
    have h2 := allB_all h _ (Fl.g_in hg).2
    rw [hg, Bool.not_true, Bool.false_or] at h2
    rw [e2]; exact h2
theorem Fl.isC_rows (f : Fl) (na nb : Nat) (za zb : Nat → Int) : f.isC na za nb zb = (risesB za na f.no && risesB zb nb f.nw && allB (fun i => f.rowC za zb na nb i) f.no) := by
  unfold Fl.isC
  congr 2
  funext i
  rw [Fl.rowC_eq]
set_option maxRecDepth 100000 in
set_option maxHeartbeats 16000000 in
theorem provC_ok (x : FV) (f : Fl) (oa pa : Option Addr) (na nb oc pc : Nat) (za zb : Nat → Int) (many : Int) (w : World) (h : FlQ QP w x f) (hf : f.fault = 0) (ha : IntsIn w (.slice oa na oc) na za) (hbb : IntsIn w (.slice pa nb pc) nb zb) (hna : na ≤ 100000) (hnb : nb ≤ 100000) :
    Calls Tryz.prog 52 #[.agg #[.slice x.oa f.no x.oc, .slice x.na f.nw x.nc, .slice x.ma f.nm x.mc], .slice oa na oc, .slice pa nb pc, .int .i64 many] w fun e w' => e = .returned (.bool (f.isC na za nb zb && decide ((na : Int) + (nb : Int) ≤ many))) ∧ Below w.heap.size w w' := by
  have OK := Lib.hid (Fl.ok hf)
  have HA0 : Hid (BF w (((w.alloc (.cells #[.slice x.oa f.no x.oc, .slice x.na f.nw x.nc, .slice x.ma f.nm x.mc] 33)).alloc (.cells #[.slice oa na oc] 47)).alloc (.cells #[.slice pa nb pc] 47)) [(w.heap.size, #[.slice x.oa f.no x.oc, .slice x.na f.nw x.nc, .slice x.ma f.nm x.mc], 33), (w.heap.size + 1, #[.slice oa na oc], 47), (w.heap.size + 1 + 1, #[.slice pa nb pc], 47)]) := BF.made3 w _ _ _ _ _ _
  have HC := Lib.hid (work_ok x f _ (h.below QP.k HA0.out.fr) hf)
  have hno := OK.out.no
  have hnw := OK.out.nw
  have HLA := Lib.hid ha
  have HLB := Lib.hid hbb
  have HPL := Lib.hid (fun i => f.P_len i)
  have HRA := Lib.hid (fun X (hX : Below w.heap.size w X) => rises_any oa na oc za (f.no : Int) X hna (by omega) (by omega) (ha.below hX))
  have HRB := Lib.hid (fun X (hX : Below w.heap.size w X) => rises_any pa nb pc zb (f.nw : Int) X hnb (by omega) (by omega) (hbb.below hX))
  have HIC := Lib.hid (f.isC_rows na nb za zb)
  have HWK : Hid (∀ B W, WkF W B f → ∃ xv, WkAt W B xv f.no f.nw f.P) := fun B W h => h
  have HRW : Hid (∀ i : Nat, allB (fun j => hasN za na (i : Int) || hasN zb nb (nz (f.P i) j)) (f.P i).length = f.rowC za zb na nb i) := fun i => rfl
  clear h hf ha hbb OK
  obtain ⟨rb, hrb⟩ : ∃ rb, f.isC na za nb zb = rb := ⟨_, rfl⟩
  rw [hrb] at HIC ⊢
  clear hrb
  generalize f.rowC za zb na nb = rowC at *
  generalize f.no = no at *
  generalize f.nw = nw at *
  generalize f.nm = nm at *
  generalize risesB za na (no : Int) = ra at *
  generalize risesB zb nb (nw : Int) = rbb at *
  have HRF1 : Hid (ra = false → rb = false) := fun h => by rw [HIC.out, h]; rfl
  have HRF2 : Hid (rbb = false → rb = false) := fun h => by rw [HIC.out, h]; simp
  have HRF3 : Hid (∀ i, i < no → rowC i = false → rb = false) := fun i hi h => by rw [HIC.out, allB_false hi h]; simp
  have HRT : Hid (ra = true → rbb = true → (∀ i, i < no → rowC i = true) → rb = true) := fun h1 h2 h3 => by rw [HIC.out, h1, h2, allB_true h3]; rfl
  clear HIC
  go_enter Tryz.func52, Tryz.ntmps52
  go_wp2_with fail
  refine HC.out.mono ?_
  rintro _ w1 ⟨B, rfl, hwk, hb⟩
  have HW := Lib.hid hwk
  have HA1 := Lib.hid (HA0.out.below hb)
  clear hb hwk HC HA0
  have HDI : Hid (w.heap.size < w.heap.size + 1 + 1 ∧ w.heap.size < w.heap.size + 1) := ⟨by omega, by omega⟩
  obtain ⟨NB, hNB⟩ : ∃ b, w.heap.size + 1 + 1 = b := ⟨_, rfl⟩
  obtain ⟨OB, hOB⟩ : ∃ b, w.heap.size + 1 = b := ⟨_, rfl⟩
  (try rw [show w.heap.size + 2 = NB by omega])
  (try rw [hNB])
  (try rw [hOB])
  rw [hNB, hOB] at HA1
  rw [hNB, hOB] at HDI
  clear hNB hOB
  have c0 := HA1.out.cell (.head _) 0
  have c1 := HA1.out.cell (.head _) 1
  have d0 := HA1.out.cell (.tail _ (.head _)) 0
  have e0 := HA1.out.cell (.tail _ (.tail _ (.head _))) 0
  go_wp2_with fail
  refine (HRA.out _ HA1.out.fr).mono ?_
  rintro _ w2 ⟨rfl, rfl⟩
  cases ra
  · have hr := HRF1.out rfl
    subst hr
    go_wp2_with fail
    go_ret
    exact ⟨rfl, HA1.out.fr⟩
  go_wp2_with fail
  refine (HRB.out _ HA1.out.fr).mono ?_
  rintro _ w2 ⟨rfl, rfl⟩
  cases rbb
  · have hr := HRF2.out rfl
    subst hr
    go_wp2_with fail
    go_ret
    exact ⟨rfl, HA1.out.fr⟩
  obtain ⟨xv, hwk⟩ := HWK.out B _ HW.out
  have k4 := hwk.c4
  have hBl := hwk.lt
  have HRWS := Lib.hid hwk.rows
  clear hwk HWK HRF1 HRF2 HRA HRB
  rename World => wb
  go_wp2_with fail
  clear c0 c1 d0 e0
  go_loopw [42] (fun v wr => ∃ i : Nat, v = .int .i64 (i : Int) ∧ i ≤ no ∧ (∀ j, j < i → rowC j = true) ∧ Below wb.heap.size wb wr) (fun v _ => no - (intOf v).toNat)
  case atStart => exact ⟨0, rfl, Nat.zero_le _, fun j hj => absurd hj (Nat.not_lt_zero j), Below.refl _ _⟩
  case round =>
    obtain ⟨i, rfl, hi, hall, hbl⟩ := hrel
    rename World => wx
    have HB := Lib.hid hbl
    have HALL := Lib.hid hall
    have HX := Lib.hid (HA1.out.below hbl)
    clear hbl hall
    by_cases hlt : i < no
    · obtain ⟨rb', ro, ra', rc, hpa, hrb', hrc, hri⟩ := HRWS.out.at hlt
      have hrc2 := below_cell HB.out _ _ hrc
      have hm : (f.P i).length ≤ 8 := by have := HPL.out i; omega
      have ki : (0 : Int) ≤ (i : Int) := by omega
      have kj : (i : Int) < (no : Int) := by omega
      have HNX : Hid (rowC i = true → ∀ j, j < i + 1 → rowC j = true) := fun h j hj => by
        rcases Nat.lt_succ_iff_lt_or_eq.1 hj with hj | rfl
        · exact HALL.out j hj
        · exact h
      have hl1 := (HX.out.lt (.tail _ (.head _))).2
      have hl2 := (HX.out.lt (.tail _ (.tail _ (.head _)))).2
      have HY := Lib.hid (HX.out.alloc #[.int .i64 (i : Int)] 3)
      have HCV : Hid (CvAt (wx.alloc (.cells #[.int .i64 (i : Int)] 3)) OB wx.heap.size NB oa pa na nb oc pc i za zb) := ⟨(HY.out.lt (.tail _ (.tail _ (.head _)))).2, (HY.out.lt (.head _)).2, (HY.out.lt (.tail _ (.tail _ (.tail _ (.head _))))).2, HY.out.cell (.tail _ (.tail _ (.head _))) 0, HY.out.cell (.head _) 0, HY.out.cell (.tail _ (.tail _ (.tail _ (.head _)))) 0, HLA.out.below HY.out.fr, HLB.out.below HY.out.fr⟩
      have HBY : Hid (Below wb.heap.size wb (wx.alloc (.cells #[.int .i64 (i : Int)] 3))) := below_step HB.out (below_alloc wx _)
      have HAC := Lib.hid (all_cov OB wx.heap.size NB oa pa na nb oc pc i za zb _ HCV.out hna hnb _ _ _ (nz (f.P i)) (by omega) (hri.below HBY.out))
      rw [HRW.out i] at HAC
      have HF3 := Lib.hid (HRF3.out i hlt)
      generalize rowC i = ri at *
      rw [hpa]
      clear hri hrc HCV HALL hl1 hl2
      go_wp2_with fail
      refine HAC.out.mono ?_
      rintro _ w9 ⟨rfl, hb⟩
      have HB9 := Lib.hid (below_step HBY.out hb)
      clear hb HAC HBY HY hrc2
      cases ri
      · have hr := HF3.out rfl
        subst hr
        go_wp2_with fail
        go_ret
        exact ⟨rfl, HA1.out.fr.trans (HB9.out.mono HA1.out.fr.size)⟩
      · have HN2 := Lib.hid (HNX.out rfl)
        go_wp2_with fail
        go_roundw
        case rel => exact ⟨i + 1, by go_num, by omega, HN2.out, HB9.out⟩
        case measure => simp [intOf]; omega
    · obtain rfl : no = i := by omega
      have hr := HRT.out (by simp) (by simp) HALL.out
      subst hr
      have d0 := HX.out.cell (.tail _ (.head _)) 0
      have e0 := HX.out.cell (.tail _ (.tail _ (.head _))) 0
      have HY := Lib.hid (HX.out.alloc #[.slice oa na oc, .slice pa nb pc] 47)
      have HT := Lib.hid (total_two wx.heap.size oa pa na oc nb pc (wx.alloc (.cells #[.slice oa na oc, .slice pa nb pc] 47)) (HY.out.cell (.head _) 0) (HY.out.cell (.head _) 1) hna hnb)
      go_wp2_with fail
      refine HT.out.mono ?_
      rintro _ w9 ⟨rfl, hb⟩
      have HY9 := Lib.hid (HY.out.below hb)
      clear hb HT HY d0 e0
      go_wp2_with fail
      go_ret
      exact ⟨ret_bool (by rw [Bool.true_and]), HY9.out.fr⟩
end Go.Proofs.YtgbdbikjckfgmaaGreat
namespace Go.Proofs.YtgbdbikjckfgmaaGreat
open Go.RowKit Go.Shelf
/-- All but entries and files is as before. -/
def Stab (w X : World) : Prop := ∀ (b : Nat) (cs : Array Value) (T : TypeId), w.heap[b]? = some (.cells cs T (0, 0)) → T ≠ 100 → T ≠ 33 → X.heap[b]? = w.heap[b]?
theorem Stab.refl (w : World) : Stab w w := fun _ _ _ _ _ _ => rfl
theorem Stab.below {w X Y : World} (h : Stab w X) (hb : Below X.heap.size X Y) : Stab w Y := fun b cs T e h1 h2 => by
  have h3 := h b cs T e h1 h2
  rw [e] at h3
  rw [hb.block b (Array.getElem?_eq_some_iff.1 h3).1, h3, e]
theorem Stab.set {w X : World} (h : Stab w X) {b i : Nat} {cs : Array Value} {T : TypeId} {v : Value} (hb : X.heap[b]? = some (.cells cs T (0, 0))) (ht : T = 100 ∨ T = 33) : Stab w (X.setCell ⟨b, i, none⟩ v) := fun b' cs' T' e h1 h2 => by
  have h3 := h b' cs' T' e h1 h2
  rw [e] at h3
  have hne : ¬ b' = b := fun e2 => by
    subst e2
    rw [hb] at h3
    cases h3
    rcases ht with r | r
    · exact h1 r
    · exact h2 r
  rw [(Fr.set X b i v).block b' (Array.getElem?_eq_some_iff.1 h3).1 hne, h3, e]
set_option maxRecDepth 100000 in
set_option maxHeartbeats 8000000 in
theorem towns_own (d : Int) (a : Option Addr) (n c : Nat) (w : World) :
    Calls Tryz.prog 50 #[.int .i64 d, .slice a n c] w fun e w' => ∃ (B1 B2 : Nat) (r0 m0 r1 m1 r2 m2 r3 m3 r4 m4 r5 m5 : Value), e = .returned (.agg #[.slice (some ⟨B1, 0, none⟩) 3 3, .slice (some ⟨B2, 0, none⟩) 3 3, .slice a n c]) ∧ BF w w' [(B1, #[.int .i64 0, .int .i64 1000, r0, .slice none 0 0, .int .i64 0, m0, .int .i64 1, .int .i64 0, .int .i64 1000, r1, .slice none 0 0, .int .i64 1, m1, .int .i64 1, .int .i64 d, .int .i64 2000, r2, .slice none 0 0, .int .i64 0, m2, .int .i64 2], 100), (B2, #[.int .i64 400, .int .i64 900, r3, .slice none 0 0, .int .i64 0, m3, .int .i64 1, .int .i64 1000, .int .i64 1500, r4, .slice none 0 0, .int .i64 2, m4, .int .i64 3, .int .i64 100, .int .i64 600, r5, .slice none 0 0, .int .i64 0, m5, .int .i64 2], 100)] ∧ B1 ≠ B2 ∧ ∀ X, Stab w' X → QP X r0 (.slice none 0 0) m0 (enT 0 1 0 1000 1 (zL [5])) ∧ QP X r1 (.slice none 0 0) m1 (enT 1 1 0 1000 2 (zL [7, 9])) ∧ QP X r2 (.slice none 0 0) m2 (enT 0 2 d 2000 1 (zL [5])) ∧ QP X r3 (.slice none 0 0) m3 (enT 0 1 400 900 1 (zL [5])) ∧ QP X r4 (.slice none 0 0) m4 (enT 2 3 1000 1500 1 (zL [7])) ∧ QP X r5 (.slice none 0 0) m5 (enT 0 2 100 600 2 (zL [5, 6])) := by
  have HA0 := Lib.hid ((BF.base w).alloc #[.slice none 0 0, .slice none 0 0, .slice none 0 0] 33)
  go_enter Tryz.func50, Tryz.ntmps50
  have hn0 := (HA0.out.lt (.head _)).2
  have HN0 := Lib.hid (HA0.out.alloc #[.int .i64 5] 3)
  rw [World.size_alloc] at HN0 hn0
  go_wp2_with fail
  refine (entry_any 0 1 0 1000 (some ⟨w.heap.size + 1, 0, none⟩) 1 1 _).mono ?_
  rintro _ w1 ⟨g0, rfl, hl, hg, hb⟩
  have hg0 : w.heap.size < g0 := Nat.lt_of_le_of_lt HN0.out.fr.size hl
  have HA1 := Lib.hid ((HN0.out.below hb).add (Nat.le_of_lt hg0) hg)
  clear hl hg hb HN0 HA0
  generalize w.heap.size + 1 = n0 at *
  have hn1 := (HA1.out.lt (.tail _ (.tail _ (.head _)))).2
  have HN1 := Lib.hid (HA1.out.alloc #[.int .i64 7, .int .i64 9] 3)
  go_wp2_with fail
  refine (entry_any 1 1 0 1000 (some ⟨w1.heap.size, 0, none⟩) 2 2 _).mono ?_
  rintro _ w2 ⟨g1, rfl, hl, hg, hb⟩
  have hg1 : w.heap.size < g1 := Nat.lt_of_le_of_lt HN1.out.fr.size hl
  have HA2 := Lib.hid ((HN1.out.below hb).add (Nat.le_of_lt hg1) hg)
  clear hl hg hb HN1 HA1
  generalize w1.heap.size = n1 at *
  have hn2 := (HA2.out.lt (.tail _ (.tail _ (.tail _ (.tail _ (.head _)))))).2
  have HN2 := Lib.hid (HA2.out.alloc #[.int .i64 5] 3)
  go_wp2_with fail
  refine (entry_any 0 2 d 2000 (some ⟨w2.heap.size, 0, none⟩) 1 1 _).mono ?_
  rintro _ w3 ⟨g2, rfl, hl, hg, hb⟩
  have hg2 : w.heap.size < g2 := Nat.lt_of_le_of_lt HN2.out.fr.size hl
  have HA3 := Lib.hid ((HN2.out.below hb).add (Nat.le_of_lt hg2) hg)
  clear hl hg hb HN2 HA2
  generalize w2.heap.size = n2 at *
  have HB3 := Lib.hid (HA3.out.alloc #[.int .i64 0, .int .i64 1000, .slice (some ⟨g0, 0, none⟩) 1 1, .slice none 0 0, .int .i64 0, .slice (some ⟨n0, 0, none⟩) 1 1, .int .i64 1, .int .i64 0, .int .i64 1000, .slice (some ⟨g1, 0, none⟩) 1 1, .slice none 0 0, .int .i64 1, .slice (some ⟨n1, 0, none⟩) 2 2, .int .i64 1, .int .i64 d, .int .i64 2000, .slice (some ⟨g2, 0, none⟩) 1 1, .slice none 0 0, .int .i64 0, .slice (some ⟨n2, 0, none⟩) 1 1, .int .i64 2] 100)
  have hB1 := (HA3.out.lt (.tail _ (.tail _ (.tail _ (.tail _ (.tail _ (.tail _ (.head _)))))))).2
  have hn3 := (HB3.out.lt (.tail _ (.tail _ (.tail _ (.tail _ (.tail _ (.tail _ (.tail _ (.head _))))))))).2
  have HN3 := Lib.hid (HB3.out.alloc #[.int .i64 5] 3)
  rw [World.size_alloc] at HN3 hn3
  go_wp2_with fail
  refine (entry_any 0 1 400 900 (some ⟨w3.heap.size + 1, 0, none⟩) 1 1 _).mono ?_
  rintro _ w4 ⟨g3, rfl, hl, hg, hb⟩
  have hg3 : w.heap.size < g3 := Nat.lt_of_le_of_lt HN3.out.fr.size hl
  have HA4 := Lib.hid ((HN3.out.below hb).add (Nat.le_of_lt hg3) hg)
  clear hl hg hb HN3 HB3
  generalize w3.heap.size + 1 = n3 at *
  generalize w3.heap.size = B1 at *
  have hn4 := (HA4.out.lt (.tail _ (.tail _ (.tail _ (.tail _ (.tail _ (.tail _ (.tail _ (.tail _ (.tail _ (.head _))))))))))).2
  have HN4 := Lib.hid (HA4.out.alloc #[.int .i64 7] 3)
  go_wp2_with fail
  refine (entry_any 2 3 1000 1500 (some ⟨w4.heap.size, 0, none⟩) 1 1 _).mono ?_
  rintro _ w5 ⟨g4, rfl, hl, hg, hb⟩
  have hg4 : w.heap.size < g4 := Nat.lt_of_le_of_lt HN4.out.fr.size hl
  have HA5 := Lib.hid ((HN4.out.below hb).add (Nat.le_of_lt hg4) hg)
  clear hl hg hb HN4 HA4
  generalize w4.heap.size = n4 at *
  have hn5 := (HA5.out.lt (.tail _ (.tail _ (.tail _ (.tail _ (.tail _ (.tail _ (.tail _ (.tail _ (.tail _ (.tail _ (.tail _ (.head _))))))))))))).2
  have HN5 := Lib.hid (HA5.out.alloc #[.int .i64 5, .int .i64 6] 3)
  go_wp2_with fail
  refine (entry_any 0 2 100 600 (some ⟨w5.heap.size, 0, none⟩) 2 2 _).mono ?_
  rintro _ w6 ⟨g5, rfl, hl, hg, hb⟩
  have hg5 : w.heap.size < g5 := Nat.lt_of_le_of_lt HN5.out.fr.size hl
  have HA6 := Lib.hid ((HN5.out.below hb).add (Nat.le_of_lt hg5) hg)
  clear hl hg hb HN5 HA5
  generalize w5.heap.size = n5 at *
  have HB6 := Lib.hid (HA6.out.alloc #[.int .i64 400, .int .i64 900, .slice (some ⟨g3, 0, none⟩) 1 1, .slice none 0 0, .int .i64 0, .slice (some ⟨n3, 0, none⟩) 1 1, .int .i64 1, .int .i64 1000, .int .i64 1500, .slice (some ⟨g4, 0, none⟩) 1 1, .slice none 0 0, .int .i64 2, .slice (some ⟨n4, 0, none⟩) 1 1, .int .i64 3, .int .i64 100, .int .i64 600, .slice (some ⟨g5, 0, none⟩) 1 1, .slice none 0 0, .int .i64 0, .slice (some ⟨n5, 0, none⟩) 2 2, .int .i64 2] 100)
  have hB2 : w.heap.size < w6.heap.size := (HA6.out.lt (.tail _ (.tail _ (.tail _ (.tail _ (.tail _ (.tail _ (.tail _ (.tail _ (.tail _ (.tail _ (.tail _ (.tail _ (.tail _ (.head _))))))))))))))).2
  have hB12 : B1 < w6.heap.size := (HA6.out.lt (.tail _ (.tail _ (.tail _ (.tail _ (.tail _ (.tail _ (.head _)))))))).2
  clear HA6
  have HRR := Lib.hid (HB6.out.bk _ _ _ (.tail _ (.tail _ (.tail _ (.tail _ (.tail _ (.tail _ (.tail _ (.tail _ (.tail _ (.tail _ (.tail _ (.tail _ (.tail _ (.tail _ (.head _)))))))))))))))).2
  have HSL : Hid ((Tryz.prog.info? 33).map (·.size) = some (#[.slice (some ⟨B1, 0, none⟩) 3 3, .slice (some ⟨w6.heap.size, 0, none⟩) 3 3, .slice a n c] : Array Value).size) := Tryz.sizeFile
  have HF := Lib.hid (HB6.out.setR (.tail _ (.tail _ (.tail _ (.tail _ (.tail _ (.tail _ (.tail _ (.tail _ (.tail _ (.tail _ (.tail _ (.tail _ (.tail _ (.tail _ (.head _))))))))))))))) #[.slice (some ⟨B1, 0, none⟩) 3 3, .slice (some ⟨w6.heap.size, 0, none⟩) 3 3, .slice a n c] (L' := [(w6.heap.size, #[.int .i64 400, .int .i64 900, .slice (some ⟨g3, 0, none⟩) 1 1, .slice none 0 0, .int .i64 0, .slice (some ⟨n3, 0, none⟩) 1 1, .int .i64 1, .int .i64 1000, .int .i64 1500, .slice (some ⟨g4, 0, none⟩) 1 1, .slice none 0 0, .int .i64 2, .slice (some ⟨n4, 0, none⟩) 1 1, .int .i64 3, .int .i64 100, .int .i64 600, .slice (some ⟨g5, 0, none⟩) 1 1, .slice none 0 0, .int .i64 0, .slice (some ⟨n5, 0, none⟩) 2 2, .int .i64 2], 100), (g5, #[.int .i64 0, .int .i64 1, .int .i64 0, .int .i64 0], 156), (n5, #[.int .i64 5, .int .i64 6], 3), (g4, #[.int .i64 0, .int .i64 1, .int .i64 0, .int .i64 0], 156), (n4, #[.int .i64 7], 3), (g3, #[.int .i64 0, .int .i64 1, .int .i64 0, .int .i64 0], 156), (n3, #[.int .i64 5], 3), (B1, #[.int .i64 0, .int .i64 1000, .slice (some ⟨g0, 0, none⟩) 1 1, .slice none 0 0, .int .i64 0, .slice (some ⟨n0, 0, none⟩) 1 1, .int .i64 1, .int .i64 0, .int .i64 1000, .slice (some ⟨g1, 0, none⟩) 1 1, .slice none 0 0, .int .i64 1, .slice (some ⟨n1, 0, none⟩) 2 2, .int .i64 1, .int .i64 d, .int .i64 2000, .slice (some ⟨g2, 0, none⟩) 1 1, .slice none 0 0, .int .i64 0, .slice (some ⟨n2, 0, none⟩) 1 1, .int .i64 2], 100), (g2, #[.int .i64 0, .int .i64 1, .int .i64 0, .int .i64 0], 156), (n2, #[.int .i64 5], 3), (g1, #[.int .i64 0, .int .i64 1, .int .i64 0, .int .i64 0], 156), (n1, #[.int .i64 7, .int .i64 9], 3), (g0, #[.int .i64 0, .int .i64 1, .int .i64 0, .int .i64 0], 156), (n0, #[.int .i64 5], 3)]) (List.forall_mem_cons.2 ⟨⟨show w6.heap.size ≠ w.heap.size by omega, (.head _)⟩, List.forall_mem_cons.2 ⟨⟨show g5 ≠ w.heap.size by omega, (.tail _ (.head _))⟩, List.forall_mem_cons.2 ⟨⟨show n5 ≠ w.heap.size by omega, (.tail _ (.tail _ (.head _)))⟩, List.forall_mem_cons.2 ⟨⟨show g4 ≠ w.heap.size by omega, (.tail _ (.tail _ (.tail _ (.head _))))⟩, List.forall_mem_cons.2 ⟨⟨show n4 ≠ w.heap.size by omega, (.tail _ (.tail _ (.tail _ (.tail _ (.head _)))))⟩, List.forall_mem_cons.2 ⟨⟨show g3 ≠ w.heap.size by omega, (.tail _ (.tail _ (.tail _ (.tail _ (.tail _ (.head _))))))⟩, List.forall_mem_cons.2 ⟨⟨show n3 ≠ w.heap.size by omega, (.tail _ (.tail _ (.tail _ (.tail _ (.tail _ (.tail _ (.head _)))))))⟩, List.forall_mem_cons.2 ⟨⟨show B1 ≠ w.heap.size by omega, (.tail _ (.tail _ (.tail _ (.tail _ (.tail _ (.tail _ (.tail _ (.head _))))))))⟩, List.forall_mem_cons.2 ⟨⟨show g2 ≠ w.heap.size by omega, (.tail _ (.tail _ (.tail _ (.tail _ (.tail _ (.tail _ (.tail _ (.tail _ (.head _)))))))))⟩, List.forall_mem_cons.2 ⟨⟨show n2 ≠ w.heap.size by omega, (.tail _ (.tail _ (.tail _ (.tail _ (.tail _ (.tail _ (.tail _ (.tail _ (.tail _ (.head _))))))))))⟩, List.forall_mem_cons.2 ⟨⟨show g1 ≠ w.heap.size by omega, (.tail _ (.tail _ (.tail _ (.tail _ (.tail _ (.tail _ (.tail _ (.tail _ (.tail _ (.tail _ (.head _)))))))))))⟩, List.forall_mem_cons.2 ⟨⟨show n1 ≠ w.heap.size by omega, (.tail _ (.tail _ (.tail _ (.tail _ (.tail _ (.tail _ (.tail _ (.tail _ (.tail _ (.tail _ (.tail _ (.head _))))))))))))⟩, List.forall_mem_cons.2 ⟨⟨show g0 ≠ w.heap.size by omega, (.tail _ (.tail _ (.tail _ (.tail _ (.tail _ (.tail _ (.tail _ (.tail _ (.tail _ (.tail _ (.tail _ (.tail _ (.head _)))))))))))))⟩, List.forall_mem_cons.2 ⟨⟨show n0 ≠ w.heap.size by omega, (.tail _ (.tail _ (.tail _ (.tail _ (.tail _ (.tail _ (.tail _ (.tail _ (.tail _ (.tail _ (.tail _ (.tail _ (.tail _ (.head _))))))))))))))⟩, List.forall_mem_nil _⟩⟩⟩⟩⟩⟩⟩⟩⟩⟩⟩⟩⟩⟩))
  have HQX : Hid (∀ X, Stab ((w6.alloc (.cells #[.int .i64 400, .int .i64 900, .slice (some ⟨g3, 0, none⟩) 1 1, .slice none 0 0, .int .i64 0, .slice (some ⟨n3, 0, none⟩) 1 1, .int .i64 1, .int .i64 1000, .int .i64 1500, .slice (some ⟨g4, 0, none⟩) 1 1, .slice none 0 0, .int .i64 2, .slice (some ⟨n4, 0, none⟩) 1 1, .int .i64 3, .int .i64 100, .int .i64 600, .slice (some ⟨g5, 0, none⟩) 1 1, .slice none 0 0, .int .i64 0, .slice (some ⟨n5, 0, none⟩) 2 2, .int .i64 2] 100)).setRow w.heap.size #[.slice (some ⟨B1, 0, none⟩) 3 3, .slice (some ⟨w6.heap.size, 0, none⟩) 3 3, .slice a n c]) X → _) := fun X hX => And.intro (qp_of (sx := 0) (pl := 1) (lo := 0) (hi := 1000) ((hX _ _ _ (HF.out.bk _ _ _ (.tail _ (.tail _ (.tail _ (.tail _ (.tail _ (.tail _ (.tail _ (.tail _ (.tail _ (.tail _ (.tail _ (.tail _ (.tail _ (.head _))))))))))))))).2 (by decide) (by decide)).trans (HF.out.bk _ _ _ (.tail _ (.tail _ (.tail _ (.tail _ (.tail _ (.tail _ (.tail _ (.tail _ (.tail _ (.tail _ (.tail _ (.tail _ (.tail _ (.head _))))))))))))))).2) (ints1_own ((hX _ _ _ (HF.out.bk _ _ _ (.tail _ (.tail _ (.tail _ (.tail _ (.tail _ (.tail _ (.tail _ (.tail _ (.tail _ (.tail _ (.tail _ (.tail _ (.tail _ (.tail _ (.head _)))))))))))))))).2 (by decide) (by decide)).trans (HF.out.bk _ _ _ (.tail _ (.tail _ (.tail _ (.tail _ (.tail _ (.tail _ (.tail _ (.tail _ (.tail _ (.tail _ (.tail _ (.tail _ (.tail _ (.tail _ (.head _)))))))))))))))).2)) (by omega)) (And.intro (qp_of (sx := 1) (pl := 1) (lo := 0) (hi := 1000) ((hX _ _ _ (HF.out.bk _ _ _ (.tail _ (.tail _ (.tail _ (.tail _ (.tail _ (.tail _ (.tail _ (.tail _ (.tail _ (.tail _ (.tail _ (.head _))))))))))))).2 (by decide) (by decide)).trans (HF.out.bk _ _ _ (.tail _ (.tail _ (.tail _ (.tail _ (.tail _ (.tail _ (.tail _ (.tail _ (.tail _ (.tail _ (.tail _ (.head _))))))))))))).2) (ints2_own ((hX _ _ _ (HF.out.bk _ _ _ (.tail _ (.tail _ (.tail _ (.tail _ (.tail _ (.tail _ (.tail _ (.tail _ (.tail _ (.tail _ (.tail _ (.tail _ (.head _)))))))))))))).2 (by decide) (by decide)).trans (HF.out.bk _ _ _ (.tail _ (.tail _ (.tail _ (.tail _ (.tail _ (.tail _ (.tail _ (.tail _ (.tail _ (.tail _ (.tail _ (.tail _ (.head _)))))))))))))).2)) (by omega)) (And.intro (qp_of (sx := 0) (pl := 2) (lo := d) (hi := 2000) ((hX _ _ _ (HF.out.bk _ _ _ (.tail _ (.tail _ (.tail _ (.tail _ (.tail _ (.tail _ (.tail _ (.tail _ (.tail _ (.head _))))))))))).2 (by decide) (by decide)).trans (HF.out.bk _ _ _ (.tail _ (.tail _ (.tail _ (.tail _ (.tail _ (.tail _ (.tail _ (.tail _ (.tail _ (.head _))))))))))).2) (ints1_own ((hX _ _ _ (HF.out.bk _ _ _ (.tail _ (.tail _ (.tail _ (.tail _ (.tail _ (.tail _ (.tail _ (.tail _ (.tail _ (.tail _ (.head _)))))))))))).2 (by decide) (by decide)).trans (HF.out.bk _ _ _ (.tail _ (.tail _ (.tail _ (.tail _ (.tail _ (.tail _ (.tail _ (.tail _ (.tail _ (.tail _ (.head _)))))))))))).2)) (by omega)) (And.intro (qp_of (sx := 0) (pl := 1) (lo := 400) (hi := 900) ((hX _ _ _ (HF.out.bk _ _ _ (.tail _ (.tail _ (.tail _ (.tail _ (.tail _ (.tail _ (.head _)))))))).2 (by decide) (by decide)).trans (HF.out.bk _ _ _ (.tail _ (.tail _ (.tail _ (.tail _ (.tail _ (.tail _ (.head _)))))))).2) (ints1_own ((hX _ _ _ (HF.out.bk _ _ _ (.tail _ (.tail _ (.tail _ (.tail _ (.tail _ (.tail _ (.tail _ (.head _))))))))).2 (by decide) (by decide)).trans (HF.out.bk _ _ _ (.tail _ (.tail _ (.tail _ (.tail _ (.tail _ (.tail _ (.tail _ (.head _))))))))).2)) (by omega)) (And.intro (qp_of (sx := 2) (pl := 3) (lo := 1000) (hi := 1500) ((hX _ _ _ (HF.out.bk _ _ _ (.tail _ (.tail _ (.tail _ (.tail _ (.head _)))))).2 (by decide) (by decide)).trans (HF.out.bk _ _ _ (.tail _ (.tail _ (.tail _ (.tail _ (.head _)))))).2) (ints1_own ((hX _ _ _ (HF.out.bk _ _ _ (.tail _ (.tail _ (.tail _ (.tail _ (.tail _ (.head _))))))).2 (by decide) (by decide)).trans (HF.out.bk _ _ _ (.tail _ (.tail _ (.tail _ (.tail _ (.tail _ (.head _))))))).2)) (by omega)) (qp_of (sx := 0) (pl := 2) (lo := 100) (hi := 600) ((hX _ _ _ (HF.out.bk _ _ _ (.tail _ (.tail _ (.head _)))).2 (by decide) (by decide)).trans (HF.out.bk _ _ _ (.tail _ (.tail _ (.head _)))).2) (ints2_own ((hX _ _ _ (HF.out.bk _ _ _ (.tail _ (.tail _ (.tail _ (.head _))))).2 (by decide) (by decide)).trans (HF.out.bk _ _ _ (.tail _ (.tail _ (.tail _ (.head _))))).2)) (by omega))))))
  have HBB := Lib.hid (HF.out.sub (L' := [(B1, #[.int .i64 0, .int .i64 1000, .slice (some ⟨g0, 0, none⟩) 1 1, .slice none 0 0, .int .i64 0, .slice (some ⟨n0, 0, none⟩) 1 1, .int .i64 1, .int .i64 0, .int .i64 1000, .slice (some ⟨g1, 0, none⟩) 1 1, .slice none 0 0, .int .i64 1, .slice (some ⟨n1, 0, none⟩) 2 2, .int .i64 1, .int .i64 d, .int .i64 2000, .slice (some ⟨g2, 0, none⟩) 1 1, .slice none 0 0, .int .i64 0, .slice (some ⟨n2, 0, none⟩) 1 1, .int .i64 2], 100), (w6.heap.size, #[.int .i64 400, .int .i64 900, .slice (some ⟨g3, 0, none⟩) 1 1, .slice none 0 0, .int .i64 0, .slice (some ⟨n3, 0, none⟩) 1 1, .int .i64 1, .int .i64 1000, .int .i64 1500, .slice (some ⟨g4, 0, none⟩) 1 1, .slice none 0 0, .int .i64 2, .slice (some ⟨n4, 0, none⟩) 1 1, .int .i64 3, .int .i64 100, .int .i64 600, .slice (some ⟨g5, 0, none⟩) 1 1, .slice none 0 0, .int .i64 0, .slice (some ⟨n5, 0, none⟩) 2 2, .int .i64 2], 100)]) (List.forall_mem_cons.2 ⟨(.tail _ (.tail _ (.tail _ (.tail _ (.tail _ (.tail _ (.tail _ (.tail _ (.head _))))))))), List.forall_mem_cons.2 ⟨(.tail _ (.head _)), List.forall_mem_nil _⟩⟩))
  have hrow := (HF.out.bk w.heap.size _ _ (.head _)).2
  clear HF HB6
  go_wp2_with (refine wpList_store_row (o := ⟨none, _, _, _, _, _⟩) rfl 33 (.tmp 4) (.tmp 21) rfl w.heap.size #[.slice (some ⟨B1, 0, none⟩) 3 3, .slice (some ⟨w6.heap.size, 0, none⟩) 3 3, .slice a n c] rfl rfl 33 #[.slice none 0 0, .slice none 0 0, .slice none 0 0] HRR.out HSL.out rfl (by simp [Value.oneCell']) ?_; generalize (w6.alloc (.cells #[.int .i64 400, .int .i64 900, .slice (some ⟨g3, 0, none⟩) 1 1, .slice none 0 0, .int .i64 0, .slice (some ⟨n3, 0, none⟩) 1 1, .int .i64 1, .int .i64 1000, .int .i64 1500, .slice (some ⟨g4, 0, none⟩) 1 1, .slice none 0 0, .int .i64 2, .slice (some ⟨n4, 0, none⟩) 1 1, .int .i64 3, .int .i64 100, .int .i64 600, .slice (some ⟨g5, 0, none⟩) 1 1, .slice none 0 0, .int .i64 0, .slice (some ⟨n5, 0, none⟩) 2 2, .int .i64 2] 100)).setRow w.heap.size #[.slice (some ⟨B1, 0, none⟩) 3 3, .slice (some ⟨w6.heap.size, 0, none⟩) 3 3, .slice a n c] = wz at *)
  exact bodyPost_ret (v := .agg #[.slice (some ⟨B1, 0, none⟩) 3 3, .slice (some ⟨w6.heap.size, 0, none⟩) 3 3, .slice a n c]) (results_cell_row rfl _ _ w.heap.size 33 #[.slice (some ⟨B1, 0, none⟩) 3 3, .slice (some ⟨w6.heap.size, 0, none⟩) 3 3, .slice a n c] (0, 0) _ rfl hrow Tryz.underlying33 rfl HSL.out) rfl ⟨B1, w6.heap.size, _, _, _, _, _, _, _, _, _, _, _, _, rfl, HBB.out, by omega, HQX.out⟩
theorem BF.rebase {w w2 X : World} {L : List (Nat × Array Value × TypeId)} (h : BF w2 X L) (hb : Below w.heap.size w w2) : BF w X L :=
  ⟨hb.trans (h.fr.mono hb.size), fun b cs T hm => ⟨Nat.le_trans hb.size (h.bk b cs T hm).1, (h.bk b cs T hm).2⟩⟩
theorem BF.both {w X : World} {L L2 : List (Nat × Array Value × TypeId)} (h : BF w X L) (h2 : BF w X L2) : BF w X (L ++ L2) :=
  ⟨h.fr, fun b cs T hm => by
    rcases List.mem_append.1 hm with e | e
    · exact h.bk b cs T e
    · exact h2.bk b cs T e⟩
end Go.Proofs.YtgbdbikjckfgmaaGreat
namespace Go.Proofs.YtgbdbikjckfgmaaGreat
open Go.RowKit Go.Shelf
def nF : Fl := townsF 500 2 bF bT
theorem nm_fault : nF.fault = 0 := ex_fault
theorem nm_most : nF.most = 3 := by decide +kernel
theorem nm_most1 : (townsF 500 1 bF bT).most = 2 := by decide +kernel
theorem nm_lst : ∀ j, j < 3 → nF.lst j = zL [0, 1, 2] j := by decide +kernel
theorem nm_poss : (chL nF nF.poss 3).length = 3 := by decide +kernel
theorem nm_only : nF.only = true := by decide +kernel
theorem nm_m1 : nF.isM 3 (zL [2, 1, -1]) = true ∧ cntM (zL [2, 1, -1]) 3 = 2 := by decide +kernel
theorem nm_m2 : nF.isM 3 (zL [2, 1, 2]) = false := by decide +kernel
theorem nm_m3 : nF.isM 2 (zL [2, 1]) = false := by decide +kernel
theorem nm_c1 : nF.isC 2 (zL [0, 1]) 1 (zL [2]) = true := by decide +kernel
theorem nm_c2 : nF.isC 2 (zL [0, 1]) 0 (zL []) = false := by decide +kernel
theorem nm_cost1 : nF.costV 0 1 = (0, 7) := by decide +kernel
theorem nm_cost2 : nF.costV 3 1 = (0, 2) := by decide +kernel
end Go.Proofs.YtgbdbikjckfgmaaGreat
