/- Link: the reference's named and moved. -/
import Derived.Test.YtgbdbikjckfgmaaGreatND
namespace Go.Proofs.YtgbdbikjckfgmaaGreat
open Go.RowKit Go.Shelf

set_option maxHeartbeats 4000000 in
theorem named_any (a b : Option Addr) (n m ca cb : Nat) (p q : Nat → Int) (w : World) (ha : IntsIn w (.slice a n ca) n p) (hb : IntsIn w (.slice b m cb) m q) (hn : n ≤ 100000) (hm : m ≤ 100000) :
    Calls Tryz.prog 69 #[.slice a n ca, .slice b m cb] w fun e w' => e = .returned (.bool (!allB (fun i => allB (fun k => !(q k == p i)) m) n)) ∧ Below w.heap.size w w' := by
  have HP := Lib.hid ha
  have HQ := Lib.hid hb
  clear ha hb
  have HF : Hid (∀ i k, i < n → k < m → (p i == q k) = true → allB (fun i => allB (fun k => !(q k == p i)) m) n = false) := fun i k hi hk h => allB_false hi (allB_false hk (by rw [BEq.comm.trans h]; rfl))
  have HT : Hid ((∀ i, i < n → ∀ k, k < m → (p i == q k) = false) → allB (fun i => allB (fun k => !(q k == p i)) m) n = true) := fun h => allB_true fun i hi => allB_true fun k hk => by rw [BEq.comm.trans (h i hi k hk)]; rfl
  generalize allB (fun i => allB (fun k => !(q k == p i)) m) n = r at *
  go_enter Tryz.func69, Tryz.ntmps69
  go_wp2_with fail
  go_loopw [5] (fun i wr => ∃ k : Nat, i = .int .i64 k ∧ k ≤ n ∧ (∀ j, j < k → ∀ l, l < m → (p j == q l) = false) ∧ Below w.heap.size w wr) (fun i _ => n - (intOf i).toNat)
  case atStart => exact ⟨0, rfl, Nat.zero_le _, fun q h => absurd h (Nat.not_lt_zero _), Below.refl _ _⟩
  case round =>
    obtain ⟨i, rfl, hi, hall, hbl⟩ := hrel
    have HALL := Lib.hid hall
    have HB := Lib.hid hbl
    rename World => wx
    clear hall hbl
    by_cases hlt : i < n
    · have ki : (0 : Int) ≤ (i : Int) := by omega
      have kj : (i : Int) < (n : Int) := by omega
      go_wp2_with fail
      go_loopw [6] (fun i2 wr => ∃ k : Nat, i2 = .int .i64 k ∧ k ≤ m ∧ (∀ l, l < k → (p i == q l) = false) ∧ Below w.heap.size w wr) (fun i2 _ => m - (intOf i2).toNat)
      case atStart => exact ⟨0, rfl, Nat.zero_le _, fun q h => absurd h (Nat.not_lt_zero _), HB.out⟩
      case round =>
        obtain ⟨k, rfl, hk, hall2, hbl⟩ := hrel
        have HAL2 := Lib.hid hall2
        have HB2 := Lib.hid hbl
        rename World => wy
        clear hall2 hbl
        by_cases hlk : k < m
        · obtain ⟨pb, po, rfl, hpb, ep⟩ := (HP.out.below HB2.out.drew).at hlt
          obtain ⟨qb, qo, rfl, hqb, eq⟩ := (HQ.out.below HB2.out.drew).at hlk
          have HBD := Lib.hid (HB2.out.drew)
          have mi : (0 : Int) ≤ (k : Int) := by omega
          have mj : (k : Int) < (m : Int) := by omega
          go_wp2_with fail
          refine wp_region_Z (S := fun X => X.cell? ⟨pb, po + i, none⟩ = some (.int .i64 (p i)) ∧ X.cell? ⟨qb, qo + k, none⟩ = some (.int .i64 (q k))) (by kernel_rfl) ⟨ep, eq⟩ (fun hS => ?_)
          generalize wy.drew = X at *
          refine tk [0, 1, 2, 3, 4, 5, 6, 7, 8] ?_
          repeat (refine tkZ (oi := ⟨_, _, _, _, _, _⟩) (v := ?_) rfl (by kernel_rfl) (by rfl) (fun _ _ _ h => h) hS ?_ ?_; rotate_left; (· rintro W' ⟨z0, z1⟩; go_simp; try with_reducible rfl); try simp only [Act.put, putA, putZ, putS])
          refine tk0 ?_
          refine wpAnyZ_done (by kernel_rfl) ?_ _
          cases he : (p i == q k)
          · have HX := Lib.hid he
            clear ep eq hS
            go_wp2_with fail
            go_roundw
            case rel => exact ⟨k + 1, by go_num, by omega, (fun q hq => by rcases Nat.lt_succ_iff_lt_or_eq.1 hq with h | rfl; exact HAL2.out q h; exact HX.out), HBD.out⟩
            case measure => simp [intOf]; omega
          · have HX := Lib.hid (HF.out i k hlt hlk he)
            clear ep eq hS
            go_wp2_with fail
            go_ret
            exact ⟨ret_bool (by rw [HX.out]; rfl), HBD.out⟩
        · obtain rfl : k = m := by omega
          go_wp2_with fail
          go_roundw
          case rel => exact ⟨i + 1, by go_num, by omega, (fun q hq => by rcases Nat.lt_succ_iff_lt_or_eq.1 hq with h | rfl; exact HALL.out q h; exact HAL2.out), HB2.out⟩
          case measure => simp [intOf]; omega
    · obtain rfl : i = n := by omega
      have HX := Lib.hid (HT.out HALL.out)
      go_wp2_with fail
      go_ret
      exact ⟨ret_bool (by rw [HX.out]; rfl), HB.out⟩
set_option maxHeartbeats 4000000 in
theorem moved_any (x : FV) (f : Fl) (p q : Int) (w : World) (h : RsIn w (.slice x.ma f.nm x.mc) f.nm f.mf f.mt) (hn : f.nm ≤ 100000) :
    Calls Tryz.prog 70 #[.agg #[.slice x.oa f.no x.oc, .slice x.na f.nw x.nc, .slice x.ma f.nm x.mc], .int .i64 p, .int .i64 q] w fun e w' => e = .returned (.bool (p == q || f.movB p q)) ∧ Below w.heap.size w w' := by
  have HA := Lib.hid ((BF.base w).alloc #[.slice x.oa f.no x.oc, .slice x.na f.nw x.nc, .slice x.ma f.nm x.mc] 25)
  have HM := Lib.hid (h.below HA.out.fr)
  have HF : Hid (∀ k, k < f.nm → f.mf k = p → f.mt k = q → (p == q || f.movB p q) = true) := fun k hk h1 h2 => by
    have e : f.movB p q = true := by unfold Fl.movB; rw [allB_false hk (by rw [h1, h2]; simp)]; rfl
    rw [e, Bool.or_true]
  have HT : Hid ((∀ k, k < f.nm → (f.mf k == p && f.mt k == q) = false) → (p == q || f.movB p q) = (p == q)) := fun h => by
    have e : f.movB p q = false := by unfold Fl.movB; rw [allB_true fun k hk => by rw [h k hk]; rfl]; rfl
    rw [e, Bool.or_false]
  clear h
  have k2 := HA.out.cell (.head _) 2
  generalize (p == q || f.movB p q) = r at *
  generalize f.mf = mf at *
  generalize f.mt = mt at *
  generalize f.no = no at *
  generalize f.nw = nw at *
  generalize f.nm = nm at *
  go_enter Tryz.func70, Tryz.ntmps70
  go_wp2_with fail
  generalize w.alloc (.cells #[.slice x.oa no x.oc, .slice x.na nw x.nc, .slice x.ma nm x.mc] 25) = wy at *
  go_loopw [7] (fun i wr => ∃ k : Nat, i = .int .i64 (k : Int) ∧ k ≤ nm ∧ (∀ q', q' < k → (mf q' == p && mt q' == q) = false) ∧ wy = wr) (fun i _ => nm - (intOf i).toNat)
  case atStart => exact ⟨0, rfl, Nat.zero_le _, fun q h => absurd h (Nat.not_lt_zero _), rfl⟩
  case round =>
    obtain ⟨k, rfl, hk, hall, rfl⟩ := hrel
    have HALL := Lib.hid hall
    clear hall
    by_cases hlt : k < nm
    · obtain ⟨mb, mo, hma, hmb, m0, m1⟩ := HM.out.at hlt
      rw [hma] at k2
      clear hma
      have ki : (0 : Int) ≤ (k : Int) := by omega
      have kj : (k : Int) < (nm : Int) := by omega
      by_cases h1 : mf k = p
      · have h1b : (mf k == p) = true := by simp [h1]
        by_cases h2 : mt k = q
        · have h2b : (mt k == q) = true := by simp [h2]
          have HR := Lib.hid (HF.out k hlt h1 h2)
          clear h1 h2
          go_wp2_with fail
          go_ret
          exact ⟨ret_bool HR.out.symm, HA.out.fr⟩
        · have h2b : (mt k == q) = false := by simp [h2]
          have HX : Hid ((mf k == p && mt k == q) = false) := by unfold Hid; rw [h2b, Bool.and_false]
          clear h1 h2
          go_wp2_with fail
          go_roundw
          case rel => exact ⟨k + 1, by go_num, by omega, (fun q' hq => by rcases Nat.lt_succ_iff_lt_or_eq.1 hq with h | rfl; exact HALL.out q' h; exact HX.out), trivial⟩
          case measure => simp [intOf]; omega
      · have h1b : (mf k == p) = false := by simp [h1]
        have HX : Hid ((mf k == p && mt k == q) = false) := by unfold Hid; rw [h1b]; rfl
        clear h1
        go_wp2_with fail
        go_roundw
        case rel => exact ⟨k + 1, by go_num, by omega, (fun q' hq => by rcases Nat.lt_succ_iff_lt_or_eq.1 hq with h | rfl; exact HALL.out q' h; exact HX.out), trivial⟩
        case measure => simp [intOf]; omega
    · have HR := Lib.hid (HT.out (fun q' hq => HALL.out q' (by omega)))
      obtain rfl : k = nm := by omega
      go_wp2_with fail
      go_ret
      exact ⟨ret_bool HR.out.symm, HA.out.fr⟩
end Go.Proofs.YtgbdbikjckfgmaaGreat
