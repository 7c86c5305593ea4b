/- Link: what LinkTrue needs (1 of 5). -/
import Derived.Test.YtgbdbikjckfgmaaGreatND
import Derived.BigQuiet
import Derived.Carry
import Derived.Deep.AppendLies
import Derived.Deep.DeepCutAuto
import Derived.Deep.DrawnRows
import Derived.Deep.QuietTactic
import Derived.Deep.RegionHeld3
import Derived.Deep.RegionLawGrows
import Derived.Deep.RegionWith
import Derived.Deep.Slices
import Derived.Deep.Strs
import Derived.Laws.EntriesVeiled
import Derived.Laws.Rows
import Derived.Laws.Tables
import Derived.Lib.Hide
import Derived.Lib.SliceRun
import Derived.Lib.SmallJoins
import Derived.LoopIn
import Derived.LoopNIn
import Derived.LoopTactic
import Derived.Maps.AppendAt
import Derived.Maps.Keyed
import Derived.Maps.Views
import Derived.OpenShut
import Derived.OrdersHeld
import Derived.Outline
import Derived.OwnWalkIn
import Derived.ProofKit
import Derived.RangeFuncBound
import Derived.RangeFuncCalls
import Derived.RangeFuncLeaves
import Derived.RangeFuncNested
import Derived.Shelf.Abstract
import Derived.Shelf.RegionOpen
import Derived.SizedLaws
import Derived.TacticsInMore
import Derived.WalkKit
import Derived.WalkLawsBesides
import Derived.WalkSpells
namespace Go.Proofs.YtgbdbikjckfgmaaGreat
open Go.RowKit Go.Shelf
theorem step_store_row {ops : Array Oper} {o : Oper} {a : Act} {w : World} {K : Act → World → Prop} {Q : Exit → Act → World → Prop} {E : Prop} (hgd : o.guard = none) (ty : TypeId) (x y : Operand) (ho : o.op = .store ty x y)
    (g : Nat) (cells : Array Value) (hx : a.eval x = .pointer (some ⟨g, 0, none⟩)) (hy : a.eval y = .agg cells) (t : TypeId) (old : Array Value) (hg : w.heap[g]? = some (.cells old t (0, 0))) (hi : (Tryz.prog.info? ty).map (·.size) = some cells.size)
    (hold : old.size = cells.size) (h1 : cells.all (·.oneCell') = true) (h : K (a.put o.dst undef) (w.setRow g cells)) :
    if Region.wanted o (yielded ops a.tmps) = true then Oper.wp Tryz.prog o a w K Q else E := by
  have hw : Region.wanted o (yielded ops a.tmps) = true := by simp [Region.wanted, hgd]
  rw [if_pos hw]
  exact wp_store_row ty x y ho g cells hx hy t old hg hi hold h1 h
end Go.Proofs.YtgbdbikjckfgmaaGreat
namespace Go.Proofs.YtgbdbikjckfgmaaGreat
open Go.RowKit Go.Shelf
theorem IntsIn.src {W : World} {a : Option Addr} {cap n : Nat} {z : Nat → Int} (h : IntsIn W (.slice a n cap) n z) : Src W a 1 n (iL z n) := by
  refine ⟨by rw [iL_length]; omega, fun j v hv => ?_⟩
  have hj : j < n := by have := (List.getElem?_eq_some_iff.1 hv).1; rw [iL_length] at this; exact this
  rw [iL_get z hj] at hv
  cases hv
  rcases h with ⟨_, _, _, h⟩ | ⟨b, off, cap, h, hb, hz⟩
  · omega
  · cases h
    exact ⟨_, rfl, by rw [addr_add]; exact hz j hj⟩
set_option maxHeartbeats 4000000 in
theorem listC_any (a : Option Addr) (n cap : Nat) (z : Nat → Int) (w : World) (hn : n ≤ 100000) (hz : IntsIn w (.slice a n cap) n z) :
    Calls Tryz.prog 49 #[.slice a n cap] w fun e w' => ∃ b c, e = .returned (.slice b n c) ∧ w'.ownsRow w.heap.size 3 1 (.slice b n c) n (iL z n) ∧ Below w.heap.size w w' := by
  obtain ⟨i0, hi0, hz0, hz1, hz2⟩ := info_parts Tryz.infoInt
  have HS := Lib.hid hz.src
  clear hz
  go_enter Tryz.func49, Tryz.ntmps49
  go_wp2_with (at_builtin; refine wpList_append_src _ rfl (.const (.slice none 0 0)) (.tmp 3) 47 rfl w.heap.size 3 i0 (.int .i64 0) 1 8 Tryz.underlying47 hi0 hz0 hz1 hz2 rfl (by decide) (.slice none 0 0) 0 [] rfl (World.ownsRow_nil _ _ _ _) a n cap (iL z n) rfl HS.out (iL_one z n) ?a1 ?a2 (Nat.le_refl _) ?_)
  case a1 => unfold maxLen; omega
  case a2 => omega
  intro v w1 hown hgr _
  have hown : w1.ownsRow w.heap.size 3 1 v n (iL z n) := by have h := hown; simpa using h
  obtain ⟨b, c, rfl⟩ := own_slice' hown
  have hb : Below w.heap.size w w1 := (Fr.grown hgr).low (Nat.le_refl _) (fun q hq e => by cases e)
  go_wp2_with fail
  go_ret
  exact ⟨b, c, rfl, hown, hb⟩
theorem fault5_any (x : FV) (f : Fl) (w : World) (h : FlQ QR w x f) :
    Calls Tryz.prog 23 #[.agg #[.slice x.oa f.no x.oc, .slice x.na f.nw x.nc, .slice x.ma f.nm x.mc]] w fun e w' => e = .returned (.int .i64 f.fault) ∧ Below w.heap.size w w' := by
  have hb0 := below_alloc w (.cells #[.slice x.oa f.no x.oc, .slice x.na f.nw x.nc, .slice x.ma f.nm x.mc] 25)
  have HC := Lib.hid (refFaultF_any x f _ (h.below QR.k hb0))
  have HB := Lib.hid hb0
  clear h hb0
  generalize f.fault = ft at *
  generalize f.no = no at *
  generalize f.nw = nw at *
  generalize f.nm = nm at *
  go_enter Tryz.func23, Tryz.ntmps23
  go_wp2_with fail
  refine HC.out.mono ?_
  rintro _ w1 ⟨rfl, hb⟩
  have HB1 := Lib.hid (below_step HB.out hb)
  clear hb
  go_wp2_with fail
  go_ret
  exact ⟨rfl, HB1.out⟩
set_option maxHeartbeats 4000000 in
theorem ints5_any (a b : Option Addr) (n m ca cb : Nat) (p q : Nat → Int) (w : World) (hp : IntsIn w (.slice a n ca) n p) (hq : IntsIn w (.slice b m cb) m q) (hn : n ≤ 100000) (hm : m ≤ 100000) :
    Calls Tryz.prog 30 #[.slice a n ca, .slice b m cb] w fun e w' => e = .returned (.bool (decide (n = m) && allB (fun j => p j == q j) n)) ∧ Below w.heap.size w w' := by
  have HP := Lib.hid hp
  have HQ := Lib.hid hq
  clear hp hq
  by_cases hnm : n = m
  · subst hnm
    have hnI : ((n : Int) != (n : Int)) = false := by simp
    have HF : Hid (∀ k, k < n → (p k == q k) = false → (decide (n = n) && allB (fun j => p j == q j) n) = false) := fun k hk h => by rw [allB_false (p := fun j => p j == q j) hk h, Bool.and_false]
    have HT : Hid ((∀ k, k < n → (p k == q k) = true) → (decide (n = n) && allB (fun j => p j == q j) n) = true) := fun h => by rw [allB_true (p := fun j => p j == q j) h]; simp
    generalize (decide (n = n) && allB (fun j => p j == q j) n) = r at *
    go_enter Tryz.func30, Tryz.ntmps30
    go_wp2_with fail
    go_loopw [5] (fun i wr => ∃ k : Nat, i = .int .i64 k ∧ k ≤ n ∧ (∀ l, l < k → (p l == q l) = true) ∧ Below w.heap.size w wr) (fun i _ => n - (intOf i).toNat)
    case atStart => exact ⟨0, rfl, Nat.zero_le _, fun q h => absurd h (Nat.not_lt_zero _), Below.refl _ _⟩
    case round =>
      obtain ⟨k, rfl, hk, hall, hbl⟩ := hrel
      have HALL := Lib.hid hall
      have HB := Lib.hid hbl
      rename World => wy
      clear hall hbl
      by_cases hlt : k < n
      · have HBD := Lib.hid (HB.out.drew)
        obtain ⟨pb, po, rfl, hpb, ep⟩ := (HP.out.below HBD.out).at hlt
        obtain ⟨qb, qo, rfl, hqb, eq⟩ := (HQ.out.below HBD.out).at hlt
        have ki : (0 : Int) ≤ (k : Int) := by omega
        have kj : (k : Int) < (n : Int) := by omega
        cases he : (p k != q k)
        · have HX : Hid ((p k == q k) = true) := by unfold Hid; have h := he; simp at h; simp [h]
          go_wp2_with fail
          refine wp_region_Z (S := fun X => X.cell? ⟨pb, po + k, none⟩ = some (.int .i64 (p k)) ∧ X.cell? ⟨qb, qo + k, none⟩ = some (.int .i64 (q k))) (by kernel_rfl) ⟨ep, eq⟩ (fun hS => ?_)
          generalize wy.drew = X at *
          refine tk [0, 1, 2, 3, 4, 5, 6, 7, 8] ?_
          repeat (refine tkZ (oi := ⟨_, _, _, _, _, _⟩) (v := ?_) rfl (by kernel_rfl) (by rfl) (fun _ _ _ h => h) hS ?_ ?_; rotate_left; (· rintro W' ⟨z0, z1⟩; go_simp; try with_reducible rfl); try simp only [Act.put, putA, putZ, putS])
          refine tk0 ?_
          refine wpAnyZ_done (by kernel_rfl) ?_ _
          clear hS ep eq
          go_wp2_with fail
          go_roundw
          case rel => exact ⟨k + 1, by go_num, by omega, (fun q' hq => by rcases Nat.lt_succ_iff_lt_or_eq.1 hq with h | rfl; exact HALL.out q' h; exact HX.out), HBD.out⟩
          case measure => simp [intOf]; omega
        · have HR := Lib.hid (HF.out k hlt (by have h := he; simp at h; simp [h]))
          go_wp2_with fail
          refine wp_region_Z (S := fun X => X.cell? ⟨pb, po + k, none⟩ = some (.int .i64 (p k)) ∧ X.cell? ⟨qb, qo + k, none⟩ = some (.int .i64 (q k))) (by kernel_rfl) ⟨ep, eq⟩ (fun hS => ?_)
          generalize wy.drew = X at *
          refine tk [0, 1, 2, 3, 4, 5, 6, 7, 8] ?_
          repeat (refine tkZ (oi := ⟨_, _, _, _, _, _⟩) (v := ?_) rfl (by kernel_rfl) (by rfl) (fun _ _ _ h => h) hS ?_ ?_; rotate_left; (· rintro W' ⟨z0, z1⟩; go_simp; try with_reducible rfl); try simp only [Act.put, putA, putZ, putS])
          refine tk0 ?_
          refine wpAnyZ_done (by kernel_rfl) ?_ _
          clear hS ep eq
          go_wp2_with fail
          go_ret
          exact ⟨ret_bool HR.out.symm, HBD.out⟩
      · have HR := Lib.hid (HT.out (fun l hl => HALL.out l (by omega)))
        obtain rfl : k = n := by omega
        go_wp2_with fail
        go_ret
        exact ⟨ret_bool HR.out.symm, HB.out⟩
  · have hnI : ((n : Int) != (m : Int)) = true := by simp; omega
    have HR : Hid ((decide (n = m) && allB (fun j => p j == q j) n) = false) := by unfold Hid; rw [decide_eq_false hnm]; rfl
    generalize (decide (n = m) && allB (fun j => p j == q j) n) = r at *
    clear HP HQ
    go_enter Tryz.func30, Tryz.ntmps30
    go_wp2_with fail
    go_ret
    exact ⟨ret_bool HR.out.symm, Below.refl _ _⟩
set_option maxHeartbeats 4000000 in
theorem pairs5_any (a b : Option Addr) (n m ca cb : Nat) (p p' q q' : Nat → Int) (w : World) (hp : RsIn w (.slice a n ca) n p p') (hq : RsIn w (.slice b m cb) m q q') (hn : n ≤ 100000) (hm : m ≤ 100000) :
    Calls Tryz.prog 26 #[.slice a n ca, .slice b m cb] w fun e w' => e = .returned (.bool (decide (n = m) && allB (fun j => p j == q j && p' j == q' j) n)) ∧ Below w.heap.size w w' := by
  have HP := Lib.hid hp
  have HQ := Lib.hid hq
  clear hp hq
  by_cases hnm : n = m
  · subst hnm
    have hnI : ((n : Int) != (n : Int)) = false := by simp
    have HF : Hid (∀ k, k < n → (p k == q k && p' k == q' k) = false → (decide (n = n) && allB (fun j => p j == q j && p' j == q' j) n) = false) := fun k hk h => by rw [allB_false (p := fun j => p j == q j && p' j == q' j) hk h, Bool.and_false]
    have HT : Hid ((∀ k, k < n → (p k == q k && p' k == q' k) = true) → (decide (n = n) && allB (fun j => p j == q j && p' j == q' j) n) = true) := fun h => by rw [allB_true (p := fun j => p j == q j && p' j == q' j) h]; simp
    generalize (decide (n = n) && allB (fun j => p j == q j && p' j == q' j) n) = r at *
    go_enter Tryz.func26, Tryz.ntmps26
    go_wp2_with fail
    go_loopw [5] (fun i wr => ∃ k : Nat, i = .int .i64 k ∧ k ≤ n ∧ (∀ l, l < k → (p l == q l && p' l == q' l) = true) ∧ Below w.heap.size w wr) (fun i _ => n - (intOf i).toNat)
    case atStart => exact ⟨0, rfl, Nat.zero_le _, fun q h => absurd h (Nat.not_lt_zero _), Below.refl _ _⟩
    case round =>
      obtain ⟨k, rfl, hk, hall, hbl⟩ := hrel
      have HALL := Lib.hid hall
      have HB := Lib.hid hbl
      rename World => wy
      clear hall hbl
      by_cases hlt : k < n
      · have HBD := Lib.hid (HB.out.drew)
        obtain ⟨pb, po, rfl, hpb, ep, ep'⟩ := (HP.out.below HBD.out).at hlt
        obtain ⟨qb, qo, rfl, hqb, eq, eq'⟩ := (HQ.out.below HBD.out).at hlt
        have ki : (0 : Int) ≤ (k : Int) := by omega
        have kj : (k : Int) < (n : Int) := by omega
        cases he : (p k != q k)
        · cases he' : (p' k != q' k)
          · have HX : Hid ((p k == q k && p' k == q' k) = true) := by unfold Hid; have h := he; have h' := he'; simp at h h'; simp [h, h']
            go_wp2_with fail
            refine wp_region_Z (S := fun X => X.cell? ⟨pb, po + k * 2, none⟩ = some (.int .i64 (p k)) ∧ X.cell? ⟨pb, po + k * 2 + 1, none⟩ = some (.int .i64 (p' k)) ∧ X.cell? ⟨qb, qo + k * 2, none⟩ = some (.int .i64 (q k)) ∧ X.cell? ⟨qb, qo + k * 2 + 1, none⟩ = some (.int .i64 (q' k))) (by kernel_rfl) ⟨ep, ep', eq, eq'⟩ (fun hS => ?_)
            generalize wy.drew = X at *
            refine tk [0, 1, 2, 3, 4, 5, 6, 7, 8, 9, 10, 11, 12, 13, 14, 15, 16, 17, 18, 19, 20, 21, 22, 23] ?_
            repeat (refine tkZ (oi := ⟨_, _, _, _, _, _⟩) (v := ?_) rfl (by kernel_rfl) (by rfl) (fun _ _ _ h => h) hS ?_ ?_; rotate_left; (· rintro W' ⟨z0, z1, z2, z3⟩; go_simp; try with_reducible rfl); try simp only [Act.put, putA, putZ, putS])
            refine tk0 ?_
            refine wpAnyZ_done (by kernel_rfl) ?_ _
            clear hS ep ep' eq eq'
            go_wp2_with fail
            go_roundw
            case rel => exact ⟨k + 1, by go_num, by omega, (fun q' hq => by rcases Nat.lt_succ_iff_lt_or_eq.1 hq with h | rfl; exact HALL.out q' h; exact HX.out), HBD.out⟩
            case measure => simp [intOf]; omega
          · have HR := Lib.hid (HF.out k hlt (by have h := he'; simp at h; simp [h]))
            go_wp2_with fail
            refine wp_region_Z (S := fun X => X.cell? ⟨pb, po + k * 2, none⟩ = some (.int .i64 (p k)) ∧ X.cell? ⟨pb, po + k * 2 + 1, none⟩ = some (.int .i64 (p' k)) ∧ X.cell? ⟨qb, qo + k * 2, none⟩ = some (.int .i64 (q k)) ∧ X.cell? ⟨qb, qo + k * 2 + 1, none⟩ = some (.int .i64 (q' k))) (by kernel_rfl) ⟨ep, ep', eq, eq'⟩ (fun hS => ?_)
            generalize wy.drew = X at *
            refine tk [0, 1, 2, 3, 4, 5, 6, 7, 8, 9, 10, 11, 12, 13, 14, 15, 16, 17, 18, 19, 20, 21, 22, 23] ?_
            repeat (refine tkZ (oi := ⟨_, _, _, _, _, _⟩) (v := ?_) rfl (by kernel_rfl) (by rfl) (fun _ _ _ h => h) hS ?_ ?_; rotate_left; (· rintro W' ⟨z0, z1, z2, z3⟩; go_simp; try with_reducible rfl); try simp only [Act.put, putA, putZ, putS])
            refine tk0 ?_
            refine wpAnyZ_done (by kernel_rfl) ?_ _
            clear hS ep ep' eq eq'
            go_wp2_with fail
            go_ret
            exact ⟨ret_bool HR.out.symm, HBD.out⟩
        · have HR := Lib.hid (HF.out k hlt (by have h := he; simp at h; simp [h]))
          go_wp2_with fail
          refine wp_region_Z (S := fun X => X.cell? ⟨pb, po + k * 2, none⟩ = some (.int .i64 (p k)) ∧ X.cell? ⟨pb, po + k * 2 + 1, none⟩ = some (.int .i64 (p' k)) ∧ X.cell? ⟨qb, qo + k * 2, none⟩ = some (.int .i64 (q k)) ∧ X.cell? ⟨qb, qo + k * 2 + 1, none⟩ = some (.int .i64 (q' k))) (by kernel_rfl) ⟨ep, ep', eq, eq'⟩ (fun hS => ?_)
          generalize wy.drew = X at *
          refine tk [0, 1, 2, 3, 4, 5, 6, 7, 8, 9, 10, 11] ?_
          repeat (refine tkZ (oi := ⟨_, _, _, _, _, _⟩) (v := ?_) rfl (by kernel_rfl) (by rfl) (fun _ _ _ h => h) hS ?_ ?_; rotate_left; (· rintro W' ⟨z0, z1, z2, z3⟩; go_simp; try with_reducible rfl); try simp only [Act.put, putA, putZ, putS])
          refine tk0 ?_
          refine wpAnyZ_take (i := 12) (oi := ⟨_, _, _, _, _, _⟩) (v := undef) rfl (by kernel_rfl) (by kernel_rfl) (by kernel_rfl) (fun _ _ _ h => h) (Or.inr ⟨by rfl, rfl⟩) hS ?_
          try simp only [Act.put, putA, putZ, putS]
          refine wpAnyZ_take (i := 13) (oi := ⟨_, _, _, _, _, _⟩) (v := undef) rfl (by kernel_rfl) (by kernel_rfl) (by kernel_rfl) (fun _ _ _ h => h) (Or.inr ⟨by rfl, rfl⟩) hS ?_
          try simp only [Act.put, putA, putZ, putS]
          refine wpAnyZ_take (i := 14) (oi := ⟨_, _, _, _, _, _⟩) (v := undef) rfl (by kernel_rfl) (by kernel_rfl) (by kernel_rfl) (fun _ _ _ h => h) (Or.inr ⟨by rfl, rfl⟩) hS ?_
          try simp only [Act.put, putA, putZ, putS]
          refine wpAnyZ_take (i := 15) (oi := ⟨_, _, _, _, _, _⟩) (v := undef) rfl (by kernel_rfl) (by kernel_rfl) (by kernel_rfl) (fun _ _ _ h => h) (Or.inr ⟨by rfl, rfl⟩) hS ?_
          try simp only [Act.put, putA, putZ, putS]
          refine wpAnyZ_take (i := 16) (oi := ⟨_, _, _, _, _, _⟩) (v := undef) rfl (by kernel_rfl) (by kernel_rfl) (by kernel_rfl) (fun _ _ _ h => h) (Or.inr ⟨by rfl, rfl⟩) hS ?_
          try simp only [Act.put, putA, putZ, putS]
          refine wpAnyZ_take (i := 17) (oi := ⟨_, _, _, _, _, _⟩) (v := undef) rfl (by kernel_rfl) (by kernel_rfl) (by kernel_rfl) (fun _ _ _ h => h) (Or.inr ⟨by rfl, rfl⟩) hS ?_
          try simp only [Act.put, putA, putZ, putS]
          refine wpAnyZ_take (i := 18) (oi := ⟨_, _, _, _, _, _⟩) (v := undef) rfl (by kernel_rfl) (by kernel_rfl) (by kernel_rfl) (fun _ _ _ h => h) (Or.inr ⟨by rfl, rfl⟩) hS ?_
          try simp only [Act.put, putA, putZ, putS]
          refine wpAnyZ_take (i := 19) (oi := ⟨_, _, _, _, _, _⟩) (v := undef) rfl (by kernel_rfl) (by kernel_rfl) (by kernel_rfl) (fun _ _ _ h => h) (Or.inr ⟨by rfl, rfl⟩) hS ?_
          try simp only [Act.put, putA, putZ, putS]
          refine wpAnyZ_take (i := 20) (oi := ⟨_, _, _, _, _, _⟩) (v := undef) rfl (by kernel_rfl) (by kernel_rfl) (by kernel_rfl) (fun _ _ _ h => h) (Or.inr ⟨by rfl, rfl⟩) hS ?_
          try simp only [Act.put, putA, putZ, putS]
          refine wpAnyZ_take (i := 21) (oi := ⟨_, _, _, _, _, _⟩) (v := undef) rfl (by kernel_rfl) (by kernel_rfl) (by kernel_rfl) (fun _ _ _ h => h) (Or.inr ⟨by rfl, rfl⟩) hS ?_
          try simp only [Act.put, putA, putZ, putS]
          refine wpAnyZ_take (i := 22) (oi := ⟨_, _, _, _, _, _⟩) (v := undef) rfl (by kernel_rfl) (by kernel_rfl) (by kernel_rfl) (fun _ _ _ h => h) (Or.inr ⟨by rfl, rfl⟩) hS ?_
          try simp only [Act.put, putA, putZ, putS]
          refine tk [23] ?_
          repeat (refine tkZ (oi := ⟨_, _, _, _, _, _⟩) (v := ?_) rfl (by kernel_rfl) (by rfl) (fun _ _ _ h => h) hS ?_ ?_; rotate_left; (· rintro W' ⟨z0, z1, z2, z3⟩; go_simp; try with_reducible rfl); try simp only [Act.put, putA, putZ, putS])
          refine tk0 ?_
          refine wpAnyZ_done (by kernel_rfl) ?_ _
          clear hS ep ep' eq eq'
          go_wp2_with fail
          go_ret
          exact ⟨ret_bool HR.out.symm, HBD.out⟩
      · have HR := Lib.hid (HT.out (fun l hl => HALL.out l (by omega)))
        obtain rfl : k = n := by omega
        go_wp2_with fail
        go_ret
        exact ⟨ret_bool HR.out.symm, HB.out⟩
  · have hnI : ((n : Int) != (m : Int)) = true := by simp; omega
    have HR : Hid ((decide (n = m) && allB (fun j => p j == q j && p' j == q' j) n) = false) := by unfold Hid; rw [decide_eq_false hnm]; rfl
    generalize (decide (n = m) && allB (fun j => p j == q j && p' j == q' j) n) = r at *
    clear HP HQ
    go_enter Tryz.func26, Tryz.ntmps26
    go_wp2_with fail
    go_ret
    exact ⟨ret_bool HR.out.symm, Below.refl _ _⟩
end Go.Proofs.YtgbdbikjckfgmaaGreat
namespace Go.Proofs.YtgbdbikjckfgmaaGreat
open Go.RowKit Go.Shelf
section
attribute [local go_sem ↓] Go.wp_at_zero Go.wp_at_succ
set_option maxRecDepth 100000 in
set_option maxHeartbeats 8000000 in
theorem person_own (v : Value) (p : Pers) (w : World) (h : PersIn w v p) (hn : p.nr ≤ 100) (hc : p.nc ≤ 100) :
    Calls Tryz.prog 104 #[v] w fun e w' => ∃ rv cv, e = .returned (.agg #[.int .i64 p.lo, .int .i64 p.hi, rv, cv]) ∧ LL w' rv (rlTo p.R p.nr) ∧ CL w' cv (rcTo p.C p.nc) ∧ Below w.heap.size w w' := by
  obtain ⟨rv, cv, rfl, h1, h2⟩ := h
  obtain ⟨ra, rc, rfl⟩ := h1.slice
  obtain ⟨ca, cc, rfl⟩ := h2.slice
  have HR := Lib.hid h1; have HC := Lib.hid h2; clear h1 h2
  obtain ⟨i0, hi0, hz0, hz1, hz2⟩ := info_parts Tryz.infoRule
  obtain ⟨i1, hi1, hy0, hy1, hy2⟩ := info_parts Tryz.infoRecord
  obtain ⟨_, hb3, q0, q1, q2⟩ := alloc3 w (.cells #[.int .i64 p.lo, .int .i64 p.hi, .slice ra p.nr rc, .slice ca p.nc cc] 75) (.cells #[.int .i64 0, .int .i64 0, .slice none 0 0, .slice none 0 0] 98) (.cells #[.int .i64 p.lo, .int .i64 p.hi, .slice none 0 0, .slice none 0 0] 98)
  have HPI : Hid (PI w p (.slice ra p.nr rc) (.slice ca p.nc cc) (.slice none 0 0) (.slice none 0 0) (((w.alloc (.cells #[.int .i64 p.lo, .int .i64 p.hi, .slice ra p.nr rc, .slice ca p.nc cc] 75)).alloc (.cells #[.int .i64 0, .int .i64 0, .slice none 0 0, .slice none 0 0] 98)).alloc (.cells #[.int .i64 p.lo, .int .i64 p.hi, .slice none 0 0, .slice none 0 0] 98))) := ⟨q0, q1, q2, hb3⟩
  clear q0 q1 q2 hb3
  go_enter Tryz.func104, Tryz.ntmps104
  go_wp2
  go_loopw [4] (fun i wr => ∃ k : Nat, k ≤ p.nr ∧ i = .int .i64 k ∧ ∃ av, PI w p (.slice ra p.nr rc) (.slice ca p.nc cc) av (.slice none 0 0) wr ∧ LL wr av (rlTo p.R k) ∧ ∀ q, av.ownBlock = some q → w.heap.size ≤ q) (fun i _ => p.nr - (intOf i).toNat)
  case atStart => exact ⟨0, Nat.zero_le _, rfl, _, HPI.out, World.ownsRow_nil _ _ _ _, fun q hq => by cases hq⟩
  case round =>
    clear HPI
    obtain ⟨k, hk, rfl, av, hpi, hll, hlow⟩ := hrel
    obtain ⟨aa, ac, rfl⟩ := hll.at.slice
    rw [rlTo_length] at hpi hll hlow
    have HP := Lib.hid hpi; have HL := Lib.hid hll; have HLOW := Lib.hid hlow
    have d2 : wr.cell? ⟨w.heap.size, 2, none⟩ = some (.slice ra p.nr rc) := cell_of_row _ _ 2 _ _ _ hpi.1
    have d3 : wr.cell? ⟨w.heap.size, 3, none⟩ = some (.slice ca p.nc cc) := cell_of_row _ _ 3 _ _ _ hpi.1
    have hbw := hpi.2.2.2
    clear hpi hll hlow
    by_cases hlt : k < p.nr
    · obtain ⟨b, off, rfl, hbs, x0, x1, x2, x3⟩ := HR.out.at hbw hlt
      have HRS : Hid (rlTo p.R (k + 1) = rlTo p.R k ++ [p.R k]) := rlTo_succ _ _
      have hll : (rlTo p.R k).length = k := rlTo_length _ _
      have HLLEN := Lib.hid hll; clear hll
      generalize rlTo p.R k = l at *
      generalize p.R k = r at *
      have ki : (0 : Int) ≤ (k : Int) := by omega
      have kj : (k : Int) < (p.nr : Int) := by omega
      have hs2 := (Array.getElem?_eq_some_iff.1 HP.out.2.2.1).1
      have HSB : Hid (∀ X : World, Below wr.heap.size wr X → X.cell? ⟨w.heap.size, 2, none⟩ = some (.slice (some ⟨b, off, none⟩) p.nr rc) ∧ X.cell? ⟨b, off + k * 4, none⟩ = some (.int .i64 r.f) ∧ X.cell? ⟨b, off + k * 4 + 1, none⟩ = some (.int .i64 r.b) ∧ X.cell? ⟨b, off + k * 4 + 2, none⟩ = some (.int .i64 r.m) ∧ X.cell? ⟨b, off + k * 4 + 3, none⟩ = some (.int .i64 r.e)) := fun X hX => ⟨kept hX (by omega) d2, kept hX (by omega) x0, kept hX (by omega) x1, kept hX (by omega) x2, kept hX (by omega) x3⟩
      have HSF : Hid (∀ (X X' : World), (X.cell? ⟨w.heap.size, 2, none⟩ = some (.slice (some ⟨b, off, none⟩) p.nr rc) ∧ X.cell? ⟨b, off + k * 4, none⟩ = some (.int .i64 r.f) ∧ X.cell? ⟨b, off + k * 4 + 1, none⟩ = some (.int .i64 r.b) ∧ X.cell? ⟨b, off + k * 4 + 2, none⟩ = some (.int .i64 r.m) ∧ X.cell? ⟨b, off + k * 4 + 3, none⟩ = some (.int .i64 r.e)) → Fr (fun q => (Value.slice aa k ac).ownBlock = some q) X X' → X.heap[w.heap.size]? = some (.cells #[.int .i64 p.lo, .int .i64 p.hi, .slice (some ⟨b, off, none⟩) p.nr rc, .slice ca p.nc cc] 75 (0, 0)) → LL X (.slice aa k ac) l → w.heap.size ≤ X.heap.size → (X'.cell? ⟨w.heap.size, 2, none⟩ = some (.slice (some ⟨b, off, none⟩) p.nr rc) ∧ X'.cell? ⟨b, off + k * 4, none⟩ = some (.int .i64 r.f) ∧ X'.cell? ⟨b, off + k * 4 + 1, none⟩ = some (.int .i64 r.b) ∧ X'.cell? ⟨b, off + k * 4 + 2, none⟩ = some (.int .i64 r.m) ∧ X'.cell? ⟨b, off + k * 4 + 3, none⟩ = some (.int .i64 r.e))) := fun X X' hS hf hblk hL hsz => by
        obtain ⟨s0, s1, s2, s3, s4⟩ := hS
        have g1 : X'.heap[w.heap.size]? = X.heap[w.heap.size]? := hf.block _ (Array.getElem?_eq_some_iff.1 hblk).1 (fun e => absurd (hL.ex _ _ _ e hblk) (by decide))
        have g2 : X'.heap[b]? = X.heap[b]? := hf.block _ (by omega) (fun e => by have := HLOW.out b e; omega)
        exact ⟨(World.cell?_of_block (a := ⟨w.heap.size, 2, none⟩) g1).trans s0, (World.cell?_of_block (a := ⟨b, _, none⟩) g2).trans s1, (World.cell?_of_block (a := ⟨b, _, none⟩) g2).trans s2, (World.cell?_of_block (a := ⟨b, _, none⟩) g2).trans s3, (World.cell?_of_block (a := ⟨b, _, none⟩) g2).trans s4⟩
      go_wp2
      have HPd := Lib.hid (HP.out.below ((Below.refl _ _).drew)); have HLd : Hid (LL wr.drew (.slice aa k ac) l) := own_fr HL.out (Fr.below ((Below.refl _ _).drew) (fun _ => False)) (fun _ _ _ _ _ e => e)
      refine wp_region_held_drew (S := fun X => X.cell? ⟨w.heap.size, 2, none⟩ = some (.slice (some ⟨b, off, none⟩) p.nr rc) ∧ X.cell? ⟨b, off + k * 4, none⟩ = some (.int .i64 r.f) ∧ X.cell? ⟨b, off + k * 4 + 1, none⟩ = some (.int .i64 r.b) ∧ X.cell? ⟨b, off + k * 4 + 2, none⟩ = some (.int .i64 r.m) ∧ X.cell? ⟨b, off + k * 4 + 3, none⟩ = some (.int .i64 r.e)) (by kernel_rfl) (HSB.out _ ((Below.refl _ _).drew)) (fun hS => ?_)
      clear HP HL HSB d2 d3 x0 x1 x2 x3
      have hbw' : w.heap.size ≤ wr.drew.heap.size := hbw.size
      generalize wr.drew = X at *
      refine wpAnyH_take (i := 0) (oi := ⟨some 22, .fieldAddr 98 (.tmp 3) 1, _, _, _, _⟩) (v := .pointer (some ⟨w.heap.size + 1 + 1, 2, none⟩)) rfl (by kernel_rfl) (by kernel_rfl) (by kernel_rfl) (fun _ _ _ h => h) (Or.inl ⟨by rfl, ?_⟩) hS ?_
      · intro W' hSw; (try dsimp only at hSw); obtain ⟨s0, s1, s2, s3, s4⟩ := hSw; go_simp
      try simp only [Act.put, List.setIfInBounds_toArray, List.set_cons_zero, List.set_cons_succ]
      refine wpAnyH_take (i := 2) (oi := ⟨some 24, .fieldAddr 75 (.tmp 1) 1, _, _, _, _⟩) (v := .pointer (some ⟨w.heap.size, 2, none⟩)) rfl (by kernel_rfl) (by kernel_rfl) (by kernel_rfl) (fun _ _ _ h => h) (Or.inl ⟨by rfl, ?_⟩) hS ?_
      · intro W' hSw; (try dsimp only at hSw); obtain ⟨s0, s1, s2, s3, s4⟩ := hSw; go_simp
      try simp only [Act.put, List.setIfInBounds_toArray, List.set_cons_zero, List.set_cons_succ]
      refine wpAnyH_take (i := 3) (oi := ⟨some 25, .load 72 (.tmp 24), _, _, _, _⟩) (v := .slice (some ⟨b, off, none⟩) p.nr rc) rfl (by kernel_rfl) (by kernel_rfl) (by kernel_rfl) (fun _ _ _ h => h) (Or.inl ⟨by rfl, ?_⟩) hS ?_
      · intro W' hSw; (try dsimp only at hSw); obtain ⟨s0, s1, s2, s3, s4⟩ := hSw; go_simp
      try simp only [Act.put, List.setIfInBounds_toArray, List.set_cons_zero, List.set_cons_succ]
      refine wpAnyH_take (i := 4) (oi := ⟨some 26, .move (.tmp 4), _, _, _, _⟩) (v := .int .i64 k) rfl (by kernel_rfl) (by kernel_rfl) (by kernel_rfl) (fun _ _ _ h => h) (Or.inl ⟨by rfl, ?_⟩) hS ?_
      · intro W' hSw; (try dsimp only at hSw); obtain ⟨s0, s1, s2, s3, s4⟩ := hSw; go_simp
      try simp only [Act.put, List.setIfInBounds_toArray, List.set_cons_zero, List.set_cons_succ]
      refine wpAnyH_take (i := 5) (oi := ⟨some 27, .indexAddr 72 (.tmp 25) (.tmp 26), _, _, _, _⟩) (v := .pointer (some ⟨b, off + k * 4, none⟩)) rfl (by kernel_rfl) (by kernel_rfl) (by kernel_rfl) (fun _ _ _ h => h) (Or.inl ⟨by rfl, ?_⟩) hS ?_
      · intro W' hSw; (try dsimp only at hSw); obtain ⟨s0, s1, s2, s3, s4⟩ := hSw; go_simp
      try simp only [Act.put, List.setIfInBounds_toArray, List.set_cons_zero, List.set_cons_succ]
      refine wpAnyH_take (i := 6) (oi := ⟨some 28, .load 142 (.tmp 27), _, _, _, _⟩) (v := .agg #[.int .i64 r.f, .int .i64 r.b, .int .i64 r.m, .int .i64 r.e]) rfl (by kernel_rfl) (by kernel_rfl) (by kernel_rfl) (fun _ _ _ h => h) (Or.inl ⟨by rfl, ?_⟩) hS ?_
      · intro W' hSw; (try dsimp only at hSw); obtain ⟨s0, s1, s2, s3, s4⟩ := hSw; go_simp
      try simp only [Act.put, List.setIfInBounds_toArray, List.set_cons_zero, List.set_cons_succ]
      refine wpAnyH_ready (rs := [1, 7]) (by kernel_rfl) (by simp) ?_
      refine AllReadyH.cons (o := ⟨some 23, .load 95 (.tmp 22), _, _, _, _⟩) rfl (fun K hK => ?_) ?_
      ·
        have e4 : X.cell? ⟨w.heap.size + 1 + 1, 2, none⟩ = some (.slice aa k ac) := cell_of_row _ _ 2 _ _ _ HPd.out.2.2.1
        go_simp
        clear e4
        refine hK.out _ _ hS (fun hS => ?_)
        clear hK K
        try simp only [Act.put, List.setIfInBounds_toArray, List.set_cons_zero, List.set_cons_succ]
        refine wpAnyH_ready (rs := [7]) (by kernel_rfl) (by simp) ?_
        refine AllReadyH.cons (o := ⟨some 29, .call ⟨.value (.func 129), #[.tmp 28], #[142]⟩, _, _, _, _⟩) rfl (fun K hK => ?_) ?_
        ·
          go_simp
          refine (rule_any _ _ _ _ _).mono ?_
          rintro _ X1 ⟨rfl, hx1⟩
          (try go_wp2_with fail)
          refine hK.out _ _ ?_ (fun hS => ?_)
          · exact ⟨(World.cell?_of_block (a := ⟨w.heap.size, 2, none⟩) (hx1.block _ (World.block_lt_of_cell? _ _ hS.1))).trans hS.1, (World.cell?_of_block (a := ⟨b, _, none⟩) (hx1.block _ (World.block_lt_of_cell? _ _ hS.2.1))).trans hS.2.1, (World.cell?_of_block (a := ⟨b, _, none⟩) (hx1.block _ (World.block_lt_of_cell? _ _ hS.2.2.1))).trans hS.2.2.1, (World.cell?_of_block (a := ⟨b, _, none⟩) (hx1.block _ (World.block_lt_of_cell? _ _ hS.2.2.2.1))).trans hS.2.2.2.1, (World.cell?_of_block (a := ⟨b, _, none⟩) (hx1.block _ (World.block_lt_of_cell? _ _ hS.2.2.2.2))).trans hS.2.2.2.2⟩
          clear hK K
          try simp only [Act.put, List.setIfInBounds_toArray, List.set_cons_zero, List.set_cons_succ]
          have HP1 := Lib.hid (HPd.out.below hx1); have HL1 : Hid (LL X1 (.slice aa k ac) l) := own_fr HLd.out (Fr.below hx1 (fun _ => False)) (fun _ _ _ _ _ e => e)
          clear hx1
          refine wpAnyH_ready (rs := [8]) (by kernel_rfl) (by simp) ?_
          refine AllReadyH.cons (o := ⟨some 30, .buildSlice 95 1 #[(0, .tmp 29)], _, _, _, _⟩) rfl (fun K hK => ?_) ?_
          ·
            go_simp
            refine hK.out _ _ ?_ (fun hS => ?_)
            · exact ⟨kept (below_alloc _ _) (World.block_lt_of_cell? _ _ hS.1) hS.1, kept (below_alloc _ _) (World.block_lt_of_cell? _ _ hS.2.1) hS.2.1, kept (below_alloc _ _) (World.block_lt_of_cell? _ _ hS.2.2.1) hS.2.2.1, kept (below_alloc _ _) (World.block_lt_of_cell? _ _ hS.2.2.2.1) hS.2.2.2.1, kept (below_alloc _ _) (World.block_lt_of_cell? _ _ hS.2.2.2.2) hS.2.2.2.2⟩
            clear hK K
            try simp only [Act.put, List.setIfInBounds_toArray, List.set_cons_zero, List.set_cons_succ]
            have HP2 := Lib.hid (HP1.out.below (below_alloc X1 (.cells #[.int .i64 r.f, .int .i64 r.b, .int .i64 r.m, .int .i64 r.e] 156))); have HL2 : Hid (LL (X1.alloc (.cells #[.int .i64 r.f, .int .i64 r.b, .int .i64 r.m, .int .i64 r.e] 156)) (.slice aa k ac) l) := own_fr HL1.out (Fr.below (below_alloc X1 (.cells #[.int .i64 r.f, .int .i64 r.b, .int .i64 r.m, .int .i64 r.e] 156)) (fun _ => False)) (fun _ _ _ _ _ e => e)
            have HB : Hid ((X1.alloc (.cells #[.int .i64 r.f, .int .i64 r.b, .int .i64 r.m, .int .i64 r.e] 156)).heap[X1.heap.size]? = some (.cells #[.int .i64 r.f, .int .i64 r.b, .int .i64 r.m, .int .i64 r.e] 156 (0, 0))) := heap_alloc_new X1 _
            generalize X1.heap.size = B30 at *
            generalize X1.alloc (.cells #[.int .i64 r.f, .int .i64 r.b, .int .i64 r.m, .int .i64 r.e] 156) = X2 at *
            refine wpAnyH_ready (rs := [9]) (by kernel_rfl) (by simp) ?_
            refine AllReadyH.cons (o := ⟨some 31, .call ⟨.builtin .append, #[.tmp 23, .tmp 30], #[95, 95]⟩, _, _, _, _⟩) rfl (fun K hK => ?_) ?_
            ·
              have HLk : Hid (X2.ownsRow 0 156 4 (.slice aa k ac) k (flatL l)) := (by have := HL2.out; unfold LL at this; rw [HLLEN.out] at this; exact this)
              refine step_append_lies _ (by rfl) (.tmp 23) (.tmp 30) 95 (by rfl) 0 156 i0 (.agg #[.int .i64 0, .int .i64 0, .int .i64 0, .int .i64 0]) 4 32 Tryz.underlying95 hi0 hz0 hz1 hz2 rfl (by omega) (.slice aa k ac) k (flatL l) (by rfl) HLk.out ⟨B30, 0, none⟩ 1 1 [.int .i64 r.f, .int .i64 r.b, .int .i64 r.m, .int .i64 r.e] (by rfl) (by rfl) (World.news_of_block HB.out) (by simp [Value.oneCell']) (by omega) (by unfold maxLen; omega) (by omega) (Nat.zero_le _) _ rfl ?_
              intro g cap' X3 hown hgrow hat hlt1
              have HS3 := Lib.hid (HSF.out X2 X3 hS (Fr.grown hgrow) HP2.out.1 HL2.out HP2.out.2.2.2.size)
              have HP3 := Lib.hid (HP2.out.fr (Fr.grown hgrow) (fun q c t e hc => .inl (HL2.out.ex q c t e hc)) (fun q e => HLOW.out q e))
              have HLn : Hid (LL X3 (.slice (some ⟨g, 0, none⟩) (k + 1) cap') (l ++ [r])) := (by unfold Hid LL; rw [flatL_snoc, show (l ++ [r]).length = k + 1 from by simp [HLLEN.out]]; exact hown)
              have HLW : Hid (∀ q, (Value.slice (some ⟨g, 0, none⟩) (k + 1) cap').ownBlock = some q → w.heap.size ≤ q) := (fun q hq => by have e : g = q := Option.some.inj hq; subst e; rcases hat with e | e; exact HLOW.out _ e; (have := HP2.out.2.2.2.size; omega))
              clear hown hgrow hat hlt1
              refine hK.out _ _ HS3.out (fun hS => ?_)
              clear hK K
              try simp only [Act.put, List.setIfInBounds_toArray, List.set_cons_zero, List.set_cons_succ]
              refine wpAnyH_take (i := 10) (oi := ⟨some 32, .fieldAddr 98 (.tmp 3) 1, _, _, _, _⟩) (v := .pointer (some ⟨w.heap.size + 1 + 1, 2, none⟩)) rfl (by kernel_rfl) (by kernel_rfl) (by kernel_rfl) (fun _ _ _ h => h) (Or.inl ⟨by rfl, ?_⟩) hS ?_
              · intro W' hSw; (try dsimp only at hSw); obtain ⟨s0, s1, s2, s3, s4⟩ := hSw; go_simp
              try simp only [Act.put, List.setIfInBounds_toArray, List.set_cons_zero, List.set_cons_succ]
              refine wpAnyH_ready (rs := [11]) (by kernel_rfl) (by simp) ?_
              refine AllReadyH.cons (o := ⟨none, .store 95 (.tmp 32) (.tmp 31), _, _, _, _⟩) rfl (fun K hK => ?_) ?_
              ·
                have e4 : X3.cell? ⟨w.heap.size + 1 + 1, 2, none⟩ = some (.slice aa k ac) := cell_of_row _ _ 2 _ _ _ HP3.out.2.2.1
                have e5 : X3.frozen? ⟨w.heap.size + 1 + 1, 2, none⟩ = false := frozen_of_row _ _ 2 _ _ HP3.out.2.2.1
                go_simp
                have HPF : Hid (PI w p (.slice (some ⟨b, off, none⟩) p.nr rc) (.slice ca p.nc cc) (.slice (some ⟨g, 0, none⟩) (k + 1) cap') (.slice none 0 0) (X3.setCell ⟨w.heap.size + 1 + 1, 2, none⟩ (.slice (some ⟨g, 0, none⟩) (k + 1) cap'))) := HP3.out.set 2 _ _ rfl
                have HLF : Hid (LL (X3.setCell ⟨w.heap.size + 1 + 1, 2, none⟩ (.slice (some ⟨g, 0, none⟩) (k + 1) cap')) (.slice (some ⟨g, 0, none⟩) (k + 1) cap') (l ++ [r])) := own_fr HLn.out (Fr.set X3 (w.heap.size + 1 + 1) 2 _) (fun g2 cur _ _ hg e => (by subst e; rw [show w.heap.size + 1 + 1 = w.heap.size + 2 from rfl, HP3.out.2.2.1] at hg; injection hg with e; injection e with _ e2; exact absurd e2 (by decide)))
                refine hK.out _ _ ?_ (fun hS => ?_)
                · obtain ⟨s0, s1, s2, s3, s4⟩ := hS
                  refine ⟨?_, ?_, ?_, ?_, ?_⟩
                  · rw [World.cell?_setCell_far _ _ _ _ (by show w.heap.size + 1 + 1 ≠ w.heap.size; omega)]; exact s0
                  · rw [World.cell?_setCell_far _ _ _ _ (by show w.heap.size + 1 + 1 ≠ b; omega)]; exact s1
                  · rw [World.cell?_setCell_far _ _ _ _ (by show w.heap.size + 1 + 1 ≠ b; omega)]; exact s2
                  · rw [World.cell?_setCell_far _ _ _ _ (by show w.heap.size + 1 + 1 ≠ b; omega)]; exact s3
                  · rw [World.cell?_setCell_far _ _ _ _ (by show w.heap.size + 1 + 1 ≠ b; omega)]; exact s4
                clear hK K e4 e5
                try simp only [Act.put, List.setIfInBounds_toArray, List.set_cons_zero, List.set_cons_succ]
                refine wpAnyH_done (by kernel_rfl) ?_ _
                go_wp2
                go_roundw
                case rel => exact ⟨k + 1, by omega, by go_num, _, HPF.out, by rw [HRS.out]; exact HLF.out, HLW.out⟩
                case measure => simp [intOf]; omega
              exact AllReadyH.nil
            exact AllReadyH.nil
          exact AllReadyH.nil
        exact AllReadyH.nil
      refine AllReadyH.cons (o := ⟨some 29, .call ⟨.value (.func 129), #[.tmp 28], #[142]⟩, _, _, _, _⟩) rfl (fun K hK => ?_) ?_
      ·
        go_simp
        refine (rule_any _ _ _ _ _).mono ?_
        rintro _ X5 ⟨rfl, hx5⟩
        (try go_wp2_with fail)
        refine hK.out _ _ ?_ (fun hS => ?_)
        · exact ⟨(World.cell?_of_block (a := ⟨w.heap.size, 2, none⟩) (hx5.block _ (World.block_lt_of_cell? _ _ hS.1))).trans hS.1, (World.cell?_of_block (a := ⟨b, _, none⟩) (hx5.block _ (World.block_lt_of_cell? _ _ hS.2.1))).trans hS.2.1, (World.cell?_of_block (a := ⟨b, _, none⟩) (hx5.block _ (World.block_lt_of_cell? _ _ hS.2.2.1))).trans hS.2.2.1, (World.cell?_of_block (a := ⟨b, _, none⟩) (hx5.block _ (World.block_lt_of_cell? _ _ hS.2.2.2.1))).trans hS.2.2.2.1, (World.cell?_of_block (a := ⟨b, _, none⟩) (hx5.block _ (World.block_lt_of_cell? _ _ hS.2.2.2.2))).trans hS.2.2.2.2⟩
        clear hK K
        try simp only [Act.put, List.setIfInBounds_toArray, List.set_cons_zero, List.set_cons_succ]
        have HP5 := Lib.hid (HPd.out.below hx5); have HL5 : Hid (LL X5 (.slice aa k ac) l) := own_fr HLd.out (Fr.below hx5 (fun _ => False)) (fun _ _ _ _ _ e => e)
        clear hx5
        refine wpAnyH_ready (rs := [1, 8]) (by kernel_rfl) (by simp) ?_
        refine AllReadyH.cons (o := ⟨some 23, .load 95 (.tmp 22), _, _, _, _⟩) rfl (fun K hK => ?_) ?_
        ·
          have e4 : X5.cell? ⟨w.heap.size + 1 + 1, 2, none⟩ = some (.slice aa k ac) := cell_of_row _ _ 2 _ _ _ HP5.out.2.2.1
          go_simp
          clear e4
          refine hK.out _ _ hS (fun hS => ?_)
          clear hK K
          try simp only [Act.put, List.setIfInBounds_toArray, List.set_cons_zero, List.set_cons_succ]
          refine wpAnyH_ready (rs := [8]) (by kernel_rfl) (by simp) ?_
          refine AllReadyH.cons (o := ⟨some 30, .buildSlice 95 1 #[(0, .tmp 29)], _, _, _, _⟩) rfl (fun K hK => ?_) ?_
          ·
            go_simp
            refine hK.out _ _ ?_ (fun hS => ?_)
            · exact ⟨kept (below_alloc _ _) (World.block_lt_of_cell? _ _ hS.1) hS.1, kept (below_alloc _ _) (World.block_lt_of_cell? _ _ hS.2.1) hS.2.1, kept (below_alloc _ _) (World.block_lt_of_cell? _ _ hS.2.2.1) hS.2.2.1, kept (below_alloc _ _) (World.block_lt_of_cell? _ _ hS.2.2.2.1) hS.2.2.2.1, kept (below_alloc _ _) (World.block_lt_of_cell? _ _ hS.2.2.2.2) hS.2.2.2.2⟩
            clear hK K
            try simp only [Act.put, List.setIfInBounds_toArray, List.set_cons_zero, List.set_cons_succ]
            have HP7 := Lib.hid (HP5.out.below (below_alloc X5 (.cells #[.int .i64 r.f, .int .i64 r.b, .int .i64 r.m, .int .i64 r.e] 156))); have HL7 : Hid (LL (X5.alloc (.cells #[.int .i64 r.f, .int .i64 r.b, .int .i64 r.m, .int .i64 r.e] 156)) (.slice aa k ac) l) := own_fr HL5.out (Fr.below (below_alloc X5 (.cells #[.int .i64 r.f, .int .i64 r.b, .int .i64 r.m, .int .i64 r.e] 156)) (fun _ => False)) (fun _ _ _ _ _ e => e)
            have HB : Hid ((X5.alloc (.cells #[.int .i64 r.f, .int .i64 r.b, .int .i64 r.m, .int .i64 r.e] 156)).heap[X5.heap.size]? = some (.cells #[.int .i64 r.f, .int .i64 r.b, .int .i64 r.m, .int .i64 r.e] 156 (0, 0))) := heap_alloc_new X5 _
            generalize X5.heap.size = B30 at *
            generalize X5.alloc (.cells #[.int .i64 r.f, .int .i64 r.b, .int .i64 r.m, .int .i64 r.e] 156) = X7 at *
            refine wpAnyH_ready (rs := [9]) (by kernel_rfl) (by simp) ?_
            refine AllReadyH.cons (o := ⟨some 31, .call ⟨.builtin .append, #[.tmp 23, .tmp 30], #[95, 95]⟩, _, _, _, _⟩) rfl (fun K hK => ?_) ?_
            ·
              have HLk : Hid (X7.ownsRow 0 156 4 (.slice aa k ac) k (flatL l)) := (by have := HL7.out; unfold LL at this; rw [HLLEN.out] at this; exact this)
              refine step_append_lies _ (by rfl) (.tmp 23) (.tmp 30) 95 (by rfl) 0 156 i0 (.agg #[.int .i64 0, .int .i64 0, .int .i64 0, .int .i64 0]) 4 32 Tryz.underlying95 hi0 hz0 hz1 hz2 rfl (by omega) (.slice aa k ac) k (flatL l) (by rfl) HLk.out ⟨B30, 0, none⟩ 1 1 [.int .i64 r.f, .int .i64 r.b, .int .i64 r.m, .int .i64 r.e] (by rfl) (by rfl) (World.news_of_block HB.out) (by simp [Value.oneCell']) (by omega) (by unfold maxLen; omega) (by omega) (Nat.zero_le _) _ rfl ?_
              intro g cap' X8 hown hgrow hat hlt1
              have HS8 := Lib.hid (HSF.out X7 X8 hS (Fr.grown hgrow) HP7.out.1 HL7.out HP7.out.2.2.2.size)
              have HP8 := Lib.hid (HP7.out.fr (Fr.grown hgrow) (fun q c t e hc => .inl (HL7.out.ex q c t e hc)) (fun q e => HLOW.out q e))
              have HLn : Hid (LL X8 (.slice (some ⟨g, 0, none⟩) (k + 1) cap') (l ++ [r])) := (by unfold Hid LL; rw [flatL_snoc, show (l ++ [r]).length = k + 1 from by simp [HLLEN.out]]; exact hown)
              have HLW : Hid (∀ q, (Value.slice (some ⟨g, 0, none⟩) (k + 1) cap').ownBlock = some q → w.heap.size ≤ q) := (fun q hq => by have e : g = q := Option.some.inj hq; subst e; rcases hat with e | e; exact HLOW.out _ e; (have := HP7.out.2.2.2.size; omega))
              clear hown hgrow hat hlt1
              refine hK.out _ _ HS8.out (fun hS => ?_)
              clear hK K
              try simp only [Act.put, List.setIfInBounds_toArray, List.set_cons_zero, List.set_cons_succ]
              refine wpAnyH_take (i := 10) (oi := ⟨some 32, .fieldAddr 98 (.tmp 3) 1, _, _, _, _⟩) (v := .pointer (some ⟨w.heap.size + 1 + 1, 2, none⟩)) rfl (by kernel_rfl) (by kernel_rfl) (by kernel_rfl) (fun _ _ _ h => h) (Or.inl ⟨by rfl, ?_⟩) hS ?_
              · intro W' hSw; (try dsimp only at hSw); obtain ⟨s0, s1, s2, s3, s4⟩ := hSw; go_simp
              try simp only [Act.put, List.setIfInBounds_toArray, List.set_cons_zero, List.set_cons_succ]
              refine wpAnyH_ready (rs := [11]) (by kernel_rfl) (by simp) ?_
              refine AllReadyH.cons (o := ⟨none, .store 95 (.tmp 32) (.tmp 31), _, _, _, _⟩) rfl (fun K hK => ?_) ?_
              ·
                have e4 : X8.cell? ⟨w.heap.size + 1 + 1, 2, none⟩ = some (.slice aa k ac) := cell_of_row _ _ 2 _ _ _ HP8.out.2.2.1
                have e5 : X8.frozen? ⟨w.heap.size + 1 + 1, 2, none⟩ = false := frozen_of_row _ _ 2 _ _ HP8.out.2.2.1
                go_simp
                have HPF : Hid (PI w p (.slice (some ⟨b, off, none⟩) p.nr rc) (.slice ca p.nc cc) (.slice (some ⟨g, 0, none⟩) (k + 1) cap') (.slice none 0 0) (X8.setCell ⟨w.heap.size + 1 + 1, 2, none⟩ (.slice (some ⟨g, 0, none⟩) (k + 1) cap'))) := HP8.out.set 2 _ _ rfl
                have HLF : Hid (LL (X8.setCell ⟨w.heap.size + 1 + 1, 2, none⟩ (.slice (some ⟨g, 0, none⟩) (k + 1) cap')) (.slice (some ⟨g, 0, none⟩) (k + 1) cap') (l ++ [r])) := own_fr HLn.out (Fr.set X8 (w.heap.size + 1 + 1) 2 _) (fun g2 cur _ _ hg e => (by subst e; rw [show w.heap.size + 1 + 1 = w.heap.size + 2 from rfl, HP8.out.2.2.1] at hg; injection hg with e; injection e with _ e2; exact absurd e2 (by decide)))
                refine hK.out _ _ ?_ (fun hS => ?_)
                · obtain ⟨s0, s1, s2, s3, s4⟩ := hS
                  refine ⟨?_, ?_, ?_, ?_, ?_⟩
                  · rw [World.cell?_setCell_far _ _ _ _ (by show w.heap.size + 1 + 1 ≠ w.heap.size; omega)]; exact s0
                  · rw [World.cell?_setCell_far _ _ _ _ (by show w.heap.size + 1 + 1 ≠ b; omega)]; exact s1
                  · rw [World.cell?_setCell_far _ _ _ _ (by show w.heap.size + 1 + 1 ≠ b; omega)]; exact s2
                  · rw [World.cell?_setCell_far _ _ _ _ (by show w.heap.size + 1 + 1 ≠ b; omega)]; exact s3
                  · rw [World.cell?_setCell_far _ _ _ _ (by show w.heap.size + 1 + 1 ≠ b; omega)]; exact s4
                clear hK K e4 e5
                try simp only [Act.put, List.setIfInBounds_toArray, List.set_cons_zero, List.set_cons_succ]
                refine wpAnyH_done (by kernel_rfl) ?_ _
                go_wp2
                go_roundw
                case rel => exact ⟨k + 1, by omega, by go_num, _, HPF.out, by rw [HRS.out]; exact HLF.out, HLW.out⟩
                case measure => simp [intOf]; omega
              exact AllReadyH.nil
            exact AllReadyH.nil
          exact AllReadyH.nil
        refine AllReadyH.cons (o := ⟨some 30, .buildSlice 95 1 #[(0, .tmp 29)], _, _, _, _⟩) rfl (fun K hK => ?_) ?_
        ·
          go_simp
          refine hK.out _ _ ?_ (fun hS => ?_)
          · exact ⟨kept (below_alloc _ _) (World.block_lt_of_cell? _ _ hS.1) hS.1, kept (below_alloc _ _) (World.block_lt_of_cell? _ _ hS.2.1) hS.2.1, kept (below_alloc _ _) (World.block_lt_of_cell? _ _ hS.2.2.1) hS.2.2.1, kept (below_alloc _ _) (World.block_lt_of_cell? _ _ hS.2.2.2.1) hS.2.2.2.1, kept (below_alloc _ _) (World.block_lt_of_cell? _ _ hS.2.2.2.2) hS.2.2.2.2⟩
          clear hK K
          try simp only [Act.put, List.setIfInBounds_toArray, List.set_cons_zero, List.set_cons_succ]
          have HP10 := Lib.hid (HP5.out.below (below_alloc X5 (.cells #[.int .i64 r.f, .int .i64 r.b, .int .i64 r.m, .int .i64 r.e] 156))); have HL10 : Hid (LL (X5.alloc (.cells #[.int .i64 r.f, .int .i64 r.b, .int .i64 r.m, .int .i64 r.e] 156)) (.slice aa k ac) l) := own_fr HL5.out (Fr.below (below_alloc X5 (.cells #[.int .i64 r.f, .int .i64 r.b, .int .i64 r.m, .int .i64 r.e] 156)) (fun _ => False)) (fun _ _ _ _ _ e => e)
          have HB : Hid ((X5.alloc (.cells #[.int .i64 r.f, .int .i64 r.b, .int .i64 r.m, .int .i64 r.e] 156)).heap[X5.heap.size]? = some (.cells #[.int .i64 r.f, .int .i64 r.b, .int .i64 r.m, .int .i64 r.e] 156 (0, 0))) := heap_alloc_new X5 _
          generalize X5.heap.size = B30 at *
          generalize X5.alloc (.cells #[.int .i64 r.f, .int .i64 r.b, .int .i64 r.m, .int .i64 r.e] 156) = X10 at *
          refine wpAnyH_ready (rs := [1]) (by kernel_rfl) (by simp) ?_
          refine AllReadyH.cons (o := ⟨some 23, .load 95 (.tmp 22), _, _, _, _⟩) rfl (fun K hK => ?_) ?_
          ·
            have e4 : X10.cell? ⟨w.heap.size + 1 + 1, 2, none⟩ = some (.slice aa k ac) := cell_of_row _ _ 2 _ _ _ HP10.out.2.2.1
            go_simp
            clear e4
            refine hK.out _ _ hS (fun hS => ?_)
            clear hK K
            try simp only [Act.put, List.setIfInBounds_toArray, List.set_cons_zero, List.set_cons_succ]
            refine wpAnyH_ready (rs := [9]) (by kernel_rfl) (by simp) ?_
            refine AllReadyH.cons (o := ⟨some 31, .call ⟨.builtin .append, #[.tmp 23, .tmp 30], #[95, 95]⟩, _, _, _, _⟩) rfl (fun K hK => ?_) ?_
            ·
              have HLk : Hid (X10.ownsRow 0 156 4 (.slice aa k ac) k (flatL l)) := (by have := HL10.out; unfold LL at this; rw [HLLEN.out] at this; exact this)
              refine step_append_lies _ (by rfl) (.tmp 23) (.tmp 30) 95 (by rfl) 0 156 i0 (.agg #[.int .i64 0, .int .i64 0, .int .i64 0, .int .i64 0]) 4 32 Tryz.underlying95 hi0 hz0 hz1 hz2 rfl (by omega) (.slice aa k ac) k (flatL l) (by rfl) HLk.out ⟨B30, 0, none⟩ 1 1 [.int .i64 r.f, .int .i64 r.b, .int .i64 r.m, .int .i64 r.e] (by rfl) (by rfl) (World.news_of_block HB.out) (by simp [Value.oneCell']) (by omega) (by unfold maxLen; omega) (by omega) (Nat.zero_le _) _ rfl ?_
              intro g cap' X12 hown hgrow hat hlt1
              have HS12 := Lib.hid (HSF.out X10 X12 hS (Fr.grown hgrow) HP10.out.1 HL10.out HP10.out.2.2.2.size)
              have HP12 := Lib.hid (HP10.out.fr (Fr.grown hgrow) (fun q c t e hc => .inl (HL10.out.ex q c t e hc)) (fun q e => HLOW.out q e))
              have HLn : Hid (LL X12 (.slice (some ⟨g, 0, none⟩) (k + 1) cap') (l ++ [r])) := (by unfold Hid LL; rw [flatL_snoc, show (l ++ [r]).length = k + 1 from by simp [HLLEN.out]]; exact hown)
              have HLW : Hid (∀ q, (Value.slice (some ⟨g, 0, none⟩) (k + 1) cap').ownBlock = some q → w.heap.size ≤ q) := (fun q hq => by have e : g = q := Option.some.inj hq; subst e; rcases hat with e | e; exact HLOW.out _ e; (have := HP10.out.2.2.2.size; omega))
              clear hown hgrow hat hlt1
              refine hK.out _ _ HS12.out (fun hS => ?_)
              clear hK K
              try simp only [Act.put, List.setIfInBounds_toArray, List.set_cons_zero, List.set_cons_succ]
              refine wpAnyH_take (i := 10) (oi := ⟨some 32, .fieldAddr 98 (.tmp 3) 1, _, _, _, _⟩) (v := .pointer (some ⟨w.heap.size + 1 + 1, 2, none⟩)) rfl (by kernel_rfl) (by kernel_rfl) (by kernel_rfl) (fun _ _ _ h => h) (Or.inl ⟨by rfl, ?_⟩) hS ?_
              · intro W' hSw; (try dsimp only at hSw); obtain ⟨s0, s1, s2, s3, s4⟩ := hSw; go_simp
              try simp only [Act.put, List.setIfInBounds_toArray, List.set_cons_zero, List.set_cons_succ]
              refine wpAnyH_ready (rs := [11]) (by kernel_rfl) (by simp) ?_
              refine AllReadyH.cons (o := ⟨none, .store 95 (.tmp 32) (.tmp 31), _, _, _, _⟩) rfl (fun K hK => ?_) ?_
              ·
                have e4 : X12.cell? ⟨w.heap.size + 1 + 1, 2, none⟩ = some (.slice aa k ac) := cell_of_row _ _ 2 _ _ _ HP12.out.2.2.1
                have e5 : X12.frozen? ⟨w.heap.size + 1 + 1, 2, none⟩ = false := frozen_of_row _ _ 2 _ _ HP12.out.2.2.1
                go_simp
                have HPF : Hid (PI w p (.slice (some ⟨b, off, none⟩) p.nr rc) (.slice ca p.nc cc) (.slice (some ⟨g, 0, none⟩) (k + 1) cap') (.slice none 0 0) (X12.setCell ⟨w.heap.size + 1 + 1, 2, none⟩ (.slice (some ⟨g, 0, none⟩) (k + 1) cap'))) := HP12.out.set 2 _ _ rfl
                have HLF : Hid (LL (X12.setCell ⟨w.heap.size + 1 + 1, 2, none⟩ (.slice (some ⟨g, 0, none⟩) (k + 1) cap')) (.slice (some ⟨g, 0, none⟩) (k + 1) cap') (l ++ [r])) := own_fr HLn.out (Fr.set X12 (w.heap.size + 1 + 1) 2 _) (fun g2 cur _ _ hg e => (by subst e; rw [show w.heap.size + 1 + 1 = w.heap.size + 2 from rfl, HP12.out.2.2.1] at hg; injection hg with e; injection e with _ e2; exact absurd e2 (by decide)))
                refine hK.out _ _ ?_ (fun hS => ?_)
                · obtain ⟨s0, s1, s2, s3, s4⟩ := hS
                  refine ⟨?_, ?_, ?_, ?_, ?_⟩
                  · rw [World.cell?_setCell_far _ _ _ _ (by show w.heap.size + 1 + 1 ≠ w.heap.size; omega)]; exact s0
                  · rw [World.cell?_setCell_far _ _ _ _ (by show w.heap.size + 1 + 1 ≠ b; omega)]; exact s1
                  · rw [World.cell?_setCell_far _ _ _ _ (by show w.heap.size + 1 + 1 ≠ b; omega)]; exact s2
                  · rw [World.cell?_setCell_far _ _ _ _ (by show w.heap.size + 1 + 1 ≠ b; omega)]; exact s3
                  · rw [World.cell?_setCell_far _ _ _ _ (by show w.heap.size + 1 + 1 ≠ b; omega)]; exact s4
                clear hK K e4 e5
                try simp only [Act.put, List.setIfInBounds_toArray, List.set_cons_zero, List.set_cons_succ]
                refine wpAnyH_done (by kernel_rfl) ?_ _
                go_wp2
                go_roundw
                case rel => exact ⟨k + 1, by omega, by go_num, _, HPF.out, by rw [HRS.out]; exact HLF.out, HLW.out⟩
                case measure => simp [intOf]; omega
              exact AllReadyH.nil
            exact AllReadyH.nil
          exact AllReadyH.nil
        exact AllReadyH.nil
      exact AllReadyH.nil
    · obtain rfl : k = p.nr := by omega
      go_wp2
      obtain ⟨wo, rfl⟩ : ∃ wo : World, wo = wr := ⟨_, rfl⟩
      go_loopw [5] (fun i wr => ∃ j : Nat, j ≤ p.nc ∧ i = .int .i64 j ∧ ∃ bv, PI w p (.slice ra p.nr rc) (.slice ca p.nc cc) (.slice aa p.nr ac) bv wr ∧ LL wr (.slice aa p.nr ac) (rlTo p.R p.nr) ∧ CL wr bv (rcTo p.C j) ∧ ∀ q, bv.ownBlock = some q → w.heap.size ≤ q) (fun i _ => p.nc - (intOf i).toNat)
      case atStart => exact ⟨0, Nat.zero_le _, rfl, _, HP.out, HL.out, World.ownsRow_nil _ _ _ _, fun q hq => by cases hq⟩
      case round =>
        clear HP HL d2 d3 hbw hlt HLOW
        obtain ⟨j, hj, rfl, bv, hpi, hll, hcl, hlow⟩ := hrel
        obtain ⟨ba, bc, rfl⟩ := hcl.at.slice
        rw [rcTo_length] at hpi hcl hlow
        have HP := Lib.hid hpi; have HL := Lib.hid hll; have HCL := Lib.hid hcl; have HLOW := Lib.hid hlow
        have d3 : wr.cell? ⟨w.heap.size, 3, none⟩ = some (.slice ca p.nc cc) := cell_of_row _ _ 3 _ _ _ hpi.1
        have hbw := hpi.2.2.2
        have hs2 := (Array.getElem?_eq_some_iff.1 hpi.2.2.1).1
        by_cases hjl : j < p.nc
        · obtain ⟨b, off, rfl, hbs, x0, x1, x2⟩ := HC.out.at hbw hjl
          have HRS : Hid (rcTo p.C (j + 1) = rcTo p.C j ++ [p.C j]) := rcTo_succ _ _
          have hlen : (rcTo p.C j).length = j := rcTo_length _ _
          have HLLEN := Lib.hid hlen; clear hlen
          generalize rcTo p.C j = l at *
          generalize p.C j = r at *
          have ki : (0 : Int) ≤ (j : Int) := by omega
          have kj : (j : Int) < (p.nc : Int) := by omega
          have d4 : wr.cell? ⟨w.heap.size + 1 + 1, 3, none⟩ = some (.slice ba j bc) := cell_of_row _ _ 3 _ _ _ hpi.2.2.1
          have hs3 : w.heap.size + 1 + 1 < wr.heap.size := hs2
          have hs4 : w.heap.size + 1 + 1 < wr.heap.size + 1 := by omega
          have HCk : Hid (wr.ownsRow 0 159 3 (.slice ba j bc) j (flatC l)) := (by have := HCL.out; unfold CL at this; rw [HLLEN.out] at this; exact this)
          clear hpi hll hcl hlow
          go_wp2_with (at_builtin; refine wpList_append_lies _ rfl (.tmp 46) (.tmp 54) 96 rfl 0 159 i1 (.agg #[.int .i64 0, .int .i64 0, .int .i64 0]) 3 24 Tryz.underlying96 hi1 hy0 hy1 hy2 rfl (by omega) (.slice ba j bc) j (flatC l) rfl (World.ownsRow.alloc (World.ownsRow.alloc HCk.out _) _) ⟨wr.heap.size + 1, 0, none⟩ 1 1 [.int .i64 r.day, .int .i64 r.rule, .int .i64 r.num] rfl rfl ?c1 ?c2 ?c3 ?c4 ?c5 ?c6 (wr.heap.size + 1 + 1) ?c7 ?_)
          case c1 =>
            have := heap_alloc_new (wr.alloc (.cells #[.int .i64 r.day, .int .i64 r.rule, .int .i64 r.num] 140)) (.cells #[.int .i64 r.day, .int .i64 r.rule, .int .i64 r.num] 159)
            rw [World.size_alloc] at this
            exact World.news_of_block this
          case c2 => simp [Value.oneCell']
          case c3 => omega
          case c4 => unfold maxLen; omega
          case c5 => omega
          case c6 => omega
          case c7 => simp
          intro g cap' X hown hgrow hat hlt1
          have hX : Below wr.heap.size wr ((wr.alloc (.cells #[.int .i64 r.day, .int .i64 r.rule, .int .i64 r.num] 140)).alloc (.cells #[.int .i64 r.day, .int .i64 r.rule, .int .i64 r.num] 159)) := (below_alloc _ _).alloc (by simp) _
          have hfr : Fr (fun q => (Value.slice ba j bc).ownBlock = some q) wr X := (Fr.below hX _).trans (Fr.grown hgrow)
          have HPn := Lib.hid (HP.out.fr hfr (fun q c t e hc => .inr (HCL.out.ex q c t e hc)) (fun q e => HLOW.out q e))
          have HLn : Hid (LL X (.slice aa p.nr ac) (rlTo p.R p.nr)) := own_fr HL.out hfr (fun g2 cur _ _ hg e => absurd (HCL.out.ex _ _ _ e hg) (by decide))
          have HCn : Hid (CL X (.slice (some ⟨g, 0, none⟩) (j + 1) cap') (l ++ [r])) := (by unfold Hid CL; rw [flatC_snoc, show (l ++ [r]).length = j + 1 from by simp [HLLEN.out]]; exact hown)
          have HLW : Hid (∀ q, (Value.slice (some ⟨g, 0, none⟩) (j + 1) cap').ownBlock = some q → w.heap.size ≤ q) := (fun q hq => by have e : g = q := Option.some.inj hq; subst e; rcases hat with e | e; exact HLOW.out _ e; omega)
          have e4 : X.cell? ⟨w.heap.size + 1 + 1, 3, none⟩ = some (.slice ba j bc) := cell_of_row _ _ 3 _ _ _ HPn.out.2.2.1
          have e5 : X.frozen? ⟨w.heap.size + 1 + 1, 3, none⟩ = false := frozen_of_row _ _ 3 _ _ HPn.out.2.2.1
          have HPF : Hid (PI w p (.slice ra p.nr rc) (.slice (some ⟨b, off, none⟩) p.nc cc) (.slice aa p.nr ac) (.slice (some ⟨g, 0, none⟩) (j + 1) cap') (X.setCell ⟨w.heap.size + 1 + 1, 3, none⟩ (.slice (some ⟨g, 0, none⟩) (j + 1) cap'))) := HPn.out.set 3 _ _ rfl
          have hne : ∀ (g2 : Nat) (cur : Array Value) (t : TypeId), t ≠ 98 → X.heap[g2]? = some (Obj.cells cur t (0, 0)) → ¬ g2 = w.heap.size + 1 + 1 := fun g2 cur t ht hg e => (by subst e; rw [show w.heap.size + 1 + 1 = w.heap.size + 2 from rfl, HPn.out.2.2.1] at hg; injection hg with e; injection e with _ e2; exact ht e2.symm)
          have HLF : Hid (LL (X.setCell ⟨w.heap.size + 1 + 1, 3, none⟩ (.slice (some ⟨g, 0, none⟩) (j + 1) cap')) (.slice aa p.nr ac) (rlTo p.R p.nr)) := own_fr HLn.out (Fr.set X (w.heap.size + 1 + 1) 3 _) (fun g2 cur _ _ hg => hne g2 cur _ (by decide) hg)
          have HCF : Hid (CL (X.setCell ⟨w.heap.size + 1 + 1, 3, none⟩ (.slice (some ⟨g, 0, none⟩) (j + 1) cap')) (.slice (some ⟨g, 0, none⟩) (j + 1) cap') (l ++ [r])) := own_fr HCn.out (Fr.set X (w.heap.size + 1 + 1) 3 _) (fun g2 cur _ _ hg => hne g2 cur _ (by decide) hg)
          clear hown hgrow hat hlt1 hX hfr hne
          go_wp2
          go_roundw
          case rel => exact ⟨j + 1, by omega, by go_num, _, HPF.out, HLF.out, by rw [HRS.out]; exact HCF.out, HLW.out⟩
          case measure => simp [intOf]; omega
        · obtain rfl : j = p.nc := by omega
          have k0 : wr.cell? ⟨w.heap.size + 1, 0, none⟩ = some (.int .i64 0) := cell_of_row _ _ 0 _ _ _ hpi.2.1
          have k1 : wr.cell? ⟨w.heap.size + 1, 1, none⟩ = some (.int .i64 0) := cell_of_row _ _ 1 _ _ _ hpi.2.1
          have k2 : wr.cell? ⟨w.heap.size + 1, 2, none⟩ = some (.slice none 0 0) := cell_of_row _ _ 2 _ _ _ hpi.2.1
          have k3 : wr.cell? ⟨w.heap.size + 1, 3, none⟩ = some (.slice none 0 0) := cell_of_row _ _ 3 _ _ _ hpi.2.1
          have f0 : wr.frozen? ⟨w.heap.size + 1, 0, none⟩ = false := frozen_of_row _ _ 0 _ _ hpi.2.1
          have f1 : wr.frozen? ⟨w.heap.size + 1, 1, none⟩ = false := frozen_of_row _ _ 1 _ _ hpi.2.1
          have f2 : wr.frozen? ⟨w.heap.size + 1, 2, none⟩ = false := frozen_of_row _ _ 2 _ _ hpi.2.1
          have f3 : wr.frozen? ⟨w.heap.size + 1, 3, none⟩ = false := frozen_of_row _ _ 3 _ _ hpi.2.1
          have m0 : wr.cell? ⟨w.heap.size + 1 + 1, 0, none⟩ = some (.int .i64 p.lo) := cell_of_row _ _ 0 _ _ _ hpi.2.2.1
          have m1 : wr.cell? ⟨w.heap.size + 1 + 1, 1, none⟩ = some (.int .i64 p.hi) := cell_of_row _ _ 1 _ _ _ hpi.2.2.1
          have m2 : wr.cell? ⟨w.heap.size + 1 + 1, 2, none⟩ = some (.slice aa p.nr ac) := cell_of_row _ _ 2 _ _ _ hpi.2.2.1
          have m3 : wr.cell? ⟨w.heap.size + 1 + 1, 3, none⟩ = some (.slice ba p.nc bc) := cell_of_row _ _ 3 _ _ _ hpi.2.2.1
          have hfr : ∀ (a b c d : Value), Fr (fun q => q = w.heap.size + 1) wr ((((wr.setCell ⟨w.heap.size + 1, 0, none⟩ a).setCell ⟨w.heap.size + 1, 1, none⟩ b).setCell ⟨w.heap.size + 1, 2, none⟩ c).setCell ⟨w.heap.size + 1, 3, none⟩ d) := fun a b c d => (((Fr.set _ _ _ _).trans (Fr.set _ _ _ _)).trans (Fr.set _ _ _ _)).trans (Fr.set _ _ _ _)
          have HFR := Lib.hid hfr
          have hne : ∀ (g2 : Nat) (cur : Array Value) (t : TypeId), t ≠ 98 → wr.heap[g2]? = some (Obj.cells cur t (0, 0)) → ¬ g2 = w.heap.size + 1 := fun g2 cur t ht hg e => (by subst e; rw [HP.out.2.1] at hg; injection hg with e; injection e with _ e2; exact ht e2.symm)
          have HNE := Lib.hid hne
          have HBW := Lib.hid hbw
          clear hfr hne hpi hll hcl hlow hbw
          go_wp2
          refine bodyPost_ret (v := .agg #[.int .i64 p.lo, .int .i64 p.hi, .slice aa p.nr ac, .slice ba p.nc bc]) (by simp [results, Tryz.results104, go_sem, k0, k1, k2, k3]) rfl ⟨_, _, rfl, ?_, ?_, ?_⟩
          · exact own_fr HL.out (HFR.out _ _ _ _) (fun g2 cur _ _ hg => HNE.out g2 cur _ (by decide) hg)
          · exact own_fr HCL.out (HFR.out _ _ _ _) (fun g2 cur _ _ hg => HNE.out g2 cur _ (by decide) hg)
          · exact HBW.out.trans ((HFR.out _ _ _ _).low HBW.out.size (fun q hq e => by omega))
end
/-- An entry's lists, each a row of its own. -/
def QO (w : World) (rv cv nv : Value) (e : En) : Prop := LL w rv (rlTo e.p.R e.p.nr) ∧ CL w cv (rcTo e.p.C e.p.nc) ∧ w.ownsRow 0 3 1 nv e.nn (iL e.z e.nn) ∧ e.p.nr ≤ 100 ∧ e.p.nc ≤ 100 ∧ e.nn ≤ 100
theorem QO.qp {w : World} {rv cv nv : Value} {e : En} (h : QO w rv cv nv e) : QP w rv cv nv e := by
  obtain ⟨h1, h2, h3, h4, h5, h6⟩ := h
  exact ⟨h1.rls, h2.rcs, (IntsAt.own h3).toIn, by omega, by omega, by omega⟩
theorem QO.fr {ex : Nat → Prop} {w w' : World} {rv cv nv : Value} {e : En} (h : QO w rv cv nv e) (hf : Fr ex w w') (hx : ∀ g cur t, w.heap[g]? = some (.cells cur t (0, 0)) → t = 156 ∨ t = 159 ∨ t = 3 → ¬ ex g) : QO w' rv cv nv e := by
  obtain ⟨h1, h2, h3, h4⟩ := h
  exact ⟨own_fr h1 hf (fun g cur _ _ hc => hx g cur _ hc (.inl rfl)), own_fr h2 hf (fun g cur _ _ hc => hx g cur _ hc (.inr (.inl rfl))), own_fr h3 hf (fun g cur _ _ hc => hx g cur _ hc (.inr (.inr rfl))), h4⟩
theorem QO.below {w w' : World} {rv cv nv : Value} {e : En} (h : QO w rv cv nv e) (hb : Below w.heap.size w w') : QO w' rv cv nv e := h.fr (Fr.below hb (fun _ => False)) (fun _ _ _ _ _ h => h)
theorem QO.grow {w w' : World} {rv cv nv : Value} {e : En} (h : QO w rv cv nv e) {base n sz : Nat} {T : TypeId} {v : Value} {xs : List Value} (ho : w.ownsRow base T sz v n xs) (hT : T ≠ 156 ∧ T ≠ 159 ∧ T ≠ 3) (hg : w.grownBy w' v.ownBlock) : QO w' rv cv nv e :=
  h.fr (Fr.grown hg) (fun g cur t hc ht => own_type_ne ho hc (by rcases ht with rfl | rfl | rfl; exact fun e => hT.1 e.symm; exact fun e => hT.2.1 e.symm; exact fun e => hT.2.2 e.symm))
end Go.Proofs.YtgbdbikjckfgmaaGreat
namespace Go.Proofs.YtgbdbikjckfgmaaGreat
open Go.RowKit Go.Shelf
set_option maxRecDepth 100000 in
set_option maxHeartbeats 8000000 in
theorem entries5_any (a : Option Addr) (n c : Nat) (E : Nat → En) (w : World) (h : EsQ QR w (.slice a n c) n E) (hn : n ≤ 100) (hE : ∀ j, j < n → (E j).p.nr ≤ 100 ∧ (E j).p.nc ≤ 100 ∧ (E j).nn ≤ 100) :
    Calls Tryz.prog 63 #[.slice a n c] w fun e w' => ∃ b d V, e = .returned (.slice b n d) ∧ w'.ownsRow w.heap.size 100 7 (.slice b n d) n (eF E V n) ∧ (∀ j, j < n → QO w' (V j).1 (V j).2.1 (V j).2.2 (E j)) ∧ Below w.heap.size w w' := by
  obtain ⟨i0, hi0, hz0, hz1, hz2⟩ := info_parts Tryz.infoEntry
  have HE := Lib.hid h
  have HEB := Lib.hid hE
  clear h hE
  go_enter Tryz.func63, Tryz.ntmps63
  go_wp2_with fail
  go_loopw [3, 4] (fun v i wr => ∃ (k : Nat) (V : V3), i = .int .i64 (k : Int) ∧ k ≤ n ∧ wr.ownsRow w.heap.size 100 7 v k (eF E V k) ∧ (∀ j, j < k → QO wr (V j).1 (V j).2.1 (V j).2.2 (E j)) ∧ Below w.heap.size w wr) (fun _ i _ => n - (intOf i).toNat)
  case atStart => exact ⟨0, fun _ => (undef, undef, undef), rfl, Nat.zero_le _, World.ownsRow_nil _ _ _ _, fun j hj => absurd hj (Nat.not_lt_zero _), Below.refl _ _⟩
  case round =>
    obtain ⟨k, V, rfl, hk, hown, hqo, hbl⟩ := hrel
    rename World => wx
    obtain ⟨va, vc, rfl⟩ := own_slice' hown
    have HO := Lib.hid hown
    have HQ := Lib.hid hqo
    have HB := Lib.hid hbl
    clear hown hqo hbl
    by_cases hlt : k < n
    · obtain ⟨b, off, rv, cv, nv, rfl, hb, x7, hq⟩ := HE.out.at hlt
      obtain ⟨x0, x1, x2, x3, x4, x5, x6⟩ := x7
      obtain ⟨na, nd, rfl⟩ := hq.2.2.1.slice
      obtain ⟨ra, rd, rfl⟩ := hq.1.slice
      obtain ⟨ca, cd, rfl⟩ := hq.2.1.slice
      obtain ⟨b1, b2, b3⟩ := HEB.out k hlt
      have ki : (0 : Int) ≤ (k : Int) := by omega
      have kj : (k : Int) < (n : Int) := by omega
      have HFO : Hid (∀ v (X : World) rv cv nv, X.ownsRow w.heap.size 100 7 v (k + 1) (eF E V k ++ e7 (E k) (rv, cv, nv)) → X.ownsRow w.heap.size 100 7 v (k + 1) (eF E (putL V k (rv, cv, nv)) (k + 1))) := fun v X rv cv nv h => by
        rw [eF_succ, putL_same, eF_congr (V' := V) fun j hj => ⟨rfl, putL_ne (by omega)⟩]; exact h
      have HFQ : Hid (∀ (X : World) rv cv nv, (∀ j, j < k → QO X (V j).1 (V j).2.1 (V j).2.2 (E j)) → QO X rv cv nv (E k) → ∀ j, j < k + 1 → QO X (putL V k (rv, cv, nv) j).1 (putL V k (rv, cv, nv) j).2.1 (putL V k (rv, cv, nv) j).2.2 (E j)) := fun X rv cv nv h1 h2 j hj => by
        rcases Nat.lt_succ_iff_lt_or_eq.1 hj with hj | rfl
        · rw [putL_ne (by omega)]; exact h1 j hj
        · rw [putL_same]; exact h2
      have HQE : Hid (∀ (X : World) rv cv nv, LL X rv (rlTo (E k).p.R (E k).p.nr) → CL X cv (rcTo (E k).p.C (E k).p.nc) → X.ownsRow 0 3 1 nv (E k).nn (iL (E k).z (E k).nn) → QO X rv cv nv (E k)) := fun X rv cv nv h1 h2 h3 => ⟨h1, h2, h3, b1, b2, b3⟩
      have HPE := Lib.hid (fun X (hX : Below w.heap.size w X) => person_own _ _ X (QR.k _ _ _ _ _ _ hq hX).pers b1 b2)
      have HLI := Lib.hid (fun X (hX : Below w.heap.size w X) => listC_any na (E k).nn nd (E k).z X (by omega) (hq.2.2.1.below hX))
      unfold e7 at HFO
      clear hq
      generalize (E k).p.lo = lo at *
      generalize (E k).p.hi = hi at *
      generalize (E k).sex = sx at *
      generalize (E k).pl = pl at *
      generalize (E k).p.nr = nr at *
      generalize (E k).p.nc = nc at *
      generalize (E k).nn = nn at *
      generalize (E k).z = z at *
      generalize (E k).p.R = RR at *
      generalize (E k).p.C = CC at *
      have HS : Hid (∀ X, Below w.heap.size w X → (fun X => X.cell? ⟨b, off + k * 7, none⟩ = some (.int .i64 lo) ∧ X.cell? ⟨b, off + k * 7 + 1, none⟩ = some (.int .i64 hi) ∧ X.cell? ⟨b, off + k * 7 + 2, none⟩ = some (.slice ra nr rd) ∧ X.cell? ⟨b, off + k * 7 + 3, none⟩ = some (.slice ca nc cd) ∧ X.cell? ⟨b, off + k * 7 + 4, none⟩ = some (.int .i64 sx) ∧ X.cell? ⟨b, off + k * 7 + 5, none⟩ = some (.slice na nn nd) ∧ X.cell? ⟨b, off + k * 7 + 6, none⟩ = some (.int .i64 pl)) X) := fun X hX => ⟨below_cell hX _ _ x0, below_cell hX _ _ x1, below_cell hX _ _ x2, below_cell hX _ _ x3, below_cell hX _ _ x4, below_cell hX _ _ x5, below_cell hX _ _ x6⟩
      have HX0 : Hid (Below w.heap.size w wx.drew) := HB.out.drew
      clear x0 x1 x2 x3 x4 x5 x6 HB
      go_wp2_with fail
      refine wp_region_Z (S := fun X => X.cell? ⟨b, off + k * 7, none⟩ = some (.int .i64 lo) ∧ X.cell? ⟨b, off + k * 7 + 1, none⟩ = some (.int .i64 hi) ∧ X.cell? ⟨b, off + k * 7 + 2, none⟩ = some (.slice ra nr rd) ∧ X.cell? ⟨b, off + k * 7 + 3, none⟩ = some (.slice ca nc cd) ∧ X.cell? ⟨b, off + k * 7 + 4, none⟩ = some (.int .i64 sx) ∧ X.cell? ⟨b, off + k * 7 + 5, none⟩ = some (.slice na nn nd) ∧ X.cell? ⟨b, off + k * 7 + 6, none⟩ = some (.int .i64 pl)) (by kernel_rfl) (HS.out _ HX0.out) (fun hS => ?_)
      have HO0 := Lib.hid (own_below HO.out (show Below wx.heap.size wx wx.drew from (Below.refl _ _).drew))
      have HQ0 := Lib.hid (fun j hj => (HQ.out j hj).below (show Below wx.heap.size wx wx.drew from (Below.refl _ _).drew))
      clear HO HQ
      generalize wx.drew = X0 at *
      refine tk [0, 1, 2, 3, 4, 5, 7, 8, 9, 10, 11, 12, 13, 14, 15, 16, 18, 19, 20, 21, 22] ?_
      repeat (refine tkZ (oi := ⟨_, _, _, _, _, _⟩) (v := ?_) rfl (by kernel_rfl) (by rfl) (fun _ _ _ h => h) hS ?_ ?_; rotate_left; (· rintro W' ⟨z0, z1, z2, z3, z4, z5, z6⟩; go_simp; try with_reducible rfl); try simp only [Act.put, putA, putZ, putS])
      refine tk0 ?_
      refine wpAnyZ_next (rs := [6]) (by kernel_rfl) (by simp) ?_
      refine NextZ.cons (o := ⟨some 17, _, _, _, _, _⟩) rfl (fun K hK => ?_) NextZ.nil
      go_simp
      refine (HPE.out _ HX0.out).mono ?_
      rintro _ X1 ⟨rv2, cv2, rfl, hl, hc, hb⟩
      obtain ⟨r2, s2, rfl⟩ := own_slice' hl
      obtain ⟨c2, d2, rfl⟩ := own_slice' hc
      rw [rlTo_length]
      rw [rcTo_length]
      have HL1 := Lib.hid hl
      have HC1 := Lib.hid hc
      rw [rlTo_length] at HL1
      rw [rcTo_length] at HC1
      have HX1 := Lib.hid (HX0.out.trans (hb.mono HX0.out.size))
      have HO1 := Lib.hid (own_below HO0.out hb)
      have HQ1 := Lib.hid (fun j hj => (HQ0.out j hj).below hb)
      clear hl hc hb HO0 HQ0
      (try go_wp2_with fail)
      refine hK.out _ _ (HS.out _ HX1.out) (fun hS => ?_)
      clear hK K
      try simp only [Act.put, putA, putZ, putS]
      refine wpAnyZ_next (rs := [17]) (by kernel_rfl) (by simp) ?_
      refine NextZ.cons (o := ⟨some 28, _, _, _, _, _⟩) rfl (fun K hK => ?_) NextZ.nil
      go_simp
      refine (HLI.out _ HX1.out).mono ?_
      rintro _ X2 ⟨n2, m2, rfl, ho, hb⟩
      have HN2 := Lib.hid (own_mono (base' := 0) ho (Nat.zero_le _))
      have HL2 : Hid (LL X2 (.slice r2 nr s2) (rlTo RR nr)) := own_below HL1.out hb
      have HC2 : Hid (CL X2 (.slice c2 nc d2) (rcTo CC nc)) := own_below HC1.out hb
      have HX2 := Lib.hid (HX1.out.trans (hb.mono HX1.out.size))
      have HO2 := Lib.hid (own_below HO1.out hb)
      have HQ2 := Lib.hid (fun j hj => (HQ1.out j hj).below hb)
      clear ho hb HO1 HQ1 HL1 HC1
      (try go_wp2_with fail)
      refine hK.out _ _ (HS.out _ HX2.out) (fun hS => ?_)
      clear hK K
      try simp only [Act.put, putA, putZ, putS]
      refine tk [23] ?_
      repeat (refine tkZ (oi := ⟨_, _, _, _, _, _⟩) (v := ?_) rfl (by kernel_rfl) (by rfl) (fun _ _ _ h => h) hS ?_ ?_; rotate_left; (· rintro W' ⟨z0, z1, z2, z3, z4, z5, z6⟩; go_simp; try with_reducible rfl); try simp only [Act.put, putA, putZ, putS])
      refine tk0 ?_
      refine wpAnyZ_next (rs := [24]) (by kernel_rfl) (by simp) ?_
      refine NextZ.cons (o := ⟨some 35, _, _, _, _, _⟩) rfl (fun K hK => ?_) NextZ.nil
      go_simp
      have hbA := below_alloc X2 (.cells #[.int .i64 lo, .int .i64 hi, .slice r2 nr s2, .slice c2 nc d2, .int .i64 sx, .slice n2 nn m2, .int .i64 pl] 100)
      have HJ := Lib.hid (World.news_of_block (heap_alloc_new X2 (.cells #[.int .i64 lo, .int .i64 hi, .slice r2 nr s2, .slice c2 nc d2, .int .i64 sx, .slice n2 nn m2, .int .i64 pl] 100)))
      have HQN := Lib.hid (HQE.out _ _ _ _ HL2.out HC2.out HN2.out)
      have HQN3 := Lib.hid (HQN.out.below hbA)
      have HX3 := Lib.hid (HX2.out.trans (hbA.mono HX2.out.size))
      have HO3 := Lib.hid (own_below HO2.out hbA)
      have HQ3 := Lib.hid (fun j hj => (HQ2.out j hj).below hbA)
      clear hbA HO2 HQ2 HL2 HC2 HN2 HQN
      refine hK.out _ _ (HS.out _ HX3.out) (fun hS => ?_)
      clear hK K
      try simp only [Act.put, putA, putZ, putS]
      generalize X2.heap.size = JB at *
      generalize X2.alloc (.cells #[.int .i64 lo, .int .i64 hi, .slice r2 nr s2, .slice c2 nc d2, .int .i64 sx, .slice n2 nn m2, .int .i64 pl] 100) = X3 at *
      refine wpAnyZ_next (rs := [25]) (by kernel_rfl) (by simp) ?_
      refine NextZ.cons (o := ⟨some 36, _, _, _, _, _⟩) rfl (fun K hK => ?_) NextZ.nil
      have hsz3 := HX3.out.size
      refine step_append_src X3 (by rfl) (.tmp 11) (.tmp 35) 30 (by rfl) w.heap.size 100 i0 (.agg #[.int .i64 0, .int .i64 0, .slice none 0 0, .slice none 0 0, .int .i64 0, .slice none 0 0, .int .i64 0]) 7 104 Tryz.underlying30 hi0 hz0 hz1 hz2 rfl (by decide) (.slice va k vc) k (eF E V k) (by rfl) HO3.out (some ⟨JB, 0, none⟩) 1 1 [.int .i64 lo, .int .i64 hi, .slice r2 nr s2, .slice c2 nc d2, .int .i64 sx, .slice n2 nn m2, .int .i64 pl] (by rfl) ⟨rfl, fun jj u hu => ⟨_, rfl, HJ.out jj u hu⟩⟩ (by simp [Value.oneCell']) ?c1 ?c2 hsz3 ?_
      case c1 => unfold maxLen; omega
      case c2 => omega
      intro v4 X4 hown hgr _
      have HO4 := Lib.hid hown
      have HX4 := Lib.hid (HX3.out.trans ((Fr.grown hgr).low hsz3 (fun q hq e => by have := own_low HO3.out e; omega)))
      have HQ4 := Lib.hid (fun j hj => (HQ3.out j hj).grow HO3.out ⟨by decide, by decide, by decide⟩ hgr)
      have HQN4 := Lib.hid (HQN3.out.grow HO3.out ⟨by decide, by decide, by decide⟩ hgr)
      clear hown hgr HO3 HQ3 HQN3
      refine hK.out _ _ (HS.out _ HX4.out) (fun hS => ?_)
      clear hK K
      try simp only [Act.put, putA, putZ, putS]
      refine tk [26] ?_
      repeat (refine tkZ (oi := ⟨_, _, _, _, _, _⟩) (v := ?_) rfl (by kernel_rfl) (by rfl) (fun _ _ _ h => h) hS ?_ ?_; rotate_left; (· rintro W' ⟨z0, z1, z2, z3, z4, z5, z6⟩; go_simp; try with_reducible rfl); try simp only [Act.put, putA, putZ, putS])
      refine tk0 ?_
      refine wpAnyZ_done (by kernel_rfl) ?_ _
      clear hS
      go_wp2_with fail
      go_roundw
      case rel => exact ⟨k + 1, _, by go_num, by omega, HFO.out _ _ _ _ _ HO4.out, HFQ.out _ _ _ _ HQ4.out HQN4.out, HX4.out⟩
      case measure => simp [intOf]; omega
    · obtain rfl : k = n := by omega
      go_wp2_with fail
      go_ret
      exact ⟨_, _, V, rfl, HO.out, HQ.out, HB.out⟩
end Go.Proofs.YtgbdbikjckfgmaaGreat
namespace Go.Proofs.YtgbdbikjckfgmaaGreat
open Go.RowKit Go.Shelf
theorem Tryz.infoMove5 : (Tryz.prog.info? 110).map (fun i => (i.zero, i.size, i.bytes)) = some (some (.agg #[.int .i64 0, .int .i64 0]), 2, 16) := by kernel_rfl
theorem Tryz.sizeFile : (Tryz.prog.info? 33).map (·.size) = some 3 := by kernel_rfl
theorem Fr.setRow (A : World) (g : Nat) (cs : Array Value) : Fr (fun k => k = g) A (A.setRow g cs) := ⟨rfl, rfl, rfl, by simp, fun _ _ he => setRow_other _ _ _ _ he⟩
def mvP (mf mt : Nat → Int) (k : Nat) : List (Int × Int) := (List.range k).map fun j => (mf j, mt j)
def mvL (mf mt : Nat → Int) (k : Nat) : List Value := flat (mvP mf mt k)
theorem mvL_succ (mf mt : Nat → Int) (k : Nat) : mvL mf mt (k + 1) = mvL mf mt k ++ [.int .i64 (mf k), .int .i64 (mt k)] := by
  unfold mvL mvP; rw [List.range_succ, List.map_append, flat_append]; rfl
theorem mvL_own {W : World} {base n : Nat} {T : TypeId} {v : Value} {mf mt : Nat → Int} (h : W.ownsRow base T 2 v n (mvL mf mt n)) : RsIn W v n mf mt := by
  have hl : (mvP mf mt n).length = n := by simp [mvP]
  have h2 : W.ownsRow base T 2 v (mvP mf mt n).length (flat (mvP mf mt n)) := by rw [hl]; exact h
  have h3 := SkIn.own h2
  rcases h3 with ⟨a, c, e, hn⟩ | ⟨b, off, c, e, hb, hz⟩
  · exact .inl ⟨a, c, e, by rw [← hl]; exact hn⟩
  · refine .inr ⟨b, off, c, by rw [e, hl], hb, fun j hj => ?_⟩
    have hg : (mvP mf mt n).getD j (0, 0) = (mf j, mt j) := by simp [mvP, hj]
    have := hz j (by rw [hl]; exact hj)
    simp only [hg] at this; exact this
/-- Entries of the call's own. -/
structure ER (W : World) (v : Value) (n : Nat) (E : Nat → En) (V : V3) : Prop where
  own : W.ownsRow 0 100 7 v n (eF E V n)
  q : ∀ j, j < n → QO W (V j).1 (V j).2.1 (V j).2.2 (E j)
theorem ER.below {W W' : World} {v : Value} {n : Nat} {E : Nat → En} {V : V3} (h : ER W v n E V) (hb : Below W.heap.size W W') : ER W' v n E V := ⟨own_below h.own hb, fun j hj => (h.q j hj).below hb⟩
theorem ER.file {W W' : World} {v : Value} {n : Nat} {E : Nat → En} {V : V3} (h : ER W v n E V) {g : Nat} {cs : Array Value} (hg : W.heap[g]? = some (.cells cs 33 (0, 0))) (hf : Fr (fun k => k = g) W W') : ER W' v n E V :=
  ⟨own_fr h.own hf (fun b cur _ _ hc e => by subst e; rw [hg] at hc; cases hc), fun j hj => (h.q j hj).fr hf (fun b cur t hc ht e => by subst e; rw [hg] at hc; cases hc; rcases ht with ht | ht | ht <;> exact absurd ht (by decide))⟩
theorem ER.grow {W W' : World} {v : Value} {n : Nat} {E : Nat → En} {V : V3} (h : ER W v n E V) {base m sz : Nat} {T : TypeId} {u : Value} {xs : List Value} (ho : W.ownsRow base T sz u m xs) (hT : T ≠ 100 ∧ T ≠ 156 ∧ T ≠ 159 ∧ T ≠ 3) (hg : W.grownBy W' u.ownBlock) : ER W' v n E V :=
  ⟨own_fr h.own (Fr.grown hg) (fun _ _ _ _ hc => own_type_ne ho hc (fun e => hT.1 e.symm)), fun j hj => (h.q j hj).grow ho hT.2 hg⟩
theorem ER.es {W : World} {v : Value} {n : Nat} {E : Nat → En} {V : V3} (h : ER W v n E V) : EsQ QP W v n E := EsQ.own h.own fun j hj => (h.q j hj).qp
set_option maxRecDepth 100000 in
set_option maxHeartbeats 8000000 in
theorem file5_any (x : FV) (f : Fl) (w : World) (h : FlQ QR w x f) (h1 : f.no ≤ 100) (h2 : f.nw ≤ 100) (h3 : f.nm ≤ 100) (hO : ∀ j, j < f.no → (f.O j).p.nr ≤ 100 ∧ (f.O j).p.nc ≤ 100 ∧ (f.O j).nn ≤ 100) (hN : ∀ j, j < f.nw → (f.N j).p.nr ≤ 100 ∧ (f.N j).p.nc ≤ 100 ∧ (f.N j).nn ≤ 100) :
    Calls Tryz.prog 21 #[.agg #[.slice x.oa f.no x.oc, .slice x.na f.nw x.nc, .slice x.ma f.nm x.mc]] w fun e w' => ∃ z : FV, e = .returned (.agg #[.slice z.oa f.no z.oc, .slice z.na f.nw z.nc, .slice z.ma f.nm z.mc]) ∧ FlQ QP w' z f ∧ Below w.heap.size w w' := by
  obtain ⟨i0, hi0, hz0, hz1, hz2⟩ := info_parts Tryz.infoMove5
  obtain ⟨oa, oc, na, nc, ma, mc⟩ := x
  have HCO : Hid (∀ W, Below w.heap.size w W → Calls Tryz.prog 63 #[.slice oa f.no oc] W fun e w' => ∃ b d V, e = .returned (.slice b f.no d) ∧ w'.ownsRow W.heap.size 100 7 (.slice b f.no d) f.no (eF f.O V f.no) ∧ (∀ j, j < f.no → QO w' (V j).1 (V j).2.1 (V j).2.2 (f.O j)) ∧ Below W.heap.size W w') := fun W hW => entries5_any oa f.no oc f.O W (h.o.below QR.k hW) h1 hO
  have HCN : Hid (∀ W, Below w.heap.size w W → Calls Tryz.prog 63 #[.slice na f.nw nc] W fun e w' => ∃ b d V, e = .returned (.slice b f.nw d) ∧ w'.ownsRow W.heap.size 100 7 (.slice b f.nw d) f.nw (eF f.N V f.nw) ∧ (∀ j, j < f.nw → QO w' (V j).1 (V j).2.1 (V j).2.2 (f.N j)) ∧ Below W.heap.size W w') := fun W hW => entries5_any na f.nw nc f.N W (h.n.below QR.k hW) h2 hN
  have HMV : Hid (RsIn w (.slice ma f.nm mc) f.nm f.mf f.mt) := h.m
  have HFI : Hid (∀ (W : World) ua uc va vc wa wc, EsQ QP W (.slice ua f.no uc) f.no f.O → EsQ QP W (.slice va f.nw vc) f.nw f.N → RsIn W (.slice wa f.nm wc) f.nm f.mf f.mt → FlQ QP W ⟨ua, uc, va, vc, wa, wc⟩ f) := fun W ua uc va vc wa wc h1 h2 h3 => ⟨h1, h2, h3⟩
  clear h hO hN
  dsimp only
  generalize f.no = no at *
  generalize f.nw = nw at *
  generalize f.nm = nm at *
  generalize f.mf = mf at *
  generalize f.mt = mt at *
  have HA0 : Hid (BF w ((w.alloc (.cells #[.slice oa no oc, .slice na nw nc, .slice ma nm mc] 25)).alloc (.cells #[.slice none 0 0, .slice none 0 0, .slice none 0 0] 33)) [(w.heap.size + 1, #[.slice none 0 0, .slice none 0 0, .slice none 0 0], 33), (w.heap.size, #[.slice oa no oc, .slice na nw nc, .slice ma nm mc], 25)]) := (BF.made2 w #[.slice oa no oc, .slice na nw nc, .slice ma nm mc] #[.slice none 0 0, .slice none 0 0, .slice none 0 0] 25 33).sub (fun p hp => by
    simp only [List.mem_cons, List.not_mem_nil, or_false] at hp ⊢
    rcases hp with h | h <;> simp [h])
  go_enter Tryz.func21, Tryz.ntmps21
  go_wp2_with fail
  obtain ⟨RB, hRB⟩ : ∃ b, w.heap.size + 1 = b := ⟨_, rfl⟩
  rw [hRB] at HA0
  (try rw [hRB])
  have hRB1 : w.heap.size < RB := by omega
  clear hRB
  have HAX : Hid (BF w ((w.alloc (.cells #[.slice oa no oc, .slice na nw nc, .slice ma nm mc] 25)).alloc (.cells #[.slice none 0 0, .slice none 0 0, .slice none 0 0] 33)).drew [(RB, #[.slice none 0 0, .slice none 0 0, .slice none 0 0], 33), (w.heap.size, #[.slice oa no oc, .slice na nw nc, .slice ma nm mc], 25)]) := HA0.out.below (Below.refl _ _).drew
  go_cut [3] (fun s3 wx => ∃ O ua uc va vc VO VN, s3 = .pointer (some ⟨O, 0, none⟩) ∧ RB < O ∧ BF w wx [(O, #[.slice ua no uc, .slice va nw vc, .slice none 0 0], 33), (RB, #[.slice none 0 0, .slice none 0 0, .slice none 0 0], 33), (w.heap.size, #[.slice oa no oc, .slice na nw nc, .slice ma nm mc], 25)] ∧ ER wx (.slice ua no uc) no f.O VO ∧ ER wx (.slice va nw vc) nw f.N VN)
  case first =>
    clear HA0
    refine wp_region_Z (S := fun X => X.cell? ⟨w.heap.size, 0, none⟩ = some (.slice oa no oc) ∧ X.cell? ⟨w.heap.size, 1, none⟩ = some (.slice na nw nc)) (by kernel_rfl) ⟨HAX.out.cell (.tail _ (.head _)) 0, HAX.out.cell (.tail _ (.head _)) 1⟩ (fun hS => ?_)
    generalize ((w.alloc (.cells #[.slice oa no oc, .slice na nw nc, .slice ma nm mc] 25)).alloc (.cells #[.slice none 0 0, .slice none 0 0, .slice none 0 0] 33)).drew = X at *
    refine tk [0, 1, 3, 4] ?_
    repeat (refine tkZ (oi := ⟨_, _, _, _, _, _⟩) (v := ?_) rfl (by kernel_rfl) (by rfl) (fun _ _ _ h => h) hS ?_ ?_; rotate_left; (· rintro W' ⟨z0, z1⟩; go_simp; try with_reducible rfl); try simp only [Act.put, putA, putZ, putS])
    refine tk0 ?_
    refine wpAnyZ_next (rs := [2, 7]) (by kernel_rfl) (by simp) ?_
    refine NextZ.cons (o := ⟨some 7, _, _, _, _, _⟩) rfl (fun K hK => ?_) ?_
    ·
     go_simp
     refine (HCO.out _ HAX.out.fr).mono ?_
     rintro _ X0 ⟨ua, uc, VO, rfl, hown, hqo, hb⟩
     have HA0 := Lib.hid (HAX.out.below hb)
     have HE0 : Hid (ER X0 (.slice ua no uc) no f.O VO) := ⟨own_mono hown (Nat.zero_le _), hqo⟩
     clear hown hqo hb
     (try go_wp2_with fail)
     refine hK.out _ _ ⟨HA0.out.cell (.tail _ (.head _)) 0, HA0.out.cell (.tail _ (.head _)) 1⟩ (fun hS => ?_)
     clear hK K
     try simp only [Act.put, putA, putZ, putS]
     refine wpAnyZ_next (rs := [5, 7]) (by kernel_rfl) (by simp) ?_
     refine NextZ.cons (o := ⟨some 10, _, _, _, _, _⟩) rfl (fun K hK => ?_) ?_
     ·
      go_simp
      refine (HCN.out _ HA0.out.fr).mono ?_
      rintro _ X1 ⟨va, vc, VN, rfl, hown, hqo, hb⟩
      have HA1 := Lib.hid (HA0.out.below hb)
      have HE1 : Hid (ER X1 (.slice va nw vc) nw f.N VN) := ⟨own_mono hown (Nat.zero_le _), hqo⟩
      have HE0_1 := Lib.hid (HE0.out.below hb)
      clear hown hqo hb
      (try go_wp2_with fail)
      refine hK.out _ _ ⟨HA1.out.cell (.tail _ (.head _)) 0, HA1.out.cell (.tail _ (.head _)) 1⟩ (fun hS => ?_)
      clear hK K
      try simp only [Act.put, putA, putZ, putS]
      refine tk [6] ?_
      repeat (refine tkZ (oi := ⟨_, _, _, _, _, _⟩) (v := ?_) rfl (by kernel_rfl) (by rfl) (fun _ _ _ h => h) hS ?_ ?_; rotate_left; (· rintro W' ⟨z0, z1⟩; go_simp; try with_reducible rfl); try simp only [Act.put, putA, putZ, putS])
      refine tk0 ?_
      refine wpAnyZ_next (rs := [7]) (by kernel_rfl) (by simp) ?_
      refine NextZ.cons (o := ⟨some 3, _, _, _, _, _⟩) rfl (fun K hK => ?_) NextZ.nil
      go_simp
      have HA2 := Lib.hid (HA1.out.alloc #[.slice none 0 0, .slice none 0 0, .slice none 0 0] 33)
      have hbz := below_alloc X1 (.cells #[.slice none 0 0, .slice none 0 0, .slice none 0 0] 33)
      have hOl := (HA1.out.lt (.tail _ (.head _))).2
      have hOr := (HA1.out.lt (.head _)).2
      have HE0_1_2 := Lib.hid (HE0_1.out.below hbz)
      have HE1_2 := Lib.hid (HE1.out.below hbz)
      clear hbz
      refine hK.out _ _ ⟨HA2.out.cell (.tail _ (.tail _ (.head _))) 0, HA2.out.cell (.tail _ (.tail _ (.head _))) 1⟩ (fun hS => ?_)
      clear hK K
      try simp only [Act.put, putA, putZ, putS]
      generalize X1.heap.size = O at *
      generalize X1.alloc (.cells #[.slice none 0 0, .slice none 0 0, .slice none 0 0] 33) = X2 at *
      refine wpAnyZ_next (rs := [8]) (by kernel_rfl) (by simp) ?_
      refine NextZ.last (o := ⟨none, _, _, _, _, _⟩) rfl (by kernel_rfl) (fun K hK => ?_)
      refine step_store_row (by rfl) 33 (.tmp 3) (.tmp 11) (by rfl) O #[.slice ua no uc, .slice va nw vc, .slice none 0 0] (by rfl) (by rfl) 33 #[.slice none 0 0, .slice none 0 0, .slice none 0 0] (HA2.out.bk _ _ _ (.head _)).2 Tryz.sizeFile rfl (by simp [Value.oneCell']) ?_
      have HR3 := Lib.hid (HA2.out.setR (.head _) #[.slice ua no uc, .slice va nw vc, .slice none 0 0] (L' := [(RB, #[.slice none 0 0, .slice none 0 0, .slice none 0 0], 33), (w.heap.size, #[.slice oa no oc, .slice na nw nc, .slice ma nm mc], 25)]) (List.forall_mem_cons.2 ⟨⟨show RB ≠ O by omega, (.tail _ (.head _))⟩, List.forall_mem_cons.2 ⟨⟨show w.heap.size ≠ O by omega, (.tail _ (.tail _ (.head _)))⟩, List.forall_mem_nil _⟩⟩))
      have HT3 := Lib.hid (HA2.out.bk _ _ _ (.head _)).2
      have HEO3 := Lib.hid (HE0_1_2.out.file HT3.out (Fr.setRow _ O #[.slice ua no uc, .slice va nw vc, .slice none 0 0]))
      have HEN3 := Lib.hid (HE1_2.out.file HT3.out (Fr.setRow _ O #[.slice ua no uc, .slice va nw vc, .slice none 0 0]))
      refine hK.out _ _ ?_
      clear hK K
      try simp only [Act.put]
      refine wpAnyZ_done (by kernel_rfl) ?_ _
      go_wp2_with fail
      go_meet
      exact ⟨O, ua, uc, va, vc, VO, VN, rfl, show RB < O by omega, HR3.out, HEO3.out, HEN3.out⟩
     refine NextZ.cons (o := ⟨some 3, _, _, _, _, _⟩) rfl (fun K hK => ?_) NextZ.nil
     go_simp
     have HA4 := Lib.hid (HA0.out.alloc #[.slice none 0 0, .slice none 0 0, .slice none 0 0] 33)
     have hbz := below_alloc X0 (.cells #[.slice none 0 0, .slice none 0 0, .slice none 0 0] 33)
     have hOl := (HA0.out.lt (.tail _ (.head _))).2
     have hOr := (HA0.out.lt (.head _)).2
     have HE0_4 := Lib.hid (HE0.out.below hbz)
     clear hbz
     refine hK.out _ _ ⟨HA4.out.cell (.tail _ (.tail _ (.head _))) 0, HA4.out.cell (.tail _ (.tail _ (.head _))) 1⟩ (fun hS => ?_)
     clear hK K
     try simp only [Act.put, putA, putZ, putS]
     generalize X0.heap.size = O at *
     generalize X0.alloc (.cells #[.slice none 0 0, .slice none 0 0, .slice none 0 0] 33) = X4 at *
     refine wpAnyZ_next (rs := [5]) (by kernel_rfl) (by simp) ?_
     refine NextZ.cons (o := ⟨some 10, _, _, _, _, _⟩) rfl (fun K hK => ?_) NextZ.nil
     go_simp
     refine (HCN.out _ HA4.out.fr).mono ?_
     rintro _ X5 ⟨va, vc, VN, rfl, hown, hqo, hb⟩
     have HA5 := Lib.hid (HA4.out.below hb)
     have HE5 : Hid (ER X5 (.slice va nw vc) nw f.N VN) := ⟨own_mono hown (Nat.zero_le _), hqo⟩
     have HE0_4_5 := Lib.hid (HE0_4.out.below hb)
     clear hown hqo hb
     (try go_wp2_with fail)
     refine hK.out _ _ ⟨HA5.out.cell (.tail _ (.tail _ (.head _))) 0, HA5.out.cell (.tail _ (.tail _ (.head _))) 1⟩ (fun hS => ?_)
     clear hK K
     try simp only [Act.put, putA, putZ, putS]
     refine tk [6] ?_
     repeat (refine tkZ (oi := ⟨_, _, _, _, _, _⟩) (v := ?_) rfl (by kernel_rfl) (by rfl) (fun _ _ _ h => h) hS ?_ ?_; rotate_left; (· rintro W' ⟨z0, z1⟩; go_simp; try with_reducible rfl); try simp only [Act.put, putA, putZ, putS])
     refine tk0 ?_
     refine wpAnyZ_next (rs := [8]) (by kernel_rfl) (by simp) ?_
     refine NextZ.last (o := ⟨none, _, _, _, _, _⟩) rfl (by kernel_rfl) (fun K hK => ?_)
     refine step_store_row (by rfl) 33 (.tmp 3) (.tmp 11) (by rfl) O #[.slice ua no uc, .slice va nw vc, .slice none 0 0] (by rfl) (by rfl) 33 #[.slice none 0 0, .slice none 0 0, .slice none 0 0] (HA5.out.bk _ _ _ (.head _)).2 Tryz.sizeFile rfl (by simp [Value.oneCell']) ?_
     have HR6 := Lib.hid (HA5.out.setR (.head _) #[.slice ua no uc, .slice va nw vc, .slice none 0 0] (L' := [(RB, #[.slice none 0 0, .slice none 0 0, .slice none 0 0], 33), (w.heap.size, #[.slice oa no oc, .slice na nw nc, .slice ma nm mc], 25)]) (List.forall_mem_cons.2 ⟨⟨show RB ≠ O by omega, (.tail _ (.head _))⟩, List.forall_mem_cons.2 ⟨⟨show w.heap.size ≠ O by omega, (.tail _ (.tail _ (.head _)))⟩, List.forall_mem_nil _⟩⟩))
     have HT6 := Lib.hid (HA5.out.bk _ _ _ (.head _)).2
     have HEO6 := Lib.hid (HE0_4_5.out.file HT6.out (Fr.setRow _ O #[.slice ua no uc, .slice va nw vc, .slice none 0 0]))
     have HEN6 := Lib.hid (HE5.out.file HT6.out (Fr.setRow _ O #[.slice ua no uc, .slice va nw vc, .slice none 0 0]))
     refine hK.out _ _ ?_
     clear hK K
     try simp only [Act.put]
     refine wpAnyZ_done (by kernel_rfl) ?_ _
     go_wp2_with fail
     go_meet
     exact ⟨O, ua, uc, va, vc, VO, VN, rfl, show RB < O by omega, HR6.out, HEO6.out, HEN6.out⟩
    refine NextZ.cons (o := ⟨some 3, _, _, _, _, _⟩) rfl (fun K hK => ?_) NextZ.nil
    go_simp
    have HA7 := Lib.hid (HAX.out.alloc #[.slice none 0 0, .slice none 0 0, .slice none 0 0] 33)
    have hbz := below_alloc X (.cells #[.slice none 0 0, .slice none 0 0, .slice none 0 0] 33)
    have hOl := (HAX.out.lt (.tail _ (.head _))).2
    have hOr := (HAX.out.lt (.head _)).2
    clear hbz
    refine hK.out _ _ ⟨HA7.out.cell (.tail _ (.tail _ (.head _))) 0, HA7.out.cell (.tail _ (.tail _ (.head _))) 1⟩ (fun hS => ?_)
    clear hK K
    try simp only [Act.put, putA, putZ, putS]
    generalize X.heap.size = O at *
    generalize X.alloc (.cells #[.slice none 0 0, .slice none 0 0, .slice none 0 0] 33) = X7 at *
    refine wpAnyZ_next (rs := [2]) (by kernel_rfl) (by simp) ?_
    refine NextZ.cons (o := ⟨some 7, _, _, _, _, _⟩) rfl (fun K hK => ?_) NextZ.nil
    go_simp
    refine (HCO.out _ HA7.out.fr).mono ?_
    rintro _ X8 ⟨ua, uc, VO, rfl, hown, hqo, hb⟩
    have HA8 := Lib.hid (HA7.out.below hb)
    have HE8 : Hid (ER X8 (.slice ua no uc) no f.O VO) := ⟨own_mono hown (Nat.zero_le _), hqo⟩
    clear hown hqo hb
    (try go_wp2_with fail)
    refine hK.out _ _ ⟨HA8.out.cell (.tail _ (.tail _ (.head _))) 0, HA8.out.cell (.tail _ (.tail _ (.head _))) 1⟩ (fun hS => ?_)
    clear hK K
    try simp only [Act.put, putA, putZ, putS]
    refine wpAnyZ_next (rs := [5]) (by kernel_rfl) (by simp) ?_
    refine NextZ.cons (o := ⟨some 10, _, _, _, _, _⟩) rfl (fun K hK => ?_) NextZ.nil
    go_simp
    refine (HCN.out _ HA8.out.fr).mono ?_
    rintro _ X9 ⟨va, vc, VN, rfl, hown, hqo, hb⟩
    have HA9 := Lib.hid (HA8.out.below hb)
    have HE9 : Hid (ER X9 (.slice va nw vc) nw f.N VN) := ⟨own_mono hown (Nat.zero_le _), hqo⟩
    have HE8_9 := Lib.hid (HE8.out.below hb)
    clear hown hqo hb
    (try go_wp2_with fail)
    refine hK.out _ _ ⟨HA9.out.cell (.tail _ (.tail _ (.head _))) 0, HA9.out.cell (.tail _ (.tail _ (.head _))) 1⟩ (fun hS => ?_)
    clear hK K
    try simp only [Act.put, putA, putZ, putS]
    refine tk [6] ?_
    repeat (refine tkZ (oi := ⟨_, _, _, _, _, _⟩) (v := ?_) rfl (by kernel_rfl) (by rfl) (fun _ _ _ h => h) hS ?_ ?_; rotate_left; (· rintro W' ⟨z0, z1⟩; go_simp; try with_reducible rfl); try simp only [Act.put, putA, putZ, putS])
    refine tk0 ?_
    refine wpAnyZ_next (rs := [8]) (by kernel_rfl) (by simp) ?_
    refine NextZ.last (o := ⟨none, _, _, _, _, _⟩) rfl (by kernel_rfl) (fun K hK => ?_)
    refine step_store_row (by rfl) 33 (.tmp 3) (.tmp 11) (by rfl) O #[.slice ua no uc, .slice va nw vc, .slice none 0 0] (by rfl) (by rfl) 33 #[.slice none 0 0, .slice none 0 0, .slice none 0 0] (HA9.out.bk _ _ _ (.head _)).2 Tryz.sizeFile rfl (by simp [Value.oneCell']) ?_
    have HR10 := Lib.hid (HA9.out.setR (.head _) #[.slice ua no uc, .slice va nw vc, .slice none 0 0] (L' := [(RB, #[.slice none 0 0, .slice none 0 0, .slice none 0 0], 33), (w.heap.size, #[.slice oa no oc, .slice na nw nc, .slice ma nm mc], 25)]) (List.forall_mem_cons.2 ⟨⟨show RB ≠ O by omega, (.tail _ (.head _))⟩, List.forall_mem_cons.2 ⟨⟨show w.heap.size ≠ O by omega, (.tail _ (.tail _ (.head _)))⟩, List.forall_mem_nil _⟩⟩))
    have HT10 := Lib.hid (HA9.out.bk _ _ _ (.head _)).2
    have HEO10 := Lib.hid (HE8_9.out.file HT10.out (Fr.setRow _ O #[.slice ua no uc, .slice va nw vc, .slice none 0 0]))
    have HEN10 := Lib.hid (HE9.out.file HT10.out (Fr.setRow _ O #[.slice ua no uc, .slice va nw vc, .slice none 0 0]))
    refine hK.out _ _ ?_
    clear hK K
    try simp only [Act.put]
    refine wpAnyZ_done (by kernel_rfl) ?_ _
    go_wp2_with fail
    go_meet
    exact ⟨O, ua, uc, va, vc, VO, VN, rfl, show RB < O by omega, HR10.out, HEO10.out, HEN10.out⟩
  case rest =>
    rename World => w1
    obtain ⟨O, ua, uc, va, vc, VO, VN, rfl, hO, hbf, heo, hen⟩ := hcut
    have HA1 := Lib.hid hbf
    have HEO1 := Lib.hid heo
    have HEN1 := Lib.hid hen
    clear hbf heo hen HA0 HAX HCO HCN
    go_wp2_with fail
    go_loopw [4] (fun i wr => ∃ (k : Nat) (wa : Option Addr) (wc : Nat), i = .int .i64 (k : Int) ∧ k ≤ nm ∧ BF w wr [(O, #[.slice ua no uc, .slice va nw vc, .slice wa k wc], 33), (RB, #[.slice none 0 0, .slice none 0 0, .slice none 0 0], 33), (w.heap.size, #[.slice oa no oc, .slice na nw nc, .slice ma nm mc], 25)] ∧ wr.ownsRow w.heap.size 110 2 (.slice wa k wc) k (mvL mf mt k) ∧ ER wr (.slice ua no uc) no f.O VO ∧ ER wr (.slice va nw vc) nw f.N VN) (fun i _ => nm - (intOf i).toNat)
    case atStart => exact ⟨0, none, 0, rfl, Nat.zero_le _, HA1.out, World.ownsRow_nil _ _ _ _, HEO1.out, HEN1.out⟩
    case round =>
      clear HA1 HEO1 HEN1
      obtain ⟨k, wa, wc, rfl, hk, hbf, hw, heo, hen⟩ := hrel
      rename World => wr
      have HA := Lib.hid hbf
      have HW := Lib.hid hw
      have HEO := Lib.hid heo
      have HEN := Lib.hid hen
      clear hbf hw heo hen
      have k2 := HA.out.cell (.tail _ (.tail _ (.head _))) 2
      by_cases hlt : k < nm
      · obtain ⟨b, off, rfl, hb, y0, y1⟩ := HMV.out.at hlt
        have ki : (0 : Int) ≤ (k : Int) := by omega
        have kj : (k : Int) < (nm : Int) := by omega
        have HMS : Hid (∀ (X : World) v, X.ownsRow w.heap.size 110 2 v (k + 1) (mvL mf mt k ++ [.int .i64 (mf k), .int .i64 (mt k)]) → X.ownsRow w.heap.size 110 2 v (k + 1) (mvL mf mt (k + 1))) := fun X v h => by rw [mvL_succ]; exact h
        generalize mf k = p at *
        generalize mt k = q at *
        go_upto_region 5 with fail
        have HA0 := Lib.hid (HA.out.below (Below.refl _ _).drew)
        have HW0 := Lib.hid (own_below HW.out (show Below wr.heap.size wr wr.drew from (Below.refl _ _).drew))
        have HEO0 := Lib.hid (HEO.out.below (Below.refl _ _).drew)
        have HEN0 := Lib.hid (HEN.out.below (Below.refl _ _).drew)
        clear HA HW HEO HEN k2
        refine wp_region_Z (S := fun X => X.cell? ⟨O, 2, none⟩ = some (.slice wa k wc) ∧ X.cell? ⟨w.heap.size, 2, none⟩ = some (.slice (some ⟨b, off, none⟩) nm mc) ∧ X.cell? ⟨b, off + k * 2, none⟩ = some (.int .i64 p) ∧ X.cell? ⟨b, off + k * 2 + 1, none⟩ = some (.int .i64 q)) (by kernel_rfl) ⟨HA0.out.cell (.head _) 2, HA0.out.cell (.tail _ (.tail _ (.head _))) 2, below_cell HA0.out.fr _ _ y0, below_cell HA0.out.fr _ _ y1⟩ (fun hS => ?_)
        generalize wr.drew = X at *
        refine tk [0, 1, 2, 3, 4, 5, 6, 7, 8, 9, 10, 11, 12, 13, 14] ?_
        repeat (refine tkZ (oi := ⟨_, _, _, _, _, _⟩) (v := ?_) rfl (by kernel_rfl) (by rfl) (fun _ _ _ h => h) hS ?_ ?_; rotate_left; (· rintro W' ⟨z0, z1, z2, z3⟩; go_simp; try with_reducible rfl); try simp only [Act.put, putA, putZ, putS])
        refine tk0 ?_
        refine wpAnyZ_next (rs := [15]) (by kernel_rfl) (by simp) ?_
        refine NextZ.cons (o := ⟨some 34, _, _, _, _, _⟩) rfl (fun K hK => ?_) NextZ.nil
        go_simp
        have hbz := below_alloc X (.cells #[.int .i64 p, .int .i64 q] 110)
        have HJ := Lib.hid (World.news_of_block (heap_alloc_new X (.cells #[.int .i64 p, .int .i64 q] 110)))
        have HA1 := Lib.hid (HA0.out.below hbz)
        have HW1 := Lib.hid (own_below HW0.out hbz)
        have HEO1 := Lib.hid (HEO0.out.below hbz)
        have HEN1 := Lib.hid (HEN0.out.below hbz)
        clear hbz HA0 HW0 HEO0 HEN0
        refine hK.out _ _ ⟨HA1.out.cell (.head _) 2, HA1.out.cell (.tail _ (.tail _ (.head _))) 2, below_cell HA1.out.fr _ _ y0, below_cell HA1.out.fr _ _ y1⟩ (fun hS => ?_)
        clear hK K
        try simp only [Act.put, putA, putZ, putS]
        generalize X.heap.size = JB at *
        generalize X.alloc (.cells #[.int .i64 p, .int .i64 q] 110) = X1 at *
        refine wpAnyZ_next (rs := [16]) (by kernel_rfl) (by simp) ?_
        refine NextZ.cons (o := ⟨some 35, _, _, _, _, _⟩) rfl (fun K hK => ?_) NextZ.nil
        have hsz1 := HA1.out.fr.size
        refine step_append_src X1 (by rfl) (.tmp 20) (.tmp 34) 31 (by rfl) w.heap.size 110 i0 (.agg #[.int .i64 0, .int .i64 0]) 2 16 Tryz.underlying31 hi0 hz0 hz1 hz2 rfl (by decide) (.slice wa k wc) k (mvL mf mt k) (by rfl) HW1.out (some ⟨JB, 0, none⟩) 1 1 [.int .i64 p, .int .i64 q] (by rfl) ⟨rfl, fun jj u hu => ⟨_, rfl, HJ.out jj u hu⟩⟩ (by simp [Value.oneCell']) ?c1 ?c2 hsz1 ?_
        case c1 => unfold maxLen; omega
        case c2 => omega
        intro v4 X4 hown hgr _
        obtain ⟨wa2, wc2, rfl⟩ := own_slice' hown
        have HW4 := Lib.hid hown
        have HA4 := Lib.hid (HA1.out.fro (Fr.grown hgr) (fun q hq e => by have := own_low HW1.out e; omega) (fun p hp => own_type_ne HW1.out (HA1.out.bk p.1 p.2.1 p.2.2 hp).2 (by
          simp only [List.mem_cons, List.not_mem_nil, or_false] at hp
          rcases hp with rfl | rfl | rfl <;> simp)))
        have HEO4 := Lib.hid (HEO1.out.grow HW1.out ⟨by decide, by decide, by decide, by decide⟩ hgr)
        have HEN4 := Lib.hid (HEN1.out.grow HW1.out ⟨by decide, by decide, by decide, by decide⟩ hgr)
        clear hown hgr HW1 HA1 HEO1 HEN1
        refine hK.out _ _ ⟨HA4.out.cell (.head _) 2, HA4.out.cell (.tail _ (.tail _ (.head _))) 2, below_cell HA4.out.fr _ _ y0, below_cell HA4.out.fr _ _ y1⟩ (fun hS => ?_)
        clear hK K
        try simp only [Act.put, putA, putZ, putS]
        refine tk [17] ?_
        repeat (refine tkZ (oi := ⟨_, _, _, _, _, _⟩) (v := ?_) rfl (by kernel_rfl) (by rfl) (fun _ _ _ h => h) hS ?_ ?_; rotate_left; (· rintro W' ⟨z0, z1, z2, z3⟩; go_simp; try with_reducible rfl); try simp only [Act.put, putA, putZ, putS])
        refine tk0 ?_
        refine wpAnyZ_next (rs := [18]) (by kernel_rfl) (by simp) ?_
        refine NextZ.last (o := ⟨none, _, _, _, _, _⟩) rfl (by kernel_rfl) (fun K hK => ?_)
        have e0 := HA4.out.cell (.head _) 2
        have f0 := HA4.out.thaw (.head _) 2
        have HT4 := Lib.hid (HA4.out.bk _ _ _ (.head _)).2
        have HA5 := Lib.hid (BF.set1 (i := 2) (cs' := #[.slice ua no uc, .slice va nw vc, .slice wa2 (k + 1) wc2]) HA4.out (.head _) (.slice wa2 (k + 1) wc2) (by simp) rfl (L' := [(RB, #[.slice none 0 0, .slice none 0 0, .slice none 0 0], 33), (w.heap.size, #[.slice oa no oc, .slice na nw nc, .slice (some ⟨b, off, none⟩) nm mc], 25)]) (List.forall_mem_cons.2 ⟨⟨show RB ≠ O by omega, (.tail _ (.head _))⟩, List.forall_mem_cons.2 ⟨⟨show w.heap.size ≠ O by omega, (.tail _ (.tail _ (.head _)))⟩, List.forall_mem_nil _⟩⟩))
        have HW5 := Lib.hid (own_fr HW4.out (Fr.set X4 O 2 (.slice wa2 (k + 1) wc2)) (fun g cur _ _ hc e => by subst e; rw [HT4.out] at hc; cases hc))
        have HEO5 := Lib.hid (HEO4.out.file HT4.out (Fr.set X4 O 2 (.slice wa2 (k + 1) wc2)))
        have HEN5 := Lib.hid (HEN4.out.file HT4.out (Fr.set X4 O 2 (.slice wa2 (k + 1) wc2)))
        go_simp
        refine hK.out _ _ ?_
        clear hK K e0 f0
        try simp only [Act.put]
        refine wpAnyZ_done (by kernel_rfl) ?_ _
        clear hS
        go_wp2_with fail
        go_roundw
        case rel => exact ⟨k + 1, wa2, wc2, by go_num, by omega, HA5.out, HMS.out _ _ HW5.out, HEO5.out, HEN5.out⟩
        case measure => simp [intOf]; omega
      · have hkn : k = nm := by omega
        subst hkn
        have HL := Lib.hid (HA.out.bk _ _ _ (.head _)).2
        have HRR := Lib.hid (HA.out.bk _ _ _ (.tail _ (.head _))).2
        have HSL : Hid ((Tryz.prog.info? 33).map (·.size) = some (#[.slice ua no uc, .slice va nw vc, .slice wa k wc] : Array Value).size) := Tryz.sizeFile
        have HA3 := Lib.hid (HA.out.setR (.tail _ (.head _)) #[.slice ua no uc, .slice va nw vc, .slice wa k wc] (L' := []) (fun _ h => by cases h))
        have hrow := (HA3.out.bk RB _ _ (.head _)).2
        have HES := Lib.hid (HEO.out.file HRR.out (Fr.setRow wr RB #[.slice ua no uc, .slice va nw vc, .slice wa k wc])).es
        have HNS := Lib.hid (HEN.out.file HRR.out (Fr.setRow wr RB #[.slice ua no uc, .slice va nw vc, .slice wa k wc])).es
        have HMS := Lib.hid (mvL_own (own_fr HW.out (Fr.setRow wr RB #[.slice ua no uc, .slice va nw vc, .slice wa k wc]) (fun g cur _ _ hc e => by subst e; rw [HRR.out] at hc; cases hc)))
        have HDO := Lib.hid (HFI.out _ _ _ _ _ _ _ HES.out HNS.out HMS.out)
        go_upto_region 6 with fail
        refine wp_region_lit ?_
        refine wpList_load_row (o := ⟨some 37, _, _, _, _, _⟩) rfl 33 (.tmp 3) rfl O rfl 33 #[.slice ua no uc, .slice va nw vc, .slice wa k wc] (0, 0) _ HL.out Tryz.underlying33 rfl HSL.out ?_
        try simp only [Act.put, putA, putZ, putS]
        go_wp2_with (refine wpList_store_row (o := ⟨none, _, _, _, _, _⟩) rfl 33 (.tmp 2) (.tmp 37) rfl RB #[.slice ua no uc, .slice va nw vc, .slice wa k wc] rfl rfl 33 #[.slice none 0 0, .slice none 0 0, .slice none 0 0] HRR.out HSL.out rfl (by simp [Value.oneCell']) ?_; generalize wr.setRow RB #[.slice ua no uc, .slice va nw vc, .slice wa k wc] = wz at *)
        exact bodyPost_ret (v := .agg #[.slice ua no uc, .slice va nw vc, .slice wa k wc]) (results_cell_row rfl _ _ RB 33 #[.slice ua no uc, .slice va nw vc, .slice wa k wc] (0, 0) _ rfl hrow Tryz.underlying33 rfl HSL.out) rfl ⟨⟨ua, uc, va, vc, wa, wc⟩, rfl, HDO.out, HA3.out.fr⟩
end Go.Proofs.YtgbdbikjckfgmaaGreat
namespace Go.Proofs.YtgbdbikjckfgmaaGreat
open Go.RowKit Go.Shelf
def En.thinB (e : En) : Bool := decide (e.nn ≤ 7) && e.p.thin && !(decide (e.p.fault = 0) && decide (9000 < e.p.hi - e.p.lo))
def thinE (n : Nat) (E : Nat → En) : Bool := decide (n ≤ 11) && allB (fun j => (E j).thinB) n
def Fl.thin (f : Fl) : Bool := thinE f.no f.O && thinE f.nw f.N && decide (f.nm ≤ 19)
set_option maxRecDepth 100000 in
set_option maxHeartbeats 8000000 in
theorem thin5_any (a : Option Addr) (n c : Nat) (E : Nat → En) (w : World) (h : EsQ QR w (.slice a n c) n E) :
    Calls Tryz.prog 55 #[.slice a n c] w fun e w' => e = .returned (.bool (thinE n E)) ∧ Below w.heap.size w w' := by
  have HE := Lib.hid h
  have HF : Hid (∀ k, k < n → (E k).thinB = false → thinE n E = false) := fun k hk h => by unfold thinE; rw [allB_false hk h, Bool.and_false]
  have HT : Hid ((∀ k, k < n → (E k).thinB = true) → thinE n E = decide (n ≤ 11)) := fun h => by unfold thinE; rw [allB_true h, Bool.and_true]
  have HB : Hid (11 < n → thinE n E = false) := fun h => by unfold thinE; rw [decide_eq_false (by omega)]; rfl
  clear h
  generalize thinE n E = r at *
  go_enter Tryz.func55, Tryz.ntmps55
  go_wp2_with fail
  go_loopw [3] (fun i wr => ∃ k : Nat, i = .int .i64 (k : Int) ∧ k ≤ n ∧ k ≤ 12 ∧ (∀ j, j < k → (E j).thinB = true) ∧ Below w.heap.size w wr) (fun i _ => n - (intOf i).toNat)
  case atStart => exact ⟨0, rfl, Nat.zero_le _, Nat.zero_le _, fun q h => absurd h (Nat.not_lt_zero _), Below.refl _ _⟩
  case round =>
    obtain ⟨k, rfl, hk, hk12, hall, hbl⟩ := hrel
    rename World => wx
    have HALL := Lib.hid hall
    have HBL := Lib.hid hbl
    clear hall hbl
    by_cases hlt : k < n
    · have hltI : (k : Int) < (n : Int) := by omega
      by_cases hl12 : k < 12
      · have hl12I : (k : Int) < 12 := by omega
        obtain ⟨b, off, rv, cv, nv, rfl, hb, x7, hq⟩ := (EsQ.below QR.k HE.out HBL.out).at hlt
        obtain ⟨x0, x1, x2, x3, x4, x5, x6⟩ := x7
        obtain ⟨na, nd, rfl⟩ := hq.2.2.1.slice
        obtain ⟨ra, rd, rfl⟩ := hq.1.slice
        obtain ⟨ca, cd, rfl⟩ := hq.2.1.slice
        have ki : (0 : Int) ≤ (k : Int) := by omega
        have HTH := Lib.hid (fun X (hX : Below wx.heap.size wx X) => thin_any _ (E k).p X (QR.k _ _ _ _ _ _ hq hX).pers)
        have HFA := Lib.hid (fun X (hX : Below wx.heap.size wx X) => refFault_any _ (E k).p X (QR.k _ _ _ _ _ _ hq hX).pers)
        have HK := Lib.hid (HF.out k hlt)
        have HKE : Hid ((E k).thinB = (decide ((E k).nn ≤ 7) && (E k).p.thin && !(decide ((E k).p.fault = 0) && decide (9000 < (E k).p.hi - (E k).p.lo)))) := rfl
        have HRG : Hid ((E k).p.fault = 0 → -50000 ≤ (E k).p.lo ∧ (E k).p.lo ≤ 50000 ∧ -50000 ≤ (E k).p.hi ∧ (E k).p.hi ≤ 50000) := fun h => by
          obtain ⟨_, _, _, p1, p2, p3, p4, p5, _⟩ := Pers.ok_facts h
          omega
        have HST := Lib.hid (fun X (hX : Below wx.heap.size wx X) => show X.cell? ⟨b, off + k * 7, none⟩ = some (.int .i64 (E k).p.lo) ∧ X.cell? ⟨b, off + k * 7 + 1, none⟩ = some (.int .i64 (E k).p.hi) ∧ X.cell? ⟨b, off + k * 7 + 2, none⟩ = some (.slice ra (E k).p.nr rd) ∧ X.cell? ⟨b, off + k * 7 + 3, none⟩ = some (.slice ca (E k).p.nc cd) from ⟨below_cell hX _ _ x0, below_cell hX _ _ x1, below_cell hX _ _ x2, below_cell hX _ _ x3⟩)
        clear hq
        generalize (E k).p.lo = lo at *
        generalize (E k).p.hi = hi at *
        generalize (E k).sex = sx at *
        generalize (E k).pl = pl at *
        generalize (E k).p.nr = nr at *
        generalize (E k).p.nc = nc at *
        generalize (E k).nn = nn at *
        generalize (E k).p.thin = th at *
        generalize (E k).p.fault = ft at *
        have HA := Lib.hid ((BF.base wx).alloc #[.int .i64 lo, .int .i64 hi] 71)
        by_cases h7 : 7 < nn
        · have h7I : (7 : Int) < (nn : Int) := by omega
          have HR := Lib.hid (HK.out (by rw [HKE.out, decide_eq_false (by omega)]; rfl))
          go_wp2_with fail
          go_ret
          exact ⟨ret_bool HR.out.symm, HBL.out.trans (HA.out.fr.mono HBL.out.size)⟩
        have h7I : ¬ (7 : Int) < (nn : Int) := by omega
        have HD7 : Hid (decide (nn ≤ 7) = true) := decide_eq_true (by omega)
        go_wp2_with fail
        refine (HTH.out _ HA.out.fr).mono ?_
        rintro _ w2 ⟨rfl, hb2⟩
        have HA2 := Lib.hid (HA.out.below hb2)
        clear hb2 HA HTH
        obtain ⟨y0, y1, y2, y3⟩ := HST.out _ HA2.out.fr
        cases th
        · have HR := Lib.hid (HK.out (by rw [HKE.out, Bool.and_false]; rfl))
          go_wp2_with fail
          go_ret
          exact ⟨ret_bool HR.out.symm, HBL.out.trans (HA2.out.fr.mono HBL.out.size)⟩
        go_wp2_with fail
        refine (HFA.out _ HA2.out.fr).mono ?_
        rintro _ w3 ⟨rfl, hb3⟩
        have HA3 := Lib.hid (HA2.out.below hb3)
        clear hb3 HA2 HFA y0 y1 y2 y3
        by_cases h0 : ft = 0
        · have h0b : (ft == 0) = true := by simp [h0]
          obtain ⟨g1, g2, g3, g4⟩ := HRG.out h0
          have hw : IntKind.i64.wrap (hi - lo) = hi - lo := IntWalk.i64_in _ (by omega)
          have e0 := HA3.out.cell (.head _) 0
          have e1 := HA3.out.cell (.head _) 1
          have HD0 : Hid (decide (ft = 0) = true) := decide_eq_true h0
          clear h0
          by_cases h9 : 9000 < hi - lo
          · have HR := Lib.hid (HK.out (by rw [HKE.out, HD0.out, decide_eq_true h9]; simp))
            go_wp2_with fail
            go_ret
            exact ⟨ret_bool HR.out.symm, HBL.out.trans (HA3.out.fr.mono HBL.out.size)⟩
          · have HX : Hid ((E k).thinB = true) := by unfold Hid; rw [HKE.out, HD7.out, decide_eq_false h9]; simp
            go_wp2_with fail
            go_roundw
            case rel => exact ⟨k + 1, by go_num, by omega, by omega, (fun q hq => by rcases Nat.lt_succ_iff_lt_or_eq.1 hq with h | rfl; exact HALL.out q h; exact HX.out), HBL.out.trans (HA3.out.fr.mono HBL.out.size)⟩
            case measure => simp [intOf]; omega
        · have h0b : (ft == 0) = false := by simp [h0]
          have HX : Hid ((E k).thinB = true) := by unfold Hid; rw [HKE.out, HD7.out, decide_eq_false h0]; simp
          clear h0
          go_wp2_with fail
          go_roundw
          case rel => exact ⟨k + 1, by go_num, by omega, by omega, (fun q hq => by rcases Nat.lt_succ_iff_lt_or_eq.1 hq with h | rfl; exact HALL.out q h; exact HX.out), HBL.out.trans (HA3.out.fr.mono HBL.out.size)⟩
          case measure => simp [intOf]; omega
      · have hl12I : ¬ (k : Int) < 12 := by omega
        have HR := Lib.hid (HB.out (by omega))
        have hnI : ¬ (n : Int) ≤ 11 := by omega
        go_wp2_with fail
        go_ret
        exact ⟨ret_bool (by simp [HR.out] <;> omega), HBL.out⟩
    · have hltI : ¬ (k : Int) < (n : Int) := by omega
      have HR := Lib.hid (HT.out (fun j hj => HALL.out j (by omega)))
      go_wp2_with fail
      go_ret
      exact ⟨ret_bool (by rw [HR.out, decide_eq_decide]; omega), HBL.out⟩
set_option maxHeartbeats 4000000 in
theorem thinF_any (x : FV) (f : Fl) (w : World) (h : FlQ QR w x f) :
    Calls Tryz.prog 18 #[.agg #[.slice x.oa f.no x.oc, .slice x.na f.nw x.nc, .slice x.ma f.nm x.mc]] w fun e w' => e = .returned (.bool f.thin) ∧ Below w.heap.size w w' := by
  have HA := Lib.hid ((BF.base w).alloc #[.slice x.oa f.no x.oc, .slice x.na f.nw x.nc, .slice x.ma f.nm x.mc] 25)
  have HO := Lib.hid (fun X (hX : Below w.heap.size w X) => thin5_any _ _ _ _ X (h.o.below QR.k hX))
  have HN := Lib.hid (fun X (hX : Below w.heap.size w X) => thin5_any _ _ _ _ X (h.n.below QR.k hX))
  have HR : Hid (f.thin = (thinE f.no f.O && thinE f.nw f.N && decide (f.nm ≤ 19))) := rfl
  clear h
  generalize f.thin = r at *
  generalize thinE f.no f.O = r1 at *
  generalize thinE f.nw f.N = r2 at *
  generalize f.no = no at *
  generalize f.nw = nw at *
  generalize f.nm = nm at *
  go_enter Tryz.func18, Tryz.ntmps18
  go_wp2_with fail
  refine (HO.out _ HA.out.fr).mono ?_
  rintro _ w2 ⟨rfl, hb⟩
  have HA2 := Lib.hid (HA.out.below hb)
  clear hb HA
  have e1 := HA2.out.cell (.head _) 1
  cases r1
  · go_wp2_with fail
    go_ret
    exact ⟨ret_bool (by rw [HR.out]; rfl), HA2.out.fr⟩
  go_wp2_with fail
  refine (HN.out _ HA2.out.fr).mono ?_
  rintro _ w3 ⟨rfl, hb⟩
  have HA3 := Lib.hid (HA2.out.below hb)
  clear hb HA2 e1
  have e2 := HA3.out.cell (.head _) 2
  cases r2
  · go_wp2_with fail
    go_ret
    exact ⟨ret_bool (by rw [HR.out]; rfl), HA3.out.fr⟩
  go_wp2_with fail
  go_ret
  exact ⟨ret_bool (by rw [HR.out]; simp <;> omega), HA3.out.fr⟩
end Go.Proofs.YtgbdbikjckfgmaaGreat
namespace Go.Proofs.YtgbdbikjckfgmaaGreat
open Go.RowKit Go.Shelf
theorem Tryz.sizeLEntry : (Tryz.prog.info? 100).map (·.size) = some 7 := by kernel_rfl
def zL (l : List Int) (j : Nat) : Int := l.getD j 0
/-- An entry of the chapter. -/
def enT (sx pl lo hi : Int) (n : Nat) (z : Nat → Int) : En := ⟨⟨lo, hi, 1, fun _ => ⟨0, 1, 0, 0⟩, 0, fun _ => ⟨0, 0, 0⟩⟩, sx, n, z, pl⟩
end Go.Proofs.YtgbdbikjckfgmaaGreat
