/- Link: drawn regions whose last operations need not keep the state, by way of others. | Link: skipped pairs; a file at work in memory. -/
import Derived.Test.YtgbdbikjckfgmaaGreatWG
import Derived.Test.YtgbdbikjckfgmaaGreatM3
namespace Go.Proofs.YtgbdbikjckfgmaaGreat
open Go.RowKit Go.Shelf
section
variable {P : Program} {ops : Array Oper} {Q : Exit → Act → World → Prop} {md : Region.Mode} {S : World → Prop} {ex : List Nat}
/-- The operations that wait for i, by way of others too. -/
def depU (md : Region.Mode) (ops : Array Oper) (i : Nat) : List Nat :=
  (List.range ops.size).foldl (fun U k => if waitsFor md ops i k || U.any (fun q => waitsFor md ops q k) then U ++ [k] else U) []
def exU (md : Region.Mode) (ops : Array Oper) (ex : List Nat) (l : Array Bool) (i : Nat) : Bool :=
  (ex.all fun j => j == i || (depU md ops i).contains j) && (depU md ops i).all fun k => (l.getD k true == false) && (waitsFor md ops i k || (depU md ops i).any fun q => waitsFor md ops q k)
theorem wpAnyE_aheadU {i : Nat} {oi : Oper} {v : Value} (U : List Nat) (hU : ∀ k, k ∈ U → waitsFor md ops i k = true ∨ ∃ q, q ∈ U ∧ waitsFor md ops q k = true) (hex : ∀ j, ex.contains j = true → j = i ∨ j ∈ U)
    (hi : ops[i]? = some oi) (hsel : Region.noSelect ops = true) (hQ : ∀ c a w, Q (.panic c) (a.put oi.dst v) w → Q (.panic c) a w) :
    ∀ (f : Nat) (l : Array Bool) (a : Act) (w : World), (∀ k, k ∈ U → l.getD k true = false) →
      (∀ j oj, ops[j]? = some oj → j ≠ i → l.getD j true = false → (∀ e ∈ oj.after, Region.binds md e = true → e.on ≠ i) → oi.apart ops oj = true) →
      i ∈ Region.ready md ops l → YieldsIf P ops S oi v a → S w → wpAnyE P md ops Q S ex f (l.setIfInBounds i true) (a.put oi.dst v) w → wpAnyE P md ops Q S ex (f + 1) l a w := by
  have hs := Region.noSelect_spec hsel
  have hil : i < ops.size := (Array.getElem?_eq_some_iff.1 hi).1
  intro f
  induction f with
  | zero =>
    intro l a w _ _ hr hy hS H
    refine ⟨fun h => absurd hr (by rw [h]; exact List.not_mem_nil), fun j hj => ?_⟩
    rcases Nat.decEq j i with hne | he
    · have h0 := ready_mono hj hne
      rw [H.1] at h0; exact absurd h0 List.not_mem_nil
    · subst he; exact hy.wpOp hi hS ⟨.inr hS, H⟩
  | succ f ih =>
    intro l a w hl hfree hr hy hS H
    refine ⟨fun h => absurd hr (by rw [h]; exact List.not_mem_nil), fun j hj => ?_⟩
    rcases Nat.decEq j i with hne | he
    · obtain ⟨hju, oj, hoj, hall⟩ := mem_ready.1 hj
      have hiu := (mem_ready.1 hr).1
      have hlist : ¬ l.getD i false = true := fun h => by
        rcases Nat.lt_or_ge i l.size with h' | h'
        · simp only [Array.getD, h', dif_pos] at hiu h; rw [hiu] at h; cases h
        · simp [Array.getD, Nat.not_lt.2 h'] at h
      have hlistU : ∀ k, k ∈ U → ¬ l.getD k false = true := fun k hk h => by
        have hku := hl k hk
        rcases Nat.lt_or_ge k l.size with h' | h'
        · simp only [Array.getD, h', dif_pos] at hku h; rw [hku] at h; cases h
        · simp [Array.getD, Nat.not_lt.2 h'] at h
      have hno : ∀ e ∈ oj.after, Region.binds md e = true → e.on ≠ i := fun e he hb heq => hlist (heq ▸ hall e he hb)
      have hjU : ¬ j ∈ U := fun h => by
        rcases hU j h with h1 | ⟨q, hq, h1⟩
        · obtain ⟨e, he, hb, heq⟩ := waitsFor_spec hoj h1
          exact hno e he hb heq
        · obtain ⟨e, he, hb, heq⟩ := waitsFor_spec hoj h1
          exact hlistU q hq (heq ▸ hall e he hb)
      have hnl : ¬ ex.contains j = true := fun h => by
        rcases hex j h with h1 | h1
        · exact hne h1
        · exact hjU h1
      have h2 := wpOp_putIf hoj (hfree j oj hoj hne hju hno) (fun cs b => hs i oi cs b hi) (fun cs b => hs j oj cs b hoj) hQ hy (H.2 j (ready_mono hj hne))
      refine wpOp_mono (fun a' w' h3 => ?_) h2
      obtain ⟨hy', hw', hz⟩ := h3
      have hS' : S w' := hw'.resolve_left hnl
      refine ⟨.inr hS', ih (l.setIfInBounds j true) a' w' (fun k hk => ?_) (fun k ok hk hki hun hn => hfree k ok hk hki ?_ hn) (ready_mono hr (fun q => hne q.symm)) hy' hS' ?_⟩
      · have hjk : j ≠ k := fun e => hjU (by rw [e]; exact hk)
        rw [getD_set_ne true hjk]; exact hl k hk
      · rcases Nat.decEq j k with hjk | hjk
        · rwa [getD_set_ne true hjk] at hun
        · subst hjk; exact hju
      · rw [Array.setIfInBounds_comm _ _ hne]; exact hz
    · subst he; exact hy.wpOp hi hS ⟨.inr hS, H⟩
theorem exU_spec {l : Array Bool} {i : Nat} (h : exU md ops ex l i = true) : (∀ j, ex.contains j = true → j = i ∨ j ∈ depU md ops i) ∧ (∀ k, k ∈ depU md ops i → l.getD k true = false) ∧ ∀ k, k ∈ depU md ops i → waitsFor md ops i k = true ∨ ∃ q, q ∈ depU md ops i ∧ waitsFor md ops q k = true := by
  unfold exU at h
  rw [Bool.and_eq_true, List.all_eq_true, List.all_eq_true] at h
  refine ⟨fun j hj => ?_, fun k hk => ?_, fun k hk => ?_⟩
  · have := h.1 j (by simpa using hj)
    simpa using this
  · have := h.2 k hk
    rw [Bool.and_eq_true] at this
    simpa using this.1
  · have := h.2 k hk
    rw [Bool.and_eq_true, Bool.or_eq_true, List.any_eq_true] at this
    exact this.2
theorem tU (i : Nat) {oi : Oper} {v : Value} {f : Nat} {l : Array Bool} {a : Act} {w : World} (hi : ops[i]? = some oi) (hb : (tB md ops l i && exU md ops ex l i) = true) (hg : Region.wanted oi (yielded ops a.tmps) = true)
    (hQ : ∀ c a w, Q (.panic c) (a.put oi.dst v) w → Q (.panic c) a w) (hS : S w) (hy : ∀ w, S w → (execOp a.eval oi).run P w = .ok (.value v) w)
    (h : wpAnyE P md ops Q S ex f (l.setIfInBounds i true) (a.put oi.dst v) w) : wpAnyE P md ops Q S ex (f + 1) l a w := by
  rw [Bool.and_eq_true] at hb
  obtain ⟨h1, h2⟩ := hb
  unfold tB at h1
  rw [Bool.and_eq_true, Bool.and_eq_true] at h1
  obtain ⟨a1, a2, a3⟩ := exU_spec h2
  exact wpAnyE_aheadU (depU md ops i) a3 a1 hi h1.1.1 hQ f l a w a2 (Region.free_spec hi h1.1.2) (by simpa using h1.2) (.inl ⟨hg, hy⟩) hS h
theorem tkU {i : Nat} {is : List Nat} {oi : Oper} {v : Value} {f : Nat} {l : Array Bool} {a : Act} {w : World} (hi : ops[i]? = some oi) (hb : (tB md ops l i && exU md ops ex l i) = true) (hg : Region.wanted oi (yielded ops a.tmps) = true)
    (hQ : ∀ c a w, Q (.panic c) (a.put oi.dst v) w → Q (.panic c) a w) (hS : S w) (hy : ∀ w, S w → (execOp a.eval oi).run P w = .ok (.value v) w)
    (h : Tk is (wpAnyE P md ops Q S ex f (l.setIfInBounds i true) (a.put oi.dst v) w)) : Tk (i :: is) (wpAnyE P md ops Q S ex (f + 1) l a w) := ⟨tU i hi hb hg hQ hS hy h.out⟩
/-- An operation whose guard says no. -/
theorem sU (i : Nat) {oi : Oper} {f : Nat} {l : Array Bool} {a : Act} {w : World} (hi : ops[i]? = some oi) (hb : (tB md ops l i && exU md ops ex l i) = true) (hg : Region.wanted oi (yielded ops a.tmps) = false)
    (hQ : ∀ c a w, Q (.panic c) (a.put oi.dst undef) w → Q (.panic c) a w) (hS : S w)
    (h : wpAnyE P md ops Q S ex f (l.setIfInBounds i true) (a.put oi.dst undef) w) : wpAnyE P md ops Q S ex (f + 1) l a w := by
  rw [Bool.and_eq_true] at hb
  obtain ⟨h1, h2⟩ := hb
  unfold tB at h1
  rw [Bool.and_eq_true, Bool.and_eq_true] at h1
  obtain ⟨a1, a2, a3⟩ := exU_spec h2
  exact wpAnyE_aheadU (depU md ops i) a3 a1 hi h1.1.1 hQ f l a w a2 (Region.free_spec hi h1.1.2) (by simpa using h1.2) (.inr ⟨hg, rfl⟩) hS h
end
end Go.Proofs.YtgbdbikjckfgmaaGreat

namespace Go.Proofs.YtgbdbikjckfgmaaGreat
open Go.RowKit Go.Shelf

set_option maxHeartbeats 2000000 in
theorem skips_any (a b : Int) (i k : Nat) (w : World) : Calls Tryz.prog 113 #[.agg #[.int .i64 a, .int .i64 b], .int .i64 (i : Int), .int .i64 (k : Int)] w fun e w' => e = .returned (.bool (skB (a, b) i k)) ∧ Below w.heap.size w w' := by
  obtain ⟨r, hr⟩ : ∃ r, skB (a, b) i k = r := ⟨_, rfl⟩
  have HR : Hid (skB (a, b) i k = r) := hr
  unfold skB at hr
  simp only at hr
  rw [HR.out]
  by_cases ha : a = -1
  · by_cases hb : b = -1
    · rw [if_pos ⟨ha, hb⟩] at hr
      have a1 : (a == -1) = true := by simp [ha]
      have b1 : (b == -1) = true := by simp [hb]
      have HQ := Lib.hid hr
      clear ha hb hr
      go_enter Tryz.func113, Tryz.ntmps113
      go_wp2
      go_ret
      exact ⟨ret_bool HQ.out, below_alloc _ _⟩
    · rw [if_neg (fun h => hb h.2), if_pos ha] at hr
      have a1 : (a == -1) = true := by simp [ha]
      have b1 : (b == -1) = false := by simpa using hb
      have HQ := Lib.hid hr
      clear ha hb hr
      go_enter Tryz.func113, Tryz.ntmps113
      go_wp2
      go_ret
      exact ⟨ret_bool (by rw [← HQ.out, Bool.eq_iff_iff]; simp), below_alloc _ _⟩
  · rw [if_neg (fun h => ha h.1), if_neg ha] at hr
    have a1 : (a == -1) = false := by simpa using ha
    by_cases hb : b = -1
    · rw [if_pos hb] at hr
      have b1 : (b == -1) = true := by simp [hb]
      have HQ := Lib.hid hr
      clear ha hb hr
      go_enter Tryz.func113, Tryz.ntmps113
      go_wp2
      go_ret
      exact ⟨ret_bool (by rw [← HQ.out, Bool.eq_iff_iff]; simp), below_alloc _ _⟩
    · rw [if_neg hb] at hr
      have b1 : (b == -1) = false := by simpa using hb
      have HQ := Lib.hid hr
      clear ha hb hr
      cases hi : ((i : Int) == a)
      all_goals
        have HI := Lib.hid hi
        go_enter Tryz.func113, Tryz.ntmps113
        go_wp2
        go_ret
        exact ⟨ret_bool (by have := HI.out; rw [← HQ.out, Bool.eq_iff_iff]; simp at this; simp [this]), below_alloc _ _⟩
/-- Skips in memory. -/
def SkIn (w : World) (sv : Value) (L : List (Int × Int)) : Prop := RsIn w sv L.length (fun j => (L.getD j (0, 0)).1) (fun j => (L.getD j (0, 0)).2)
theorem SkIn.below {w w' : World} {sv : Value} {L : List (Int × Int)} (h : SkIn w sv L) (hB : Below w.heap.size w w') : SkIn w' sv L := RsIn.below h hB
theorem SkIn.nil (w : World) (a : Option Addr) (c : Nat) : SkIn w (.slice a 0 c) [] := .inl ⟨_, _, rfl, rfl⟩
theorem SkIn.slice {w : World} {sv : Value} {L : List (Int × Int)} (h : SkIn w sv L) : ∃ a cap, sv = .slice a L.length cap := RsIn.slice h
set_option maxHeartbeats 1000000 in
theorem closure_skip (bi bk : Nat) (a b : Int) (i k : Nat) (w : World) (hi : w.cell? ⟨bi, 0, none⟩ = some (.int .i64 (i : Int))) (hk : w.cell? ⟨bk, 0, none⟩ = some (.int .i64 (k : Int))) (li : bi < w.heap.size) (lk : bk < w.heap.size) :
    Calls Tryz.prog 112 #[.agg #[.int .i64 a, .int .i64 b], .pointer (some ⟨bi, 0, none⟩), .pointer (some ⟨bk, 0, none⟩)] w fun e w' => e = .returned (.bool (skB (a, b) i k)) ∧ Below w.heap.size w w' := by
  go_enter Tryz.func112, Tryz.ntmps112
  go_wp2_with (go_at_call 113; refine (skips_any _ _ _ _ _).mono ?_; rintro e w2 ⟨rfl, hb⟩)
  go_ret
  have HBZ := Lib.hid ((below_alloc w _).trans (hb.mono (by simp)))
  exact ⟨rfl, HBZ.out⟩
def IdxP (p : Nat → Bool) (n : Nat) (w : World) (e : Ending) (w' : World) : Prop := ∃ r : Int, e = .returned (.int .i64 r) ∧ decide (0 ≤ r) = !allB p n ∧ Below w.heap.size w w'
set_option maxHeartbeats 1000000 in
theorem indexFunc_skip (bi bk n : Nat) (a : Option Addr) (cap : Nat) (p q : Nat → Int) (i0 k0 : Nat) (w : World) (hlen : n ≤ 100000) (hi : w.cell? ⟨bi, 0, none⟩ = some (.int .i64 (i0 : Int))) (hk : w.cell? ⟨bk, 0, none⟩ = some (.int .i64 (k0 : Int))) (hz : RsIn w (.slice a n cap) n p q) :
    Calls Tryz.prog 137 #[.slice a n cap, .func (.func 112) #[] #[.pointer (some ⟨bi, 0, none⟩), .pointer (some ⟨bk, 0, none⟩)]] w (IdxP (fun j => !skB (p j, q j) i0 k0) n w) := by
  have HZ := Lib.hid hz; clear hz
  have li := World.block_lt_of_cell? _ _ hi
  have lk := World.block_lt_of_cell? _ _ hk
  have HV := Lib.hid (fun W (hW : Below w.heap.size w W) (x y : Int) => closure_skip bi bk x y i0 k0 W (kept hW li hi) (kept hW lk hk) (Nat.lt_of_lt_of_le li hW.size) (Nat.lt_of_lt_of_le lk hW.size))
  clear hi hk li lk
  go_enter Tryz.func137, Tryz.ntmps137
  go_wp2
  go_loopw [8] (fun i wr => ∃ k : Nat, k ≤ n ∧ i = .int .i64 k ∧ (∀ j, j < k → (!skB (p j, q j) i0 k0) = true) ∧ Below w.heap.size w wr) (fun i _ => n - (intOf i).toNat)
  case atStart => exact ⟨0, Nat.zero_le _, rfl, fun q h => absurd h (Nat.not_lt_zero _), Below.refl _ _⟩
  case round =>
    obtain ⟨k, hk, rfl, hall, hbl⟩ := hrel
    have HA := Lib.hid hall; clear hall
    have HB := Lib.hid hbl; clear hbl
    by_cases hlt : k < n
    · obtain ⟨b, off, rfl, hb, x0, x1⟩ := (HZ.out.below HB.out).at hlt
      cases hin : skB (p k, q k) i0 k0
      · have HI := Lib.hid hin
        go_wp2_with (go_at_call 112; refine (HV.out _ HB.out (p k) (q k)).mono ?_; rintro r w2 ⟨rfl, hb2⟩)
        go_roundw
        case rel => exact ⟨k + 1, by omega, by go_num, (fun q hq => by rcases Nat.lt_succ_iff_lt_or_eq.1 hq with h | rfl; exact HA.out q h; rw [HI.out]; rfl), HB.out.trans (hb2.mono HB.out.size)⟩
        case measure => simp [intOf]; omega
      · have HI := Lib.hid hin
        go_wp2_with (go_at_call 112; refine (HV.out _ HB.out (p k) (q k)).mono ?_; rintro r w2 ⟨rfl, hb2⟩)
        go_ret
        exact ⟨_, rfl, by rw [allB_false hlt (by rw [HI.out]; rfl)]; simp, HB.out.trans (hb2.mono HB.out.size)⟩
    · obtain rfl : k = n := by omega
      go_wp2
      go_ret
      exact ⟨_, rfl, by rw [allB_true HA.out]; rfl, HB.out⟩
set_option maxHeartbeats 1000000 in
theorem containsFunc_skip (bi bk : Nat) (a : Option Addr) (cap : Nat) (L : List (Int × Int)) (i k : Nat) (w : World) (hlen : L.length ≤ 100000) (hi : w.cell? ⟨bi, 0, none⟩ = some (.int .i64 (i : Int))) (hk : w.cell? ⟨bk, 0, none⟩ = some (.int .i64 (k : Int))) (hz : SkIn w (.slice a L.length cap) L) :
    Calls Tryz.prog 111 #[.slice a L.length cap, .func (.func 112) #[] #[.pointer (some ⟨bi, 0, none⟩), .pointer (some ⟨bk, 0, none⟩)]] w fun e w' => e = .returned (.bool (SK L i k)) ∧ Below w.heap.size w w' := by
  have HI := Lib.hid (indexFunc_skip bi bk L.length a cap _ _ i k w hlen hi hk hz); clear hi hk hz
  have HE : Hid ((!allB (fun j => !skB ((L.getD j (0, 0)).1, (L.getD j (0, 0)).2) i k) L.length) = SK L i k) := (SK_all L i k).symm
  generalize L.length = n at *
  go_enter Tryz.func111, Tryz.ntmps111
  go_wp2_with (go_at_call 137; refine HI.out.mono ?_; rintro e w' ⟨r, rfl, hr, hb⟩; have HR := Lib.hid hr; clear hr)
  go_ret
  exact ⟨ret_bool (HR.out.trans HE.out), hb⟩
/-- Rows of numbers in memory. -/
def nz (l : List Nat) (j : Nat) : Int := ((l.getD j 0 : Nat) : Int)
def RowsAt (w : World) (sv : Value) (n : Nat) (P : Nat → List Nat) : Prop :=
  (∃ a cap, sv = .slice a 0 cap ∧ n = 0) ∨ ∃ b off cap, sv = .slice (some ⟨b, off, none⟩) n cap ∧ b < w.heap.size ∧ ∀ i, i < n → ∃ a c, w.cell? ⟨b, off + i, none⟩ = some (.slice a (P i).length c) ∧ IntsIn w (.slice a (P i).length c) (P i).length (nz (P i))
theorem RowsAt.below {w w' : World} {sv : Value} {n : Nat} {P : Nat → List Nat} (h : RowsAt w sv n P) (hB : Below w.heap.size w w') : RowsAt w' sv n P := by
  rcases h with h | ⟨b, off, cap, rfl, hb, hz⟩
  · exact .inl h
  · refine .inr ⟨b, off, cap, rfl, Nat.lt_of_lt_of_le hb hB.size, fun i hi => ?_⟩
    obtain ⟨a, c, h1, h2⟩ := hz i hi
    exact ⟨a, c, kept hB hb h1, h2.below hB⟩
theorem RowsAt.at {w : World} {a : Option Addr} {n cap : Nat} {P : Nat → List Nat} (h : RowsAt w (.slice a n cap) n P) {k : Nat} (hk : k < n) : ∃ b off r c, a = some ⟨b, off, none⟩ ∧ b < w.heap.size ∧ w.cell? ⟨b, off + k, none⟩ = some (.slice r (P k).length c) ∧ IntsIn w (.slice r (P k).length c) (P k).length (nz (P k)) := by
  rcases h with ⟨_, _, _, h⟩ | ⟨b', o', c', e, hb, hz⟩
  · omega
  · cases e
    obtain ⟨r, c, h1, h2⟩ := hz k hk
    exact ⟨_, _, r, c, rfl, hb, h1, h2⟩
/-- A file at work. -/
structure WkV where
  oa : Option Addr
  oc : Nat
  na : Option Addr
  nc : Nat
  ms : Value
  mm : Value
  pa : Option Addr
  pc : Nat
def WkV.cs (x : WkV) (no nw : Nat) : Array Value := #[.slice x.oa no x.oc, .slice x.na nw x.nc, x.ms, x.mm, .slice x.pa no x.pc]
structure WkAt (w : World) (B : Nat) (x : WkV) (no nw : Nat) (P : Nat → List Nat) : Prop where
  c0 : w.cell? ⟨B, 0, none⟩ = some (.slice x.oa no x.oc)
  c1 : w.cell? ⟨B, 1, none⟩ = some (.slice x.na nw x.nc)
  c4 : w.cell? ⟨B, 4, none⟩ = some (.slice x.pa no x.pc)
  rows : RowsAt w (.slice x.pa no x.pc) no P
theorem WkAt.lt {w : World} {B : Nat} {x : WkV} {no nw : Nat} {P : Nat → List Nat} (h : WkAt w B x no nw P) : B < w.heap.size := World.block_lt_of_cell? _ _ h.c0
theorem WkAt.below {w w' : World} {B : Nat} {x : WkV} {no nw : Nat} {P : Nat → List Nat} (h : WkAt w B x no nw P) (hB : Below w.heap.size w w') : WkAt w' B x no nw P :=
  ⟨kept hB h.lt h.c0, kept hB h.lt h.c1, kept hB h.lt h.c4, h.rows.below hB⟩
end Go.Proofs.YtgbdbikjckfgmaaGreat
