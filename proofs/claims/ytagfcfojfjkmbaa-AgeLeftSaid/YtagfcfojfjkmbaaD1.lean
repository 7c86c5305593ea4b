/- between, rules, somebody, ints. -/
import Derived.Test.YtagfcfojfjkmbaaD0
namespace Go.Proofs.Ytagfcfojfjkmbaa
open Go.RowKit Go.Shelf

set_option maxHeartbeats 1000000 in
theorem between_any (lo hi : Int) (w : World) : Calls Try.prog 41 #[.int .i64 lo, .int .i64 hi] w fun e w' => e = .returned (.agg #[.int .i64 lo, .int .i64 hi]) ∧ Below w.heap.size w w' := by
  go_enter Try.func41, Try.ntmps41
  go_wp2
  exact bodyPost_ret (v := .agg #[.int .i64 lo, .int .i64 hi]) (by simp [results, Try.results41, go_sem]) rfl ⟨rfl, below_alloc _ _⟩

set_option maxHeartbeats 1000000 in
theorem rules_any (w : World) : Calls Try.prog 60 #[] w fun e w' => e = .returned (.slice (some ⟨w.heap.size, 0, none⟩) 2 2) ∧ w' = w.alloc (.cells #[.int .i64 0, .int .i64 1, .int .i64 0, .int .i64 0, .int .i64 20, .int .i64 5, .int .i64 1, .int .i64 1] 80) := by
  go_enter Try.func60, Try.ntmps60
  go_wp2
  go_ret
  exact ⟨rfl, rfl⟩

def flatC (l : List Rc) : List Value := l.flatMap fun c => [.int .i64 c.day, .int .i64 c.rule, .int .i64 c.num]
theorem flatC_length (l : List Rc) : (flatC l).length = l.length * 3 := by
  induction l with
  | nil => rfl
  | cons x l ih => simp only [flatC, List.flatMap_cons, List.length_append] at ih ⊢; rw [ih]; simp; omega
theorem flatC_get (l : List Rc) (k : Nat) (hk : k < l.length) : (flatC l)[k * 3]? = some (.int .i64 l[k].day) ∧ (flatC l)[k * 3 + 1]? = some (.int .i64 l[k].rule) ∧ (flatC l)[k * 3 + 2]? = some (.int .i64 l[k].num) := by
  induction l generalizing k with
  | nil => simp at hk
  | cons x l ih =>
    cases k with
    | zero => exact ⟨rfl, rfl, rfl⟩
    | succ k =>
      have := ih k (by simpa using hk)
      have e : ∀ j, (flatC (x :: l))[(k + 1) * 3 + j]? = (flatC l)[k * 3 + j]? := fun j => by rw [show (k + 1) * 3 + j = (k * 3 + j) + 1 + 1 + 1 from by omega]; rfl
      exact ⟨(e 0).trans this.1, (e 1).trans this.2.1, (e 2).trans this.2.2⟩
def flatL (l : List Rl) : List Value := l.flatMap fun c => [.int .i64 c.f, .int .i64 c.b, .int .i64 c.m, .int .i64 c.e]
theorem flatL_length (l : List Rl) : (flatL l).length = l.length * 4 := by
  induction l with
  | nil => rfl
  | cons x l ih => simp only [flatL, List.flatMap_cons, List.length_append] at ih ⊢; rw [ih]; simp; omega
theorem flatL_get (l : List Rl) (k : Nat) (hk : k < l.length) : (flatL l)[k * 4]? = some (.int .i64 l[k].f) ∧ (flatL l)[k * 4 + 1]? = some (.int .i64 l[k].b) ∧ (flatL l)[k * 4 + 2]? = some (.int .i64 l[k].m) ∧ (flatL l)[k * 4 + 3]? = some (.int .i64 l[k].e) := by
  induction l generalizing k with
  | nil => simp at hk
  | cons x l ih =>
    cases k with
    | zero => exact ⟨rfl, rfl, rfl, rfl⟩
    | succ k =>
      have := ih k (by simpa using hk)
      have e : ∀ j, (flatL (x :: l))[(k + 1) * 4 + j]? = (flatL l)[k * 4 + j]? := fun j => by rw [show (k + 1) * 4 + j = (k * 4 + j) + 1 + 1 + 1 + 1 from by omega]; rfl
      exact ⟨(e 0).trans this.1, (e 1).trans this.2.1, (e 2).trans this.2.2.1, (e 3).trans this.2.2.2⟩
/-- A slice of records (of rules) of one's own. -/
def CL (W : World) (v : Value) (l : List Rc) : Prop := W.ownsRow 0 109 3 v l.length (flatC l)
def LL (W : World) (v : Value) (l : List Rl) : Prop := W.ownsRow 0 80 4 v l.length (flatL l)
theorem CL.at {W : World} {v : Value} {l : List Rc} (h : CL W v l) : RcsAt W v l.length (fun j => l.getD j ⟨0, 0, 0⟩) := by
  have h0 := h
  rcases h.2 with ⟨rfl, hl⟩ | ⟨g, cap, cur, rfl, _, hc, _⟩
  · exact .inl ⟨rfl, hl⟩
  · refine .inr ⟨g, 0, cap, rfl, (Array.getElem?_eq_some_iff.1 hc).1, fun j hj => ?_⟩
    have hf := flatC_get l j hj
    have hl := flatC_length l
    unfold CL at h0
    simp only [Nat.zero_add, show l.getD j ⟨0, 0, 0⟩ = l[j] from by simp [hj]]
    rw [h0.cellAt _ (by omega), h0.cellAt _ (by omega), h0.cellAt _ (by omega)]
    exact hf
theorem LL.at {W : World} {v : Value} {l : List Rl} (h : LL W v l) : RlsAt W v l.length (fun j => l.getD j ⟨0, 0, 0, 0⟩) := by
  have h0 := h
  rcases h.2 with ⟨rfl, hl⟩ | ⟨g, cap, cur, rfl, _, hc, _⟩
  · exact .inl ⟨rfl, hl⟩
  · refine .inr ⟨g, 0, cap, rfl, (Array.getElem?_eq_some_iff.1 hc).1, fun j hj => ?_⟩
    have hf := flatL_get l j hj
    have hl := flatL_length l
    unfold LL at h0
    simp only [Nat.zero_add, show l.getD j ⟨0, 0, 0, 0⟩ = l[j] from by simp [hj]]
    rw [h0.cellAt _ (by omega), h0.cellAt _ (by omega), h0.cellAt _ (by omega), h0.cellAt _ (by omega)]
    exact hf
theorem Try.infoRecord : (Try.prog.info? 109).map (fun i => (i.zero, i.size, i.bytes)) = some (some (.agg #[.int .i64 0, .int .i64 0, .int .i64 0]), 3, 24) := by kernel_rfl
theorem Try.infoRule : (Try.prog.info? 80).map (fun i => (i.zero, i.size, i.bytes)) = some (some (.agg #[.int .i64 0, .int .i64 0, .int .i64 0, .int .i64 0]), 4, 32) := by kernel_rfl

theorem flatC_one (l : List Rc) : ∀ u ∈ flatC l, u.oneCell' = true := by
  intro u hu
  simp only [flatC, List.mem_flatMap] at hu
  obtain ⟨c, _, hc⟩ := hu
  simp at hc
  rcases hc with rfl | rfl | rfl <;> rfl

set_option maxRecDepth 100000 in
set_option maxHeartbeats 2000000 in
theorem somebody_any (B n : Nat) (l : List Rc) (w : World) (hn : l.length = n) (h0 : 0 < n) (h1 : n ≤ 100) (hB : w.heap[B]? = some (.cells (flatC l).toArray 109 (0, 0))) :
    Calls Try.prog 61 #[.slice (some ⟨B, 0, none⟩) n n] w fun e w' => ∃ v, e = .returned v ∧ PersAt w' v (someP l) ∧ Below w.heap.size w w' := by
  obtain ⟨i0, hi0, hz0, hz1, hz2⟩ := info_parts Try.infoRecord
  have HN := Lib.hid hn; have HBB := Lib.hid hB
  have hBs := (Array.getElem?_eq_some_iff.1 hB).1
  clear hn hB
  go_enter Try.func61, Try.ntmps61
  go_wp2_with (first
    | (go_at_call 41; refine (between_any _ _ _).mono ?_; rintro e w1 ⟨rfl, hb1⟩)
    | (go_at_call 60; refine (rules_any _).mono ?_; rintro e w2 ⟨rfl, rfl⟩)
    | (at_builtin; refine wpList_append_own _ rfl _ _ 43 rfl 0 109 i0 (.agg #[.int .i64 0, .int .i64 0, .int .i64 0]) 3 24 Try.underlying43 hi0 hz0 hz1 hz2 rfl (by decide) (.slice (some ⟨w1.heap.size + 1, 0, none⟩) 1 1) 1 [.int .i64 10000, .int .i64 1, .int .i64 25] rfl ?own ⟨B, 0, none⟩ n n (flatC l) rfl ?len ?c1 ?c2 ?c3 ?c4 ?c5 ?_))
  case own =>
    refine ⟨rfl, .inr ⟨w1.heap.size + 1, 1, #[.int .i64 10000, .int .i64 1, .int .i64 25], rfl, Nat.zero_le _, ?_, Nat.le_refl _, by unfold maxLen; omega, rfl, rfl⟩⟩
    have := heap_alloc_new (w1.alloc (.cells #[.int .i64 0, .int .i64 1, .int .i64 0, .int .i64 0, .int .i64 20, .int .i64 5, .int .i64 1, .int .i64 1] 80)) (.cells #[.int .i64 10000, .int .i64 1, .int .i64 25] 109)
    rw [World.size_alloc] at this; exact this
  case len => rw [flatC_length, HN.out]
  case c1 =>
    have hb := hb1.size
    simp only [World.size_alloc] at hb
    have e : ((w1.alloc (.cells #[.int .i64 0, .int .i64 1, .int .i64 0, .int .i64 0, .int .i64 20, .int .i64 5, .int .i64 1, .int .i64 1] 80)).alloc (.cells #[.int .i64 10000, .int .i64 1, .int .i64 25] 109)).heap[B]? = some (.cells (flatC l).toArray 109 (0, 0)) := by
      rw [Below.heap_alloc _ _ _ (by simp; omega), Below.heap_alloc _ _ _ (by omega), hb1.block _ (by simp; omega), Below.heap_alloc _ _ _ hBs]; exact HBB.out
    exact World.news_of_block e
  case c2 => exact flatC_one l
  case c3 => unfold maxLen; omega
  case c4 => omega
  case c5 => omega
  intro v' w3 h3 h4 _
  have hs1 := hb1.size
  simp only [World.size_alloc] at hs1
  have hblk : w3.heap[w.heap.size]? = some (.cells #[.int .i64 0, .int .i64 0, .slice none 0 0, .slice none 0 0] 45 (0, 0)) := by
    rw [h4.block _ (by simp; omega) (fun e => absurd (show w.heap.size = w1.heap.size + 1 from Option.some.inj e) (by omega)), Below.heap_alloc _ _ _ (by simp; omega), Below.heap_alloc _ _ _ (by omega), hb1.block _ (by simp)]
    exact heap_alloc_new w _
  have hrul : w3.heap[w1.heap.size]? = some (.cells #[.int .i64 0, .int .i64 1, .int .i64 0, .int .i64 0, .int .i64 20, .int .i64 5, .int .i64 1, .int .i64 1] 80 (0, 0)) := by
    rw [h4.block _ (by simp; omega) (fun e => absurd (show w1.heap.size = w1.heap.size + 1 from Option.some.inj e) (by omega)), Below.heap_alloc _ _ _ (by simp)]
    exact heap_alloc_new w1 _
  have hbel : Below w.heap.size w w3 := (((below_alloc w _).trans (hb1.mono (by simp))).trans (((below_alloc w1 _).alloc (by simp) _).mono (by omega))).grown h4 (by simp; omega) (fun k hk => by have e : w1.heap.size + 1 = k := Option.some.inj hk; omega)
  have hcl : CL w3 v' (⟨10000, 1, 25⟩ :: l) := by
    unfold CL; rw [show (⟨10000, 1, 25⟩ :: l : List Rc).length = 1 + n from by simp [HN.out]; omega]; exact h3
  obtain ⟨va, vc, rfl⟩ := hcl.at.slice
  have HCL := Lib.hid hcl; have HRUL := Lib.hid hrul; have HBEL := Lib.hid hbel; have HBLK := Lib.hid hblk
  have k0 : w3.cell? ⟨w.heap.size, 0, none⟩ = some (.int .i64 0) := cell_of_row _ _ 0 _ _ _ hblk
  have k1 : w3.cell? ⟨w.heap.size, 1, none⟩ = some (.int .i64 0) := cell_of_row _ _ 1 _ _ _ hblk
  have k2 : w3.cell? ⟨w.heap.size, 2, none⟩ = some (.slice none 0 0) := cell_of_row _ _ 2 _ _ _ hblk
  have k3 : w3.cell? ⟨w.heap.size, 3, none⟩ = some (.slice none 0 0) := cell_of_row _ _ 3 _ _ _ hblk
  have q0 : w3.frozen? ⟨w.heap.size, 0, none⟩ = false := frozen_of_row _ _ 0 _ _ hblk
  have q1 : w3.frozen? ⟨w.heap.size, 1, none⟩ = false := frozen_of_row _ _ 1 _ _ hblk
  have q2 : w3.frozen? ⟨w.heap.size, 2, none⟩ = false := frozen_of_row _ _ 2 _ _ hblk
  have q3 : w3.frozen? ⟨w.heap.size, 3, none⟩ = false := frozen_of_row _ _ 3 _ _ hblk
  clear h3 h4 hcl hrul hbel hblk hb1
  have hfr : ∀ (a b c d : Value), Fr (fun q => q = w.heap.size) w3 ((((w3.setCell ⟨w.heap.size, 0, none⟩ a).setCell ⟨w.heap.size, 1, none⟩ b).setCell ⟨w.heap.size, 2, none⟩ c).setCell ⟨w.heap.size, 3, none⟩ d) := fun a b c d => (((Fr.set _ _ _ _).trans (Fr.set _ _ _ _)).trans (Fr.set _ _ _ _)).trans (Fr.set _ _ _ _)
  have HFR := Lib.hid hfr; clear hfr
  go_wp2
  refine bodyPost_ret (v := .agg #[.int .i64 0, .int .i64 20000, .slice (some ⟨w1.heap.size, 0, none⟩) 2 2, .slice va (l.length + 1) vc]) (by simp [results, Try.results61, go_sem, k0, k1, k2, k3]) rfl ⟨_, rfl, ⟨_, _, rfl, ?_, ?_⟩, ?_⟩
  · refine .inr ⟨w1.heap.size, 0, 2, rfl, Nat.lt_of_lt_of_le (Array.getElem?_eq_some_iff.1 HRUL.out).1 (HFR.out _ _ _ _).size, fun j hj => ?_⟩
    have hb := ((HFR.out (.int .i64 0) (.int .i64 20000) (.slice (some ⟨w1.heap.size, 0, none⟩) 2 2) (.slice va (l.length + 1) vc)).block _ (Array.getElem?_eq_some_iff.1 HRUL.out).1 (by omega)).trans HRUL.out
    match j, hj with
    | 0, _ => exact ⟨cell_of_row _ _ 0 _ _ _ hb, cell_of_row _ _ 1 _ _ _ hb, cell_of_row _ _ 2 _ _ _ hb, cell_of_row _ _ 3 _ _ _ hb⟩
    | 1, _ => exact ⟨cell_of_row _ _ 4 _ _ _ hb, cell_of_row _ _ 5 _ _ _ hb, cell_of_row _ _ 6 _ _ _ hb, cell_of_row _ _ 7 _ _ _ hb⟩
    | j + 2, h => exact absurd (show j + 2 < 2 from h) (by omega)
  · exact CL.at (own_fr HCL.out (HFR.out _ _ _ _) (fun g cur _ _ hg e => by subst e; rw [HBLK.out] at hg; injection hg with e; injection e with _ e2; exact absurd e2 (by decide)))
  · exact HBEL.out.trans ((HFR.out _ _ _ _).low HBEL.out.size (fun q hq e => by omega))
end Go.Proofs.Ytagfcfojfjkmbaa
