/- Link: a file without one of its entries; the reference's Has. -/
import Derived.Test.YtgbdbikjckfgmaaGreatOR
namespace Go.Proofs.YtgbdbikjckfgmaaGreat
open Go.RowKit Go.Shelf

def Fl.cutO (f : Fl) (q : Nat) : Fl := ⟨f.no - 1, cutE f.O q, f.nw, f.N, f.nm, f.mf, f.mt⟩
def Fl.cutN (f : Fl) (q : Nat) : Fl := ⟨f.no, f.O, f.nw - 1, cutE f.N q, f.nm, f.mf, f.mt⟩
theorem Fl.cutN_turn (f : Fl) (q : Nat) : (f.cutN q).turn = f.turn.cutO q := rfl
theorem cutE_at (E : Nat → En) (q j : Nat) : cutE E q j = E (if j < q then j else j + 1) := by unfold cutE; split <;> rfl
theorem OkF.cutO {f : Fl} (h : OkF f) (q : Nat) : OkF (f.cutO q) :=
  OkF.mk2 (by have := h.no; show f.no - 1 ≤ 8; omega) h.nw h.nm (fun j hj => by
    have hj2 : j < f.no - 1 := hj
    show (cutE f.O q j).nn ≤ 4 ∧ _
    rw [show (f.cutO q).O j = cutE f.O q j from rfl, cutE_at]
    exact h.o (by split <;> omega)) (fun j hj => h.n hj) h.m
theorem thinE_cut {n : Nat} {E : Nat → En} (q : Nat) (h : thinE n E = true) : thinE (n - 1) (cutE E q) = true := by
  unfold thinE at h ⊢
  rw [Bool.and_eq_true, decide_eq_true_eq] at h ⊢
  refine ⟨by omega, allB_true fun j hj => ?_⟩
  rw [cutE_at]
  exact allB_all h.2 _ (by split <;> omega)
theorem Fl.cutO_thin {f : Fl} (q : Nat) (h : f.thin = true) : (f.cutO q).thin = true := by
  unfold Fl.thin at h ⊢
  rw [Bool.and_eq_true, Bool.and_eq_true] at h ⊢
  exact ⟨⟨thinE_cut q h.1.1, h.1.2⟩, h.2⟩
theorem Fl.cutN_thin {f : Fl} (q : Nat) (h : f.thin = true) : (f.cutN q).thin = true := by
  unfold Fl.thin at h ⊢
  rw [Bool.and_eq_true, Bool.and_eq_true] at h ⊢
  exact ⟨⟨h.1.1, thinE_cut q h.1.2⟩, h.2⟩
theorem OkF.back {f : Fl} (h : OkF f.turn) : OkF f := h.turn
theorem OkF.cutN {f : Fl} (h : OkF f) (q : Nat) : OkF (f.cutN q) := OkF.back (f := f.cutN q) (by rw [Fl.cutN_turn]; exact h.turn.cutO q)
def upP (n q i : Nat) : Nat := if i < q then i else if i + 1 < n then i + 1 else if i + 1 = n then q else i
def dnP (n q j : Nat) : Nat := if j < q then j else if j = q then n - 1 else if j < n then j - 1 else j
theorem upP_undo {n q : Nat} (hq : q < n) : Undo (upP n q) (dnP n q) :=
  ⟨fun i => by unfold upP dnP; (repeat' split) <;> omega, fun i => by unfold upP dnP; (repeat' split) <;> omega⟩
theorem Fl.cutO_g {f : Fl} {q : Nat} (hq : q < f.no) : (f.cutO q).g = permG (offG f.g (rowS q)) (upP f.no q) id := by
  funext i k
  show (decide (i < f.no - 1) && decide (k < f.nw) && f.pairB (cutE f.O q i) (f.N k)) = (f.g (upP f.no q i) k && !decide (upP f.no q i = q))
  by_cases hi : i < f.no - 1
  · have e : upP f.no q i = if i < q then i else i + 1 := by unfold upP; (repeat' split) <;> omega
    have e2 : upP f.no q i ≠ q := by rw [e]; split <;> omega
    have e3 : upP f.no q i < f.no := by rw [e]; split <;> omega
    rw [decide_eq_false e2, decide_eq_true hi, Bool.not_false, Bool.and_true, Bool.true_and, cutE_at, ← e]
    show _ = (decide (upP f.no q i < f.no) && decide (k < f.nw) && f.pairB (f.O (upP f.no q i)) (f.N k))
    rw [decide_eq_true e3, Bool.true_and]
  · rw [decide_eq_false hi, Bool.false_and, Bool.false_and]
    by_cases hi2 : i + 1 = f.no
    · have e : upP f.no q i = q := by unfold upP; (repeat' split) <;> omega
      rw [e, decide_eq_true rfl]; simp
    · have e : upP f.no q i = i := by unfold upP; (repeat' split) <;> omega
      have : f.g i k = false := by
        cases hg : f.g i k
        · rfl
        · have := Fl.g_in hg; omega
      rw [e, this]; rfl
theorem undo_id : Undo (id : Nat → Nat) id := ⟨fun _ => rfl, fun _ => rfl⟩
theorem OkF.cutO_most {f : Fl} (h : OkF f) {q : Nat} (hq : q < f.no) : (f.cutO q).most = (f.m [((q : Int), -1)]).2 := by
  have h1 := (h.cutO q).mx0
  have h2 := h.mx [((q : Int), -1)]
  rw [SK_row] at h2
  have h8 := (h.cutO q).g8
  rw [Fl.cutO_g hq] at h1 h8
  exact (mx_perm (upP_undo hq) undo_id (offG_8 h.g8) h8 h2 h1).symm
theorem OkF.cutO_law {f : Fl} (h : OkF f) {q : Nat} (hq : q < f.no) : ((f.cutO q).most : Int) = if f.alO q = true then (f.most : Int) - 1 else f.most := by
  have h2 := h.mx [((q : Int), -1)]
  rw [SK_row] at h2
  obtain ⟨a1, a2⟩ := row_less h.g8 h.mx0 h2
  rw [h.cutO_most hq]
  unfold Fl.alO Fl.most
  by_cases c : (f.m [((q : Int), -1)]).2 < (f.m []).2
  · rw [decide_eq_true c, if_pos rfl]; omega
  · rw [decide_eq_false c, if_neg (by simp)]; omega
theorem turn_col (g : Nat → Nat → Bool) (k : Nat) : turnG (offG g (colS k)) = offG (turnG g) (rowS k) := rfl
theorem OkF.turn_alO {f : Fl} (h : OkF f) (k : Nat) : f.turn.alO k = f.alN k := by
  have h1 := h.turn.mx [((k : Int), -1)]
  rw [SK_row, h.turn_g, ← turn_col] at h1
  have h2 := h.mx [(-1, (k : Int))]
  rw [SK_col] at h2
  have e := h1.uniq (mx_turn (offG_8 h.g8) h2)
  unfold Fl.alO Fl.alN
  rw [e, h.turn_most]
theorem OkF.cutN_law {f : Fl} (h : OkF f) {q : Nat} (hq : q < f.nw) : ((f.cutN q).most : Int) = if f.alN q = true then (f.most : Int) - 1 else f.most := by
  rw [← (h.cutN q).turn_most, Fl.cutN_turn, h.turn.cutO_law (f := f.turn) hq, h.turn_alO, h.turn_most]
set_option maxRecDepth 100000 in
set_option maxHeartbeats 4000000 in
theorem rHas_any (a : Option Addr) (n c : Nat) (z : Nat → Int) (k : Int) (w : World) (h : IntsIn w (.slice a n c) n z) (hn : n ≤ 100000) :
    Calls Tryz.prog 41 #[.slice a n c, .int .i64 k] w fun e w' => e = .returned (.bool (!allB (fun j => !(z j == k)) n)) ∧ Below w.heap.size w w' := by
  have HR := Lib.hid h
  have HY : Hid (∀ j, j < n → (z j == k) = true → (!allB (fun j => !(z j == k)) n) = true) := fun j hj h => by rw [allB_false hj (by rw [h]; rfl)]; rfl
  have HN : Hid ((∀ j, j < n → (z j == k) = false) → (!allB (fun j => !(z j == k)) n) = false) := fun h => by rw [allB_true fun j hj => by rw [h j hj]; rfl]; rfl
  clear h
  generalize (!allB (fun j => !(z j == k)) n) = r at *
  go_enter Tryz.func41, Tryz.ntmps41
  go_wp2_with fail
  go_loopw [5] (fun v wr => ∃ j : Nat, v = .int .i64 (j : Int) ∧ j ≤ n ∧ wr = w ∧ ∀ i, i < j → (z i == k) = false) (fun v _ => n - (intOf v).toNat)
  case atStart => exact ⟨0, rfl, Nat.zero_le _, rfl, fun i hi => absurd hi (Nat.not_lt_zero i)⟩
  case round =>
    obtain ⟨j, rfl, hj, rfl, hall⟩ := hrel
    have HALL := Lib.hid hall
    clear hall
    by_cases hlt : j < n
    · obtain ⟨b, off, rfl, hb, x0⟩ := HR.out.at hlt
      have ki : (0 : Int) ≤ (j : Int) := by omega
      have kj : (j : Int) < (n : Int) := by omega
      have HYJ := Lib.hid (HY.out j hlt)
      have HNJ : Hid ((z j == k) = false → ∀ i, i < j + 1 → (z i == k) = false) := fun h i hi => by
        rcases Nat.lt_succ_iff_lt_or_eq.1 hi with hi | rfl
        · exact HALL.out i hi
        · exact h
      generalize z j = zj at *
      cases h1 : (zj == k)
      · rw [h1] at HNJ
        have HN2 := Lib.hid (HNJ.out rfl)
        clear HNJ HYJ
        go_wp2_with fail
        go_roundw
        case rel => exact ⟨j + 1, by go_num, by omega, (by first | trivial | rfl), HN2.out⟩
        case measure => simp [intOf]; omega
      · rw [h1] at HYJ
        have hr := HYJ.out rfl
        subst hr
        clear HNJ HYJ
        go_wp2_with fail
        go_ret
        exact ⟨rfl, Below.refl _ _⟩
    · have hr := HN.out fun i hi => HALL.out i (by omega)
      subst hr
      go_wp2_with fail
      go_ret
      exact ⟨rfl, Below.refl _ _⟩
theorem has_pick (p : Nat → Bool) (n k : Nat) (hk : k < n) : (!allB (fun j => !(nz (pickN p n) j == (k : Int))) (pickN p n).length) = p k := by
  have hz : ∀ j (hj : j < (pickN p n).length), nz (pickN p n) j = (((pickN p n)[j] : Nat) : Int) := fun j hj => by unfold nz; simp [hj]
  cases h : p k
  · rw [allB_true fun j hj => ?_]; rfl
    rw [hz j hj]
    cases e : (((((pickN p n)[j] : Nat) : Int)) == (k : Int))
    · rfl
    · have e1 : (pickN p n)[j] = k := by have := eq_of_beq e; omega
      have e2 : (pickN p n)[j] ∈ pickN p n := List.getElem_mem hj
      unfold pickN at e2
      have e3 := (List.mem_filter.1 e2).2
      have e4 : (pickN p n)[j] = ((List.range n).filter p)[j] := rfl
      rw [← e4, e1, h] at e3; cases e3
  · have hm : k ∈ pickN p n := List.mem_filter.2 ⟨List.mem_range.2 hk, h⟩
    obtain ⟨j, hj, e⟩ := List.getElem_of_mem hm
    rw [allB_false hj (by rw [hz j hj, e]; simp)]; rfl
end Go.Proofs.YtgbdbikjckfgmaaGreat
