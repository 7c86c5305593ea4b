/- Link: the law's ready and has; which pairs are in a list. -/
import Derived.Test.YtgbdbikjckfgmaaGreatPI
namespace Go.Proofs.YtgbdbikjckfgmaaGreat
open Go.RowKit Go.Shelf

def Fl.rdy (f : Fl) : Bool := f.thin && decide (f.fault = 0)
theorem Fl.rdy_yes {f : Fl} (h : f.rdy = true) : f.thin = true ∧ f.fault = 0 := by
  unfold Fl.rdy at h; simpa using h
set_option maxRecDepth 100000 in
set_option maxHeartbeats 4000000 in
theorem ready_any (x : FV) (f : Fl) (w : World) (h : FlQ QR w x f) :
    Calls Tryz.prog 34 #[.agg #[.slice x.oa f.no x.oc, .slice x.na f.nw x.nc, .slice x.ma f.nm x.mc]] w fun e w' => e = .returned (.bool f.rdy) ∧ Below w.heap.size w w' := by
  obtain ⟨oa, oc, na, nc, ma, mc⟩ := x
  have HTH := Lib.hid (thinW ⟨oa, oc, na, nc, ma, mc⟩ f w h f.thin rfl)
  have HFA := Lib.hid (faultW ⟨oa, oc, na, nc, ma, mc⟩ f w h f.fault rfl)
  have HE : Hid (f.rdy = (f.thin && decide (f.fault = 0))) := rfl
  clear h
  dsimp only at HTH HFA ⊢
  generalize f.rdy = r at *
  generalize f.thin = t at *
  generalize f.fault = ft at *
  generalize f.no = no at *
  generalize f.nw = nw at *
  generalize f.nm = nm at *
  have HA := Lib.hid ((BF.base w).alloc #[.slice oa no oc, .slice na nw nc, .slice ma nm mc] 25)
  go_enter Tryz.func34, Tryz.ntmps34
  have c0 := HA.out.cell (.head _) 0
  have c1 := HA.out.cell (.head _) 1
  have c2 := HA.out.cell (.head _) 2
  go_wp2_with fail
  refine (HTH.out _ HA.out.fr).mono ?_
  rintro _ w1 ⟨rfl, hb⟩
  have HA1 := Lib.hid (HA.out.below hb)
  clear hb c0 c1 c2
  cases t
  · have hr : r = false := HE.out
    subst hr
    go_wp2_with fail
    go_ret
    exact ⟨rfl, HA1.out.fr⟩
  · have hr : r = decide (ft = 0) := HE.out
    subst hr
    have c0 := HA1.out.cell (.head _) 0
    have c1 := HA1.out.cell (.head _) 1
    have c2 := HA1.out.cell (.head _) 2
    go_wp2_with fail
    refine (HFA.out _ HA1.out.fr).mono ?_
    rintro _ w2 ⟨rfl, hb⟩
    have HA2 := Lib.hid (HA1.out.below hb)
    clear hb c0 c1 c2
    go_wp2_with fail
    go_ret
    exact ⟨ret_bool (by by_cases h : ft = 0 <;> simp [h]), HA2.out.fr⟩
theorem readyW (x : FV) (f : Fl) (w : World) (h : FlQ QR w x f) (b : Bool) (hb : f.rdy = b) : ∀ X, Below w.heap.size w X → Calls Tryz.prog 34 #[.agg #[.slice x.oa f.no x.oc, .slice x.na f.nw x.nc, .slice x.ma f.nm x.mc]] X fun e w' => e = .returned (.bool b) ∧ Below X.heap.size X w' := fun X hX => by
  have := ready_any x f X (h.below QR.k hX); rwa [hb] at this
def hasPr (n : Nat) (p q : Nat → Int) (o k : Int) : Bool := !allB (fun j => !(p j == o && q j == k)) n
set_option maxRecDepth 100000 in
set_option maxHeartbeats 4000000 in
theorem has5_any (a : Option Addr) (n c : Nat) (p q : Nat → Int) (o k : Int) (w : World) (h : RsIn w (.slice a n c) n p q) (hn : n ≤ 100000) :
    Calls Tryz.prog 36 #[.slice a n c, .int .i64 o, .int .i64 k] w fun e w' => e = .returned (.bool (hasPr n p q o k)) ∧ Below w.heap.size w w' := by
  have HR := Lib.hid h
  have HY : Hid (∀ j, j < n → (p j == o && q j == k) = true → hasPr n p q o k = true) := fun j hj h => by unfold hasPr; rw [allB_false hj (by rw [h]; rfl)]; rfl
  have HN : Hid ((∀ j, j < n → (p j == o && q j == k) = false) → hasPr n p q o k = false) := fun h => by unfold hasPr; rw [allB_true fun j hj => by rw [h j hj]; rfl]; rfl
  clear h
  generalize hasPr n p q o k = r at *
  go_enter Tryz.func36, Tryz.ntmps36
  go_wp2_with fail
  go_loopw [7] (fun v wr => ∃ j : Nat, v = .int .i64 (j : Int) ∧ j ≤ n ∧ wr = w ∧ ∀ i, i < j → (p i == o && q i == k) = false) (fun v _ => n - (intOf v).toNat)
  case atStart => exact ⟨0, rfl, Nat.zero_le _, rfl, fun i hi => absurd hi (Nat.not_lt_zero i)⟩
  case round =>
    obtain ⟨j, rfl, hj, rfl, hall⟩ := hrel
    have HALL := Lib.hid hall
    clear hall
    by_cases hlt : j < n
    · obtain ⟨b, off, rfl, hb, x0, x1⟩ := HR.out.at hlt
      have ki : (0 : Int) ≤ (j : Int) := by omega
      have kj : (j : Int) < (n : Int) := by omega
      have HYJ := Lib.hid (HY.out j hlt)
      have HNJ : Hid ((p j == o && q j == k) = false → ∀ i, i < j + 1 → (p i == o && q i == k) = false) := fun h i hi => by
        rcases Nat.lt_succ_iff_lt_or_eq.1 hi with hi | rfl
        · exact HALL.out i hi
        · exact h
      generalize p j = pj at *
      generalize q j = qj at *
      cases h1 : (pj == o)
      · rw [h1] at HNJ
        have HN2 := Lib.hid (HNJ.out rfl)
        clear HNJ HYJ
        go_wp2_with fail
        go_roundw
        case rel => exact ⟨j + 1, by go_num, by omega, (by first | trivial | rfl), HN2.out⟩
        case measure => simp [intOf]; omega
      · cases h2 : (qj == k)
        · rw [h1, h2] at HNJ
          have HN2 := Lib.hid (HNJ.out rfl)
          clear HNJ HYJ
          go_wp2_with fail
          go_roundw
          case rel => exact ⟨j + 1, by go_num, by omega, (by first | trivial | rfl), HN2.out⟩
          case measure => simp [intOf]; omega
        · rw [h1, h2] at HYJ
          have hr := HYJ.out rfl
          subst hr
          clear HNJ HYJ
          go_wp2_with fail
          go_ret
          exact ⟨rfl, Below.refl _ _⟩
    · have hr := HN.out fun i hi => HALL.out i (by omega)
      subst hr
      go_wp2_with fail
      go_ret
      exact ⟨rfl, Below.refl _ _⟩
theorem hasPr_list (L : List (Int × Int)) (o k : Int) : hasPr L.length (fun j => (L.getD j (0, 0)).1) (fun j => (L.getD j (0, 0)).2) o k = decide ((o, k) ∈ L) := by
  unfold hasPr
  by_cases h : (o, k) ∈ L
  · obtain ⟨j, hj, e⟩ := List.getElem_of_mem h
    rw [decide_eq_true h, allB_false hj (by simp [hj, e])]; rfl
  · rw [decide_eq_false h, allB_true fun j hj => by
      simp only [List.getD_eq_getElem?_getD, List.getElem?_eq_getElem hj, Option.getD_some]
      cases e1 : (L[j].1 == o)
      · rfl
      · cases e2 : (L[j].2 == k)
        · rfl
        · exact absurd (by rw [← eq_of_beq e1, ← eq_of_beq e2]; exact List.getElem_mem hj) h]
    rfl
theorem has_list (L : List (Int × Int)) (a : Option Addr) (c : Nat) (o k : Int) (w : World) (h : SkIn w (.slice a L.length c) L) (hn : L.length ≤ 100000) :
    Calls Tryz.prog 36 #[.slice a L.length c, .int .i64 o, .int .i64 k] w fun e w' => e = .returned (.bool (decide ((o, k) ∈ L))) ∧ Below w.heap.size w w' := by
  rw [← hasPr_list]; exact has5_any a L.length c _ _ o k w h hn
theorem dR_mem {q : Nat → Nat → Bool} {i n : Nat} {x : Int × Int} : x ∈ dR q i n ↔ ∃ k : Nat, x = ((i : Int), (k : Int)) ∧ k < n ∧ q i k = true := by
  unfold dR
  simp only [List.mem_map, List.mem_filter, List.mem_range]
  constructor
  · rintro ⟨k, ⟨h1, h2⟩, rfl⟩; exact ⟨k, rfl, h1, h2⟩
  · rintro ⟨k, rfl, h1, h2⟩; exact ⟨k, ⟨h1, h2⟩, rfl⟩
theorem dL_mem {q : Nat → Nat → Bool} {nw n : Nat} {x : Int × Int} : x ∈ dL q nw n ↔ ∃ i k : Nat, x = ((i : Int), (k : Int)) ∧ i < n ∧ k < nw ∧ q i k = true := by
  unfold dL
  simp only [List.mem_flatMap, List.mem_range, dR_mem]
  constructor
  · rintro ⟨i, hi, k, rfl, h1, h2⟩; exact ⟨i, k, rfl, hi, h1, h2⟩
  · rintro ⟨i, k, rfl, hi, h1, h2⟩; exact ⟨i, hi, k, rfl, h1, h2⟩
theorem dL_at {q : Nat → Nat → Bool} {nw n j : Nat} (h : j < (dL q nw n).length) : ∃ i k : Nat, (dL q nw n).getD j (0, 0) = ((i : Int), (k : Int)) ∧ i < n ∧ k < nw ∧ q i k = true := by
  have : (dL q nw n).getD j (0, 0) ∈ dL q nw n := by
    rw [List.getD_eq_getElem?_getD, List.getElem?_eq_getElem h]; exact List.getElem_mem h
  exact dL_mem.1 this
theorem dL_has {q : Nat → Nat → Bool} {nw n i k : Nat} (hi : i < n) (hk : k < nw) : decide ((((i : Int), (k : Int)) : Int × Int) ∈ dL q nw n) = q i k := by
  cases h : q i k
  · refine decide_eq_false fun hm => ?_
    obtain ⟨i', k', e, _, _, h2⟩ := dL_mem.1 hm
    injection e with e1 e2
    rw [show i = i' by omega, show k = k' by omega, h2] at h; cases h
  · exact decide_eq_true (dL_mem.2 ⟨i, k, rfl, hi, hk, h⟩)
theorem OkF.cost_01 {f : Fl} (h : OkF f) {i k : Nat} (hg : f.g i k = true) : f.cost i k = 0 ∨ f.cost i k = 1 := by
  have hm := h.mx [((i : Int), -1), (-1, (k : Int))]
  rw [SK_two] at hm
  have h1 := (two_low h.g8 hg h.mx0 hm).1
  have h2 := cost_le h.g8 h.mx0 hm
  have e : f.cost i k = ((f.m []).2 : Int) - 1 - (f.m [((i : Int), -1), (-1, (k : Int))]).2 := rfl
  omega
end Go.Proofs.YtgbdbikjckfgmaaGreat
