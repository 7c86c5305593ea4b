/- FlowLeft: the reference's Less. Printed by gen_jl.py. -/
import Derived.Test.YtjaoflfophcibaaJJ
import Derived.Test.YtjaoflfophcibaaJI
import Derived.Test.YtjaoflfophcibaaGO
namespace Go.Proofs.Ytjaoflfophcibaa
open Go.RowKit Go.Shelf

/-- The cells of a list of numbers. -/
def cR (ng : Nat) (s : List Nat) (j : Nat) : R2 := (((s.getD j 0 / ng : Nat) : Int), ((s.getD j 0 % ng : Nat) : Int))
theorem rC_flatR (ng : Nat) (s : List Nat) : rC ng s = flatR (cR ng s) s.length := by
  refine List.ext_getElem? fun i => ?_
  have hl := rC_length ng s
  have hl2 := flatR_length (cR ng s) s.length
  by_cases h : i < s.length * 2
  · obtain ⟨g0, g1⟩ := flatR_get (cR ng s) s.length (i / 2) (by omega)
    obtain ⟨k0, k1⟩ := rC_get ng s (i / 2) (by omega)
    have e : s.getD (i / 2) 0 = s[i / 2]'(by omega) := by rw [List.getD_eq_getElem?_getD, List.getElem?_eq_getElem (by omega)]; rfl
    have e2 : i = i / 2 * 2 ∨ i = i / 2 * 2 + 1 := by omega
    have d0 : cR ng s (i / 2) = (((s[i / 2]'(by omega) / ng : Nat) : Int), ((s[i / 2]'(by omega) % ng : Nat) : Int)) := by unfold cR; rw [e]
    rw [d0] at g0 g1
    rcases e2 with e2 | e2
    · rw [e2, k0, g0]
    · rw [e2, k1, g1]
  · rw [List.getElem?_eq_none (by omega), List.getElem?_eq_none (by omega)]
theorem lexLt_at : ∀ (k : Nat) (a b : List Nat), a.take k = b.take k → k < a.length → k < b.length → a.getD k 0 ≠ b.getD k 0 → lexLt a b = decide (a.getD k 0 < b.getD k 0)
  | 0, x :: l, y :: s, _, _, _, h => by
    have h' : ¬ x = y := h
    unfold lexLt
    rw [if_neg h']
    rfl
  | k + 1, x :: l, y :: s, ht, h1, h2, h => by
    simp only [List.take_succ_cons, List.cons.injEq] at ht
    unfold lexLt
    rw [if_pos ht.1]
    exact lexLt_at k l s ht.2 (by simpa using h1) (by simpa using h2) h
theorem lexLt_self : ∀ a : List Nat, lexLt a a = false
  | [] => rfl
  | x :: l => by unfold lexLt; rw [if_pos rfl]; exact lexLt_self l
theorem divmod_lt {a b n : Nat} (hn : 0 < n) : a < b ↔ (a / n < b / n ∨ (a / n = b / n ∧ a % n < b % n)) := by
  have h1 := Nat.div_add_mod a n; have h2 := Nat.div_add_mod b n
  have h3 := Nat.mod_lt a hn; have h4 := Nat.mod_lt b hn
  constructor
  · intro h
    by_cases e : a / n < b / n
    · exact .inl e
    · have h5 : a / n = b / n := Nat.le_antisymm (Nat.div_le_div_right (by omega)) (by omega)
      refine .inr ⟨h5, ?_⟩
      rw [h5] at h1
      omega
  · rintro (h | ⟨h, h'⟩)
    · have h5 := Nat.mul_le_mul_left n (show a / n + 1 ≤ b / n by omega)
      rw [Nat.mul_add, Nat.mul_one] at h5
      omega
    · rw [h] at h1
      omega
set_option maxRecDepth 100000 in
set_option maxHeartbeats 8000000 in
theorem less_any (va vb : Value) (sa sb : List Nat) (ng : Nat) (w : World) (hng : 0 < ng) (ha : RsIn w va sa.length (cR ng sa)) (hb : RsIn w vb sb.length (cR ng sb)) (hn : sa.length ≤ 1000) (hm : sb.length ≤ 1000) :
    Calls Try.prog 36 #[va, vb] w fun e w' => e = .returned (.bool (lessN sa sb)) ∧ Below w.heap.size w w' := by
  obtain ⟨aa, ac, rfl⟩ := ha.slice
  obtain ⟨ba, bc, rfl⟩ := hb.slice
  have HRA := Lib.hid ha; have HRB := Lib.hid hb
  clear ha hb
  obtain ⟨n, hn0⟩ : ∃ n, sa.length = n := ⟨_, rfl⟩
  obtain ⟨m, hm0⟩ : ∃ m, sb.length = m := ⟨_, rfl⟩
  have HLA := Lib.hid hn0; have HLB := Lib.hid hm0
  rw [hn0] at hn HRA ⊢
  rw [hm0] at hm HRB ⊢
  clear hn0 hm0
  by_cases hnm : n = m
  case neg =>
    have HRES : Hid (lessN sa sb = decide (n < m)) := by unfold Hid lessN; rw [HLA.out, HLB.out, if_neg hnm]
    have hq : ((n : Int) == (m : Int)) = false := by simp; omega
    have hdd : decide ((n : Int) < (m : Int)) = decide (n < m) := by simp
    go_enter Try.func36, Try.ntmps36
    go_wp2_with fail
    go_loopw [5] (fun i wr => ∃ k : Nat, k ≤ n ∧ i = .int .i64 k ∧ Below w.heap.size w wr) (fun i _ => n - (intOf i).toNat)
    case atStart => exact ⟨0, Nat.zero_le _, rfl, Below.refl _ _⟩
    case round =>
      obtain ⟨k, hk, rfl, hbx⟩ := hrel
      have HB := Lib.hid hbx
      clear hbx
      by_cases hlt : k < n
      all_goals
        go_wp2_with fail
        go_ret
        exact ⟨ret_bool (by rw [HRES.out]; try simp), HB.out⟩
  subst hnm
  go_enter Try.func36, Try.ntmps36
  go_wp2_with fail
  go_loopw [5] (fun i wr => ∃ k : Nat, k ≤ n ∧ i = .int .i64 k ∧ Below w.heap.size w wr ∧ sa.take k = sb.take k) (fun i _ => n - (intOf i).toNat)
  case atStart => exact ⟨0, Nat.zero_le _, rfl, Below.refl _ _, rfl⟩
  case round =>
    obtain ⟨k, hk, rfl, hbx, htk⟩ := hrel
    rename World => wx
    have HB := Lib.hid hbx; have HTK := Lib.hid htk
    clear hbx htk
    have ki : (0 : Int) ≤ (k : Int) := by omega
    by_cases hlt : k < n
    · have kj : (k : Int) < (n : Int) := by omega
      obtain ⟨ab, ao, rfl, hab, p1, p2⟩ := HRA.out.at (k := k) hlt
      obtain ⟨bb, bo, rfl, hbb, p3, p4⟩ := HRB.out.at (k := k) hlt
      obtain ⟨A, HA⟩ : ∃ A, Hid (sa.getD k 0 = A) := ⟨_, rfl⟩
      obtain ⟨B, HBq⟩ : ∃ B, Hid (sb.getD k 0 = B) := ⟨_, rfl⟩
      unfold cR at p1 p2 p3 p4
      rw [HA.out] at p1 p2
      rw [HBq.out] at p3 p4
      simp only at p1 p2 p3 p4
      have HDV := Lib.hid (divmod_lt (a := A) (b := B) hng)
      have HEQ : Hid (((A / ng : Nat) : Int) = ((B / ng : Nat) : Int) → ((A % ng : Nat) : Int) = ((B % ng : Nat) : Int) → A = B) := fun h1 h2 => by
        have h3 := Nat.div_add_mod A ng; have h4 := Nat.div_add_mod B ng
        rw [Int.ofNat_inj] at h1 h2
        rw [h1, h2, h4] at h3
        exact h3.symm
      have HE2 : Hid (A = B → ((A / ng : Nat) : Int) = ((B / ng : Nat) : Int) ∧ ((A % ng : Nat) : Int) = ((B % ng : Nat) : Int)) := fun h => by rw [h]; exact ⟨rfl, rfl⟩
      have HDI : Hid (A < B ↔ (((A / ng : Nat) : Int) < ((B / ng : Nat) : Int) ∨ (((A / ng : Nat) : Int) = ((B / ng : Nat) : Int) ∧ ((A % ng : Nat) : Int) < ((B % ng : Nat) : Int)))) := by
        rw [Hid, HDV.out]
        constructor <;> intro h <;> omega
      clear HDV
      generalize ((A / ng : Nat) : Int) = a1 at *
      generalize ((A % ng : Nat) : Int) = a2 at *
      generalize ((B / ng : Nat) : Int) = b1 at *
      generalize ((B % ng : Nat) : Int) = b2 at *
      have HC4 : Hid (∀ X, Below w.heap.size w X → (X.cell? ⟨ab, ao + k * 2, none⟩ = some (.int .i64 a1) ∧ X.cell? ⟨ab, ao + k * 2 + 1, none⟩ = some (.int .i64 a2) ∧ X.cell? ⟨bb, bo + k * 2, none⟩ = some (.int .i64 b1) ∧ X.cell? ⟨bb, bo + k * 2 + 1, none⟩ = some (.int .i64 b2))) := fun X hX => ⟨kept hX hab p1, kept hX hab p2, kept hX hbb p3, kept hX hbb p4⟩
      clear p1 p2 p3 p4 hab hbb
      by_cases hAB : A = B
      · obtain ⟨h1, h2⟩ := HE2.out hAB
        subst h1; subst h2
        have HNQ : Hid (∀ W, (binOp .neq 48 (.agg #[.int .i64 a1, .int .i64 a2]) (.agg #[.int .i64 a1, .int .i64 a2])).run Try.prog W = .ok (.bool false) W) := fun W => by rw [neq_rcell]; simp
        have HAB := Lib.hid hAB
        clear hAB HDI HEQ HE2
        go_wp2_with fail
        go_cut [27] (fun s27 wy => s27 = .bool false ∧ Below w.heap.size w wy)
        case first => as_aux_lemma =>
          have HAX := Lib.hid (HB.out.drew)
          refine wp_region_held_drew (S := fun X => X.cell? ⟨ab, ao + k * 2, none⟩ = some (.int .i64 a1) ∧ X.cell? ⟨ab, ao + k * 2 + 1, none⟩ = some (.int .i64 a2) ∧ X.cell? ⟨bb, bo + k * 2, none⟩ = some (.int .i64 a1) ∧ X.cell? ⟨bb, bo + k * 2 + 1, none⟩ = some (.int .i64 a2)) (by kernel_rfl) (HC4.out _ HAX.out) (fun hS => ?_)
          generalize wx.drew = X at *
          refine tk [0, 1, 2, 3, 4, 5, 6, 7] ?_
          repeat (refine tkH (oi := ⟨_, _, _, _, _, _⟩) (v := ?_) rfl (by kernel_rfl) (by rfl) (fun _ _ _ h => h) hS ?_ ?_; rotate_left; (· rintro W' ⟨z0, z1, z2, z3⟩; go_simp; try with_reducible rfl); try simp only [Act.put, putA, putZ, putS])
          refine tk0 ?_
          refine tH 8 (oi := ⟨_, _, _, _, _, _⟩) (v := .bool false) rfl (by kernel_rfl) (by rfl) (fun _ _ _ h => h) hS ?_ ?_
          · rintro W' ⟨z0, z1, z2, z3⟩; go_simp; (try first | exact HNE.out | rw [HNQ.out])
          try simp only [Act.put, putA, putZ, putS]
          refine wpAnyH_done (by kernel_rfl) ?_ _
          go_wp2_with fail
          go_meet
          exact ⟨rfl, HAX.out⟩
        rename World => wy
        obtain ⟨rfl, hby⟩ := hcut
        have HBY := Lib.hid hby
        clear hby
        go_wp2_with fail
        go_roundw
        case rel => exact ⟨k + 1, by omega, by go_num, HBY.out, by
          have ea := HLA.out; have eb := HLB.out
          rw [List.take_succ_eq_append_getElem (by omega), List.take_succ_eq_append_getElem (by omega), HTK.out]
          have e1 := HA.out; have e2 := HBq.out
          rw [List.getD_eq_getElem?_getD, List.getElem?_eq_getElem (by omega)] at e1 e2
          simp only [Option.getD_some] at e1 e2
          rw [e1, e2, HAB.out]⟩
        case measure => simp [intOf]; omega
      · have HNQ : Hid (∀ W, (binOp .neq 48 (.agg #[.int .i64 a1, .int .i64 a2]) (.agg #[.int .i64 b1, .int .i64 b2])).run Try.prog W = .ok (.bool true) W) := fun W => by
          rw [neq_rcell]
          by_cases e1 : a1 = b1
          · have e2 : ¬ a2 = b2 := fun e2 => hAB (HEQ.out e1 e2)
            simp [e2]
          · simp [e1]
        have HRES : Hid (lessN sa sb = decide (A < B)) := by
          have ea := HLA.out; have eb := HLB.out
          unfold Hid lessN
          rw [if_pos (by omega), lexLt_at k sa sb HTK.out (by omega) (by omega) (by rw [HA.out, HBq.out]; exact hAB), HA.out, HBq.out]
        have hne : a1 = b1 → a2 ≠ b2 := fun e1 e2 => hAB (HEQ.out e1 e2)
        have HNE := Lib.hid hne
        clear hAB HEQ HE2 hne
        go_wp2_with fail
        go_cut [27] (fun s27 wy => s27 = .bool true ∧ Below w.heap.size w wy)
        case first => as_aux_lemma =>
          have HAX := Lib.hid (HB.out.drew)
          refine wp_region_held_drew (S := fun X => X.cell? ⟨ab, ao + k * 2, none⟩ = some (.int .i64 a1) ∧ X.cell? ⟨ab, ao + k * 2 + 1, none⟩ = some (.int .i64 a2) ∧ X.cell? ⟨bb, bo + k * 2, none⟩ = some (.int .i64 b1) ∧ X.cell? ⟨bb, bo + k * 2 + 1, none⟩ = some (.int .i64 b2)) (by kernel_rfl) (HC4.out _ HAX.out) (fun hS => ?_)
          generalize wx.drew = X at *
          refine tk [0, 1, 2, 3, 4, 5, 6, 7] ?_
          repeat (refine tkH (oi := ⟨_, _, _, _, _, _⟩) (v := ?_) rfl (by kernel_rfl) (by rfl) (fun _ _ _ h => h) hS ?_ ?_; rotate_left; (· rintro W' ⟨z0, z1, z2, z3⟩; go_simp; try with_reducible rfl); try simp only [Act.put, putA, putZ, putS])
          refine tk0 ?_
          refine tH 8 (oi := ⟨_, _, _, _, _, _⟩) (v := .bool true) rfl (by kernel_rfl) (by rfl) (fun _ _ _ h => h) hS ?_ ?_
          · rintro W' ⟨z0, z1, z2, z3⟩; go_simp; (try first | exact HNE.out | rw [HNQ.out])
          try simp only [Act.put, putA, putZ, putS]
          refine wpAnyH_done (by kernel_rfl) ?_ _
          go_wp2_with fail
          go_meet
          exact ⟨rfl, HAX.out⟩
        rename World => wy
        obtain ⟨rfl, hby⟩ := hcut
        have HBY := Lib.hid hby
        clear hby
        go_wp2_with fail
        obtain ⟨lt, HLT⟩ : ∃ lt, Hid (decide (A < B) = lt) := ⟨_, rfl⟩
        go_cut [4] (fun s4 wy => s4 = .bool lt ∧ Below w.heap.size w wy)
        case first => as_aux_lemma =>
          have HAX := Lib.hid (HBY.out.drew)
          have HDL : Hid (lt = decide (a1 < b1 ∨ (a1 = b1 ∧ a2 < b2))) := by rw [Hid, ← HLT.out]; exact decide_eq_decide.2 HDI.out
          clear HLT HDI
          by_cases f1 : a1 < b1
          · have HLT : Hid (lt = true) := by rw [Hid, HDL.out]; exact decide_eq_true (.inl f1)
            · refine wp_region_held_drew (S := fun X => X.cell? ⟨ab, ao + k * 2, none⟩ = some (.int .i64 a1) ∧ X.cell? ⟨ab, ao + k * 2 + 1, none⟩ = some (.int .i64 a2) ∧ X.cell? ⟨bb, bo + k * 2, none⟩ = some (.int .i64 b1) ∧ X.cell? ⟨bb, bo + k * 2 + 1, none⟩ = some (.int .i64 b2)) (by kernel_rfl) (HC4.out _ HAX.out) (fun hS => ?_)
              generalize wy.drew = X at *
              refine tk [0, 1, 2, 3, 4, 5, 6, 7, 8, 9] ?_
              repeat (refine tkH (oi := ⟨_, _, _, _, _, _⟩) (v := ?_) rfl (by kernel_rfl) (by rfl) (fun _ _ _ h => h) hS ?_ ?_; rotate_left; (· rintro W' ⟨z0, z1, z2, z3⟩; go_simp; try with_reducible rfl); try simp only [Act.put, putA, putZ, putS])
              refine tk0 ?_
              refine tH 10 (oi := ⟨_, _, _, _, _, _⟩) (v := .bool true) rfl (by kernel_rfl) (by rfl) (fun _ _ _ h => h) hS ?_ ?_
              · rintro W' ⟨z0, z1, z2, z3⟩; go_simp; (try omega)
              try simp only [Act.put, putA, putZ, putS]
              refine tH 11 (oi := ⟨_, _, _, _, _, _⟩) (v := ?_) rfl (by kernel_rfl) (by rfl) (fun _ _ _ h => h) hS ?_ ?_
              rotate_left
              · rintro W' ⟨z0, z1, z2, z3⟩; go_simp; try with_reducible rfl
              try simp only [Act.put, putA, putZ, putS]
              refine wpAnyH_take (i := 12) (oi := ⟨some 40, _, _, _, _, _⟩) (v := undef) rfl (by kernel_rfl) (by kernel_rfl) (by kernel_rfl) (fun _ _ _ h => h) (Or.inr ⟨by rfl, rfl⟩) hS ?_
              try simp only [Act.put, putA, putZ, putS]
              refine wpAnyH_take (i := 13) (oi := ⟨some 41, _, _, _, _, _⟩) (v := undef) rfl (by kernel_rfl) (by kernel_rfl) (by kernel_rfl) (fun _ _ _ h => h) (Or.inr ⟨by rfl, rfl⟩) hS ?_
              try simp only [Act.put, putA, putZ, putS]
              refine wpAnyH_take (i := 14) (oi := ⟨some 42, _, _, _, _, _⟩) (v := undef) rfl (by kernel_rfl) (by kernel_rfl) (by kernel_rfl) (fun _ _ _ h => h) (Or.inr ⟨by rfl, rfl⟩) hS ?_
              try simp only [Act.put, putA, putZ, putS]
              refine wpAnyH_take (i := 15) (oi := ⟨some 43, _, _, _, _, _⟩) (v := undef) rfl (by kernel_rfl) (by kernel_rfl) (by kernel_rfl) (fun _ _ _ h => h) (Or.inr ⟨by rfl, rfl⟩) hS ?_
              try simp only [Act.put, putA, putZ, putS]
              refine wpAnyH_take (i := 16) (oi := ⟨some 44, _, _, _, _, _⟩) (v := undef) rfl (by kernel_rfl) (by kernel_rfl) (by kernel_rfl) (fun _ _ _ h => h) (Or.inr ⟨by rfl, rfl⟩) hS ?_
              try simp only [Act.put, putA, putZ, putS]
              refine wpAnyH_take (i := 17) (oi := ⟨some 45, _, _, _, _, _⟩) (v := undef) rfl (by kernel_rfl) (by kernel_rfl) (by kernel_rfl) (fun _ _ _ h => h) (Or.inr ⟨by rfl, rfl⟩) hS ?_
              try simp only [Act.put, putA, putZ, putS]
              refine wpAnyH_take (i := 18) (oi := ⟨some 46, _, _, _, _, _⟩) (v := undef) rfl (by kernel_rfl) (by kernel_rfl) (by kernel_rfl) (fun _ _ _ h => h) (Or.inr ⟨by rfl, rfl⟩) hS ?_
              try simp only [Act.put, putA, putZ, putS]
              refine wpAnyH_take (i := 19) (oi := ⟨some 47, _, _, _, _, _⟩) (v := undef) rfl (by kernel_rfl) (by kernel_rfl) (by kernel_rfl) (fun _ _ _ h => h) (Or.inr ⟨by rfl, rfl⟩) hS ?_
              try simp only [Act.put, putA, putZ, putS]
              refine wpAnyH_take (i := 20) (oi := ⟨some 48, _, _, _, _, _⟩) (v := undef) rfl (by kernel_rfl) (by kernel_rfl) (by kernel_rfl) (fun _ _ _ h => h) (Or.inr ⟨by rfl, rfl⟩) hS ?_
              try simp only [Act.put, putA, putZ, putS]
              refine wpAnyH_take (i := 21) (oi := ⟨some 49, _, _, _, _, _⟩) (v := undef) rfl (by kernel_rfl) (by kernel_rfl) (by kernel_rfl) (fun _ _ _ h => h) (Or.inr ⟨by rfl, rfl⟩) hS ?_
              try simp only [Act.put, putA, putZ, putS]
              refine wpAnyH_take (i := 22) (oi := ⟨some 50, _, _, _, _, _⟩) (v := undef) rfl (by kernel_rfl) (by kernel_rfl) (by kernel_rfl) (fun _ _ _ h => h) (Or.inr ⟨by rfl, rfl⟩) hS ?_
              try simp only [Act.put, putA, putZ, putS]
              refine wpAnyH_take (i := 23) (oi := ⟨some 51, _, _, _, _, _⟩) (v := undef) rfl (by kernel_rfl) (by kernel_rfl) (by kernel_rfl) (fun _ _ _ h => h) (Or.inr ⟨by rfl, rfl⟩) hS ?_
              try simp only [Act.put, putA, putZ, putS]
              refine wpAnyH_take (i := 24) (oi := ⟨some 52, _, _, _, _, _⟩) (v := undef) rfl (by kernel_rfl) (by kernel_rfl) (by kernel_rfl) (fun _ _ _ h => h) (Or.inr ⟨by rfl, rfl⟩) hS ?_
              try simp only [Act.put, putA, putZ, putS]
              refine wpAnyH_take (i := 25) (oi := ⟨some 53, _, _, _, _, _⟩) (v := undef) rfl (by kernel_rfl) (by kernel_rfl) (by kernel_rfl) (fun _ _ _ h => h) (Or.inr ⟨by rfl, rfl⟩) hS ?_
              try simp only [Act.put, putA, putZ, putS]
              refine wpAnyH_take (i := 26) (oi := ⟨some 54, _, _, _, _, _⟩) (v := undef) rfl (by kernel_rfl) (by kernel_rfl) (by kernel_rfl) (fun _ _ _ h => h) (Or.inr ⟨by rfl, rfl⟩) hS ?_
              try simp only [Act.put, putA, putZ, putS]
              refine wpAnyH_take (i := 27) (oi := ⟨some 55, _, _, _, _, _⟩) (v := undef) rfl (by kernel_rfl) (by kernel_rfl) (by kernel_rfl) (fun _ _ _ h => h) (Or.inr ⟨by rfl, rfl⟩) hS ?_
              try simp only [Act.put, putA, putZ, putS]
              refine wpAnyH_take (i := 28) (oi := ⟨some 56, _, _, _, _, _⟩) (v := undef) rfl (by kernel_rfl) (by kernel_rfl) (by kernel_rfl) (fun _ _ _ h => h) (Or.inr ⟨by rfl, rfl⟩) hS ?_
              try simp only [Act.put, putA, putZ, putS]
              refine wpAnyH_take (i := 29) (oi := ⟨some 57, _, _, _, _, _⟩) (v := undef) rfl (by kernel_rfl) (by kernel_rfl) (by kernel_rfl) (fun _ _ _ h => h) (Or.inr ⟨by rfl, rfl⟩) hS ?_
              try simp only [Act.put, putA, putZ, putS]
              refine wpAnyH_take (i := 30) (oi := ⟨some 58, _, _, _, _, _⟩) (v := undef) rfl (by kernel_rfl) (by kernel_rfl) (by kernel_rfl) (fun _ _ _ h => h) (Or.inr ⟨by rfl, rfl⟩) hS ?_
              try simp only [Act.put, putA, putZ, putS]
              refine wpAnyH_take (i := 31) (oi := ⟨some 59, _, _, _, _, _⟩) (v := undef) rfl (by kernel_rfl) (by kernel_rfl) (by kernel_rfl) (fun _ _ _ h => h) (Or.inr ⟨by rfl, rfl⟩) hS ?_
              try simp only [Act.put, putA, putZ, putS]
              refine wpAnyH_take (i := 32) (oi := ⟨some 60, _, _, _, _, _⟩) (v := undef) rfl (by kernel_rfl) (by kernel_rfl) (by kernel_rfl) (fun _ _ _ h => h) (Or.inr ⟨by rfl, rfl⟩) hS ?_
              try simp only [Act.put, putA, putZ, putS]
              refine wpAnyH_take (i := 33) (oi := ⟨some 61, _, _, _, _, _⟩) (v := undef) rfl (by kernel_rfl) (by kernel_rfl) (by kernel_rfl) (fun _ _ _ h => h) (Or.inr ⟨by rfl, rfl⟩) hS ?_
              try simp only [Act.put, putA, putZ, putS]
              refine wpAnyH_take (i := 34) (oi := ⟨some 62, _, _, _, _, _⟩) (v := undef) rfl (by kernel_rfl) (by kernel_rfl) (by kernel_rfl) (fun _ _ _ h => h) (Or.inr ⟨by rfl, rfl⟩) hS ?_
              try simp only [Act.put, putA, putZ, putS]
              refine wpAnyH_take (i := 35) (oi := ⟨some 63, _, _, _, _, _⟩) (v := undef) rfl (by kernel_rfl) (by kernel_rfl) (by kernel_rfl) (fun _ _ _ h => h) (Or.inr ⟨by rfl, rfl⟩) hS ?_
              try simp only [Act.put, putA, putZ, putS]
              refine tk [36, 37] ?_
              repeat (refine tkH (oi := ⟨_, _, _, _, _, _⟩) (v := ?_) rfl (by kernel_rfl) (by rfl) (fun _ _ _ h => h) hS ?_ ?_; rotate_left; (· rintro W' ⟨z0, z1, z2, z3⟩; go_simp; try with_reducible rfl); try simp only [Act.put, putA, putZ, putS])
              refine tk0 ?_
              refine wpAnyH_done (by kernel_rfl) ?_ _
              go_wp2_with fail
              go_meet
              exact ⟨by rw [HLT.out], HAX.out⟩
          · by_cases f2 : a1 = b1
            · by_cases f3 : a2 < b2
              · have HLT : Hid (lt = true) := by rw [Hid, HDL.out]; exact decide_eq_true (.inr ⟨f2, f3⟩)
                have g1 : a1 ≤ b1 := by omega
                have g2 : b1 ≤ a1 := by omega
                clear f2
                · refine wp_region_held_drew (S := fun X => X.cell? ⟨ab, ao + k * 2, none⟩ = some (.int .i64 a1) ∧ X.cell? ⟨ab, ao + k * 2 + 1, none⟩ = some (.int .i64 a2) ∧ X.cell? ⟨bb, bo + k * 2, none⟩ = some (.int .i64 b1) ∧ X.cell? ⟨bb, bo + k * 2 + 1, none⟩ = some (.int .i64 b2)) (by kernel_rfl) (HC4.out _ HAX.out) (fun hS => ?_)
                  generalize wy.drew = X at *
                  refine tk [0, 1, 2, 3, 4, 5, 6, 7, 8, 9] ?_
                  repeat (refine tkH (oi := ⟨_, _, _, _, _, _⟩) (v := ?_) rfl (by kernel_rfl) (by rfl) (fun _ _ _ h => h) hS ?_ ?_; rotate_left; (· rintro W' ⟨z0, z1, z2, z3⟩; go_simp; try with_reducible rfl); try simp only [Act.put, putA, putZ, putS])
                  refine tk0 ?_
                  refine tH 10 (oi := ⟨_, _, _, _, _, _⟩) (v := .bool false) rfl (by kernel_rfl) (by rfl) (fun _ _ _ h => h) hS ?_ ?_
                  · rintro W' ⟨z0, z1, z2, z3⟩; go_simp; (try omega)
                  try simp only [Act.put, putA, putZ, putS]
                  refine tk [11, 12, 13, 14, 15, 16, 17, 18, 19, 20, 21] ?_
                  repeat (refine tkH (oi := ⟨_, _, _, _, _, _⟩) (v := ?_) rfl (by kernel_rfl) (by rfl) (fun _ _ _ h => h) hS ?_ ?_; rotate_left; (· rintro W' ⟨z0, z1, z2, z3⟩; go_simp; try with_reducible rfl); try simp only [Act.put, putA, putZ, putS])
                  refine tk0 ?_
                  refine tH 22 (oi := ⟨_, _, _, _, _, _⟩) (v := .bool true) rfl (by kernel_rfl) (by rfl) (fun _ _ _ h => h) hS ?_ ?_
                  · rintro W' ⟨z0, z1, z2, z3⟩; go_simp; (try omega)
                  try simp only [Act.put, putA, putZ, putS]
                  refine tk [23, 24, 25, 26, 27, 28, 29, 30, 31, 32, 33] ?_
                  repeat (refine tkH (oi := ⟨_, _, _, _, _, _⟩) (v := ?_) rfl (by kernel_rfl) (by rfl) (fun _ _ _ h => h) hS ?_ ?_; rotate_left; (· rintro W' ⟨z0, z1, z2, z3⟩; go_simp; try with_reducible rfl); try simp only [Act.put, putA, putZ, putS])
                  refine tk0 ?_
                  refine tH 34 (oi := ⟨_, _, _, _, _, _⟩) (v := .bool true) rfl (by kernel_rfl) (by rfl) (fun _ _ _ h => h) hS ?_ ?_
                  · rintro W' ⟨z0, z1, z2, z3⟩; go_simp; (try omega)
                  try simp only [Act.put, putA, putZ, putS]
                  refine tk [35, 36, 37] ?_
                  repeat (refine tkH (oi := ⟨_, _, _, _, _, _⟩) (v := ?_) rfl (by kernel_rfl) (by rfl) (fun _ _ _ h => h) hS ?_ ?_; rotate_left; (· rintro W' ⟨z0, z1, z2, z3⟩; go_simp; try with_reducible rfl); try simp only [Act.put, putA, putZ, putS])
                  refine tk0 ?_
                  refine wpAnyH_done (by kernel_rfl) ?_ _
                  go_wp2_with fail
                  go_meet
                  exact ⟨by rw [HLT.out], HAX.out⟩
              · have HLT : Hid (lt = false) := by rw [Hid, HDL.out]; exact decide_eq_false (by omega)
                have g1 : a1 ≤ b1 := by omega
                have g2 : b1 ≤ a1 := by omega
                clear f2
                · refine wp_region_held_drew (S := fun X => X.cell? ⟨ab, ao + k * 2, none⟩ = some (.int .i64 a1) ∧ X.cell? ⟨ab, ao + k * 2 + 1, none⟩ = some (.int .i64 a2) ∧ X.cell? ⟨bb, bo + k * 2, none⟩ = some (.int .i64 b1) ∧ X.cell? ⟨bb, bo + k * 2 + 1, none⟩ = some (.int .i64 b2)) (by kernel_rfl) (HC4.out _ HAX.out) (fun hS => ?_)
                  generalize wy.drew = X at *
                  refine tk [0, 1, 2, 3, 4, 5, 6, 7, 8, 9] ?_
                  repeat (refine tkH (oi := ⟨_, _, _, _, _, _⟩) (v := ?_) rfl (by kernel_rfl) (by rfl) (fun _ _ _ h => h) hS ?_ ?_; rotate_left; (· rintro W' ⟨z0, z1, z2, z3⟩; go_simp; try with_reducible rfl); try simp only [Act.put, putA, putZ, putS])
                  refine tk0 ?_
                  refine tH 10 (oi := ⟨_, _, _, _, _, _⟩) (v := .bool false) rfl (by kernel_rfl) (by rfl) (fun _ _ _ h => h) hS ?_ ?_
                  · rintro W' ⟨z0, z1, z2, z3⟩; go_simp; (try omega)
                  try simp only [Act.put, putA, putZ, putS]
                  refine tk [11, 12, 13, 14, 15, 16, 17, 18, 19, 20, 21] ?_
                  repeat (refine tkH (oi := ⟨_, _, _, _, _, _⟩) (v := ?_) rfl (by kernel_rfl) (by rfl) (fun _ _ _ h => h) hS ?_ ?_; rotate_left; (· rintro W' ⟨z0, z1, z2, z3⟩; go_simp; try with_reducible rfl); try simp only [Act.put, putA, putZ, putS])
                  refine tk0 ?_
                  refine tH 22 (oi := ⟨_, _, _, _, _, _⟩) (v := .bool true) rfl (by kernel_rfl) (by rfl) (fun _ _ _ h => h) hS ?_ ?_
                  · rintro W' ⟨z0, z1, z2, z3⟩; go_simp; (try omega)
                  try simp only [Act.put, putA, putZ, putS]
                  refine tk [23, 24, 25, 26, 27, 28, 29, 30, 31, 32, 33] ?_
                  repeat (refine tkH (oi := ⟨_, _, _, _, _, _⟩) (v := ?_) rfl (by kernel_rfl) (by rfl) (fun _ _ _ h => h) hS ?_ ?_; rotate_left; (· rintro W' ⟨z0, z1, z2, z3⟩; go_simp; try with_reducible rfl); try simp only [Act.put, putA, putZ, putS])
                  refine tk0 ?_
                  refine tH 34 (oi := ⟨_, _, _, _, _, _⟩) (v := .bool false) rfl (by kernel_rfl) (by rfl) (fun _ _ _ h => h) hS ?_ ?_
                  · rintro W' ⟨z0, z1, z2, z3⟩; go_simp; (try omega)
                  try simp only [Act.put, putA, putZ, putS]
                  refine tk [35, 36, 37] ?_
                  repeat (refine tkH (oi := ⟨_, _, _, _, _, _⟩) (v := ?_) rfl (by kernel_rfl) (by rfl) (fun _ _ _ h => h) hS ?_ ?_; rotate_left; (· rintro W' ⟨z0, z1, z2, z3⟩; go_simp; try with_reducible rfl); try simp only [Act.put, putA, putZ, putS])
                  refine tk0 ?_
                  refine wpAnyH_done (by kernel_rfl) ?_ _
                  go_wp2_with fail
                  go_meet
                  exact ⟨by rw [HLT.out], HAX.out⟩
            · have HLT : Hid (lt = false) := by rw [Hid, HDL.out]; exact decide_eq_false (by omega)
              · refine wp_region_held_drew (S := fun X => X.cell? ⟨ab, ao + k * 2, none⟩ = some (.int .i64 a1) ∧ X.cell? ⟨ab, ao + k * 2 + 1, none⟩ = some (.int .i64 a2) ∧ X.cell? ⟨bb, bo + k * 2, none⟩ = some (.int .i64 b1) ∧ X.cell? ⟨bb, bo + k * 2 + 1, none⟩ = some (.int .i64 b2)) (by kernel_rfl) (HC4.out _ HAX.out) (fun hS => ?_)
                generalize wy.drew = X at *
                refine tk [0, 1, 2, 3, 4, 5, 6, 7, 8, 9] ?_
                repeat (refine tkH (oi := ⟨_, _, _, _, _, _⟩) (v := ?_) rfl (by kernel_rfl) (by rfl) (fun _ _ _ h => h) hS ?_ ?_; rotate_left; (· rintro W' ⟨z0, z1, z2, z3⟩; go_simp; try with_reducible rfl); try simp only [Act.put, putA, putZ, putS])
                refine tk0 ?_
                refine tH 10 (oi := ⟨_, _, _, _, _, _⟩) (v := .bool false) rfl (by kernel_rfl) (by rfl) (fun _ _ _ h => h) hS ?_ ?_
                · rintro W' ⟨z0, z1, z2, z3⟩; go_simp; (try omega)
                try simp only [Act.put, putA, putZ, putS]
                refine tk [11, 12, 13, 14, 15, 16, 17, 18, 19, 20, 21] ?_
                repeat (refine tkH (oi := ⟨_, _, _, _, _, _⟩) (v := ?_) rfl (by kernel_rfl) (by rfl) (fun _ _ _ h => h) hS ?_ ?_; rotate_left; (· rintro W' ⟨z0, z1, z2, z3⟩; go_simp; try with_reducible rfl); try simp only [Act.put, putA, putZ, putS])
                refine tk0 ?_
                refine tH 22 (oi := ⟨_, _, _, _, _, _⟩) (v := .bool false) rfl (by kernel_rfl) (by rfl) (fun _ _ _ h => h) hS ?_ ?_
                · rintro W' ⟨z0, z1, z2, z3⟩; go_simp; (try omega)
                try simp only [Act.put, putA, putZ, putS]
                refine tH 23 (oi := ⟨_, _, _, _, _, _⟩) (v := ?_) rfl (by kernel_rfl) (by rfl) (fun _ _ _ h => h) hS ?_ ?_
                rotate_left
                · rintro W' ⟨z0, z1, z2, z3⟩; go_simp; try with_reducible rfl
                try simp only [Act.put, putA, putZ, putS]
                refine wpAnyH_take (i := 24) (oi := ⟨some 52, _, _, _, _, _⟩) (v := undef) rfl (by kernel_rfl) (by kernel_rfl) (by kernel_rfl) (fun _ _ _ h => h) (Or.inr ⟨by rfl, rfl⟩) hS ?_
                try simp only [Act.put, putA, putZ, putS]
                refine wpAnyH_take (i := 25) (oi := ⟨some 53, _, _, _, _, _⟩) (v := undef) rfl (by kernel_rfl) (by kernel_rfl) (by kernel_rfl) (fun _ _ _ h => h) (Or.inr ⟨by rfl, rfl⟩) hS ?_
                try simp only [Act.put, putA, putZ, putS]
                refine wpAnyH_take (i := 26) (oi := ⟨some 54, _, _, _, _, _⟩) (v := undef) rfl (by kernel_rfl) (by kernel_rfl) (by kernel_rfl) (fun _ _ _ h => h) (Or.inr ⟨by rfl, rfl⟩) hS ?_
                try simp only [Act.put, putA, putZ, putS]
                refine wpAnyH_take (i := 27) (oi := ⟨some 55, _, _, _, _, _⟩) (v := undef) rfl (by kernel_rfl) (by kernel_rfl) (by kernel_rfl) (fun _ _ _ h => h) (Or.inr ⟨by rfl, rfl⟩) hS ?_
                try simp only [Act.put, putA, putZ, putS]
                refine wpAnyH_take (i := 28) (oi := ⟨some 56, _, _, _, _, _⟩) (v := undef) rfl (by kernel_rfl) (by kernel_rfl) (by kernel_rfl) (fun _ _ _ h => h) (Or.inr ⟨by rfl, rfl⟩) hS ?_
                try simp only [Act.put, putA, putZ, putS]
                refine wpAnyH_take (i := 29) (oi := ⟨some 57, _, _, _, _, _⟩) (v := undef) rfl (by kernel_rfl) (by kernel_rfl) (by kernel_rfl) (fun _ _ _ h => h) (Or.inr ⟨by rfl, rfl⟩) hS ?_
                try simp only [Act.put, putA, putZ, putS]
                refine wpAnyH_take (i := 30) (oi := ⟨some 58, _, _, _, _, _⟩) (v := undef) rfl (by kernel_rfl) (by kernel_rfl) (by kernel_rfl) (fun _ _ _ h => h) (Or.inr ⟨by rfl, rfl⟩) hS ?_
                try simp only [Act.put, putA, putZ, putS]
                refine wpAnyH_take (i := 31) (oi := ⟨some 59, _, _, _, _, _⟩) (v := undef) rfl (by kernel_rfl) (by kernel_rfl) (by kernel_rfl) (fun _ _ _ h => h) (Or.inr ⟨by rfl, rfl⟩) hS ?_
                try simp only [Act.put, putA, putZ, putS]
                refine wpAnyH_take (i := 32) (oi := ⟨some 60, _, _, _, _, _⟩) (v := undef) rfl (by kernel_rfl) (by kernel_rfl) (by kernel_rfl) (fun _ _ _ h => h) (Or.inr ⟨by rfl, rfl⟩) hS ?_
                try simp only [Act.put, putA, putZ, putS]
                refine wpAnyH_take (i := 33) (oi := ⟨some 61, _, _, _, _, _⟩) (v := undef) rfl (by kernel_rfl) (by kernel_rfl) (by kernel_rfl) (fun _ _ _ h => h) (Or.inr ⟨by rfl, rfl⟩) hS ?_
                try simp only [Act.put, putA, putZ, putS]
                refine wpAnyH_take (i := 34) (oi := ⟨some 62, _, _, _, _, _⟩) (v := undef) rfl (by kernel_rfl) (by kernel_rfl) (by kernel_rfl) (fun _ _ _ h => h) (Or.inr ⟨by rfl, rfl⟩) hS ?_
                try simp only [Act.put, putA, putZ, putS]
                refine tk [35, 36, 37] ?_
                repeat (refine tkH (oi := ⟨_, _, _, _, _, _⟩) (v := ?_) rfl (by kernel_rfl) (by rfl) (fun _ _ _ h => h) hS ?_ ?_; rotate_left; (· rintro W' ⟨z0, z1, z2, z3⟩; go_simp; try with_reducible rfl); try simp only [Act.put, putA, putZ, putS])
                refine tk0 ?_
                refine wpAnyH_done (by kernel_rfl) ?_ _
                go_wp2_with fail
                go_meet
                exact ⟨by rw [HLT.out], HAX.out⟩
        rename World => wz
        obtain ⟨rfl, hbz⟩ := hcut
        have HBZ := Lib.hid hbz
        clear hbz
        go_wp2_with fail
        go_ret
        exact ⟨ret_bool (by rw [HRES.out, HLT.out]), HBZ.out⟩
    · obtain rfl : k = n := by omega
      have HRES : Hid (lessN sa sb = false) := by
        have ea := HLA.out; have eb := HLB.out; have et := HTK.out
        have e : sa = sb := by
          rw [List.take_of_length_le (by omega), List.take_of_length_le (by omega)] at et
          exact et
        unfold Hid lessN
        rw [e, if_pos rfl]
        exact lexLt_self sb
      go_wp2_with fail
      go_ret
      exact ⟨ret_bool (by rw [HRES.out]; try simp), HB.out⟩
end Go.Proofs.Ytjaoflfophcibaa
