/- Play (the program's): the closure add of step. Printed by gen_ik.py. -/
import Derived.Test.YtjaoflfophcibaaIJ
namespace Go.Proofs.Ytjaoflfophcibaa
open Go.RowKit Go.Shelf

theorem bk_ne {w X : World} {L : List (Nat × Array Value × TypeId)} {b b' : Nat} {cs cs' : Array Value} {T T' : TypeId} (h : BF w X L) (hb : (b, cs, T) ∈ L) (hb' : (b', cs', T') ∈ L) (hT : T ≠ T') : b ≠ b' := by
  intro e
  subst e
  have h1 := (h.bk _ _ _ hb).2
  rw [(h.bk _ _ _ hb').2] at h1
  cases h1
  exact hT rfl
theorem own_ne4 {w0 X : World} {base n g c : Nat} {xs : List Value} {L : List (Nat × Array Value × TypeId)} (hA : BF w0 X L) (ho : X.ownsRow base 3 1 (.slice (some ⟨g, 0, none⟩) n c) n xs) {L' : List (Nat × Array Value × TypeId)} (hL : ∀ p, p ∈ L' → p ∈ L) (hT : ∀ p, p ∈ L' → p.2.2 ≠ 3) : ∀ p, p ∈ L' → ¬ p.1 = g :=
  fun p hp e => own_type_ne ho (hA.bk p.1 p.2.1 p.2.2 (hL p hp)).2 (hT p hp) (by show some g = some p.1; rw [e])
set_option maxRecDepth 100000 in
set_option maxHeartbeats 4000000 in
theorem add_any (w0 w : World) (BC BT BD BN nx ng nc nr rc dl dc tg rt : Nat) (tc tb tn : Value) (ra da : Option Addr) (cn : Bool) (R : Nat → R2) (D z : Nat → Int) (n : Int)
    (hA : BF w0 w [(BC, #[.bool cn], 4), (BT, #[tc, tb, .slice ra nr rc, tn], 36), (BD, #[.slice da dl dc], 72), (BN, #[.slice (some ⟨nx, 0, none⟩) ng nc], 72)])
    (ho : w.ownsRow w0.heap.size 3 1 (.slice (some ⟨nx, 0, none⟩) ng nc) ng (iL z ng)) (hr : RsAt w0 (.slice ra nr rc) nr R) (hd : IntsAt w0 (.slice da dl dc) dl D) (htn : tg < ng) (hrn : rt < nr) (hrd : rt < dl) :
    Calls Try.prog 121 #[.int .i64 tg, .int .i64 n, .int .i64 rt, .pointer (some ⟨BC, 0, none⟩), .pointer (some ⟨BT, 0, none⟩), .pointer (some ⟨BD, 0, none⟩), .pointer (some ⟨BN, 0, none⟩)] w fun e w' => ∃ cn', e = .returned (.tuple #[]) ∧ cn' = (cn && (decide (0 ≤ n) && inB (D rt) (deadW (R rt) n).1 (deadW (R rt) n).2)) ∧
      BF w0 w' [(BC, #[.bool cn'], 4), (BT, #[tc, tb, .slice ra nr rc, tn], 36), (BD, #[.slice da dl dc], 72), (BN, #[.slice (some ⟨nx, 0, none⟩) ng nc], 72)] ∧
      w'.ownsRow w0.heap.size 3 1 (.slice (some ⟨nx, 0, none⟩) ng nc) ng (iL (fun g => if g = tg then wrap64 (z tg + wrap64 (n - D rt)) else z g) ng) := by
  obtain ⟨rb, ro, rfl, hrb, x1, x2⟩ := hr.at hrn
  obtain ⟨db, d0, rfl, hdb, x3⟩ := hd.at hrd
  obtain ⟨r1, r2, hR⟩ : ∃ r1 r2, R rt = (r1, r2) := ⟨_, _, rfl⟩
  obtain ⟨dd, hD⟩ : ∃ dd, D rt = dd := ⟨_, rfl⟩
  obtain ⟨zt, hZ⟩ : ∃ zt, z tg = zt := ⟨_, rfl⟩
  rw [hR] at x1 x2 ⊢
  rw [hD] at x3 ⊢
  rw [hZ]
  have HX := Lib.hid (And.intro hrb (And.intro x1 (And.intro x2 (And.intro hdb x3))))
  obtain ⟨d1, d2, hdw⟩ : ∃ d1 d2, deadW (r1, r2) n = (d1, d2) := ⟨_, _, rfl⟩
  obtain ⟨hh, hin⟩ : ∃ hh, inB dd d1 d2 = hh := ⟨_, rfl⟩
  rw [hdw]
  simp only
  rw [hin]
  have HDW : Hid ((deadW (r1, r2) n).1 = d1 ∧ (deadW (r1, r2) n).2 = d2) := ⟨by rw [hdw], by rw [hdw]⟩
  have HIN := Lib.hid hin
  have HA := Lib.hid hA; have HO := Lib.hid ho
  have ti : (0 : Int) ≤ (tg : Int) := by omega
  have tj : (tg : Int) < (ng : Int) := by omega
  have ri : (0 : Int) ≤ (rt : Int) := by omega
  have rj : (rt : Int) < (nr : Int) := by omega
  have rk : (rt : Int) < (dl : Int) := by omega
  clear hA ho hr hd x1 x2 x3 hrb hdb hdw hin hR hD
  go_enter Try.func121, Try.ntmps121
  go_wp2_with fail
  go_cut [] (fun wx => ∃ cn', cn' = (cn && (decide (0 ≤ n) && hh)) ∧ BF w0 wx [(BC, #[.bool cn'], 4), (BT, #[tc, tb, .slice (some ⟨rb, ro, none⟩) nr rc, tn], 36), (BD, #[.slice (some ⟨db, d0, none⟩) dl dc], 72), (BN, #[.slice (some ⟨nx, 0, none⟩) ng nc], 72)] ∧ wx.ownsRow w0.heap.size 3 1 (.slice (some ⟨nx, 0, none⟩) ng nc) ng (iL z ng))
  case first =>
    have HAX := Lib.hid (HA.out.below (Below.refl _ w).drew)
    have HOX := Lib.hid (own_below HO.out (Below.refl _ w).drew)
    cases cn
    · have HV : Hid (false = (false && (decide (0 ≤ n) && hh))) := rfl
      refine wp_region_Z (S := fun X => X.cell? ⟨BC, 0, none⟩ = some (.bool false) ∧ X.cell? ⟨BT, 2, none⟩ = some (.slice (some ⟨rb, ro, none⟩) nr rc) ∧ X.cell? ⟨rb, ro + rt * 2, none⟩ = some (.int .i64 r1) ∧ X.cell? ⟨rb, ro + rt * 2 + 1, none⟩ = some (.int .i64 r2) ∧ X.cell? ⟨BD, 0, none⟩ = some (.slice (some ⟨db, d0, none⟩) dl dc) ∧ X.cell? ⟨db, d0 + rt, none⟩ = some (.int .i64 dd)) (by kernel_rfl) (⟨HAX.out.cell (.head _) 0, HAX.out.cell (.tail _ (.head _)) 2, kept HAX.out.fr HX.out.1 HX.out.2.1, kept HAX.out.fr HX.out.1 HX.out.2.2.1, HAX.out.cell (.tail _ (.tail _ (.head _))) 0, kept HAX.out.fr HX.out.2.2.2.1 HX.out.2.2.2.2⟩) (fun hS => ?_)
      generalize w.drew = X at *
      refine tk [0, 1] ?_
      repeat (refine tkZ (oi := ⟨_, _, _, _, _, _⟩) (v := ?_) rfl (by kernel_rfl) (by rfl) (fun _ _ _ h => h) hS ?_ ?_; rotate_left; (· rintro W' ⟨z0, z1, z2, z3, z4, z5⟩; go_simp; try with_reducible rfl); try simp only [Act.put, putA, putZ, putS])
      refine tk0 ?_
      refine wpAnyZ_take (i := 2) (oi := ⟨some 12, _, _, _, _, _⟩) (v := undef) rfl (by kernel_rfl) (by kernel_rfl) (by kernel_rfl) (fun _ _ _ h => h) (Or.inr ⟨by rfl, rfl⟩) hS ?_
      try simp only [Act.put, putA, putZ, putS]
      refine wpAnyZ_take (i := 3) (oi := ⟨some 13, _, _, _, _, _⟩) (v := undef) rfl (by kernel_rfl) (by kernel_rfl) (by kernel_rfl) (fun _ _ _ h => h) (Or.inr ⟨by rfl, rfl⟩) hS ?_
      try simp only [Act.put, putA, putZ, putS]
      refine tk [4, 5] ?_
      repeat (refine tkZ (oi := ⟨_, _, _, _, _, _⟩) (v := ?_) rfl (by kernel_rfl) (by rfl) (fun _ _ _ h => h) hS ?_ ?_; rotate_left; (· rintro W' ⟨z0, z1, z2, z3, z4, z5⟩; go_simp; try with_reducible rfl); try simp only [Act.put, putA, putZ, putS])
      refine tk0 ?_
      refine wpAnyZ_take (i := 6) (oi := ⟨some 16, _, _, _, _, _⟩) (v := undef) rfl (by kernel_rfl) (by kernel_rfl) (by kernel_rfl) (fun _ _ _ h => h) (Or.inr ⟨by rfl, rfl⟩) hS ?_
      try simp only [Act.put, putA, putZ, putS]
      refine wpAnyZ_take (i := 7) (oi := ⟨some 17, _, _, _, _, _⟩) (v := undef) rfl (by kernel_rfl) (by kernel_rfl) (by kernel_rfl) (fun _ _ _ h => h) (Or.inr ⟨by rfl, rfl⟩) hS ?_
      try simp only [Act.put, putA, putZ, putS]
      refine wpAnyZ_take (i := 8) (oi := ⟨some 18, _, _, _, _, _⟩) (v := undef) rfl (by kernel_rfl) (by kernel_rfl) (by kernel_rfl) (fun _ _ _ h => h) (Or.inr ⟨by rfl, rfl⟩) hS ?_
      try simp only [Act.put, putA, putZ, putS]
      refine wpAnyZ_take (i := 9) (oi := ⟨some 19, _, _, _, _, _⟩) (v := undef) rfl (by kernel_rfl) (by kernel_rfl) (by kernel_rfl) (fun _ _ _ h => h) (Or.inr ⟨by rfl, rfl⟩) hS ?_
      try simp only [Act.put, putA, putZ, putS]
      refine wpAnyZ_take (i := 10) (oi := ⟨some 20, _, _, _, _, _⟩) (v := undef) rfl (by kernel_rfl) (by kernel_rfl) (by kernel_rfl) (fun _ _ _ h => h) (Or.inr ⟨by rfl, rfl⟩) hS ?_
      try simp only [Act.put, putA, putZ, putS]
      refine wpAnyZ_take (i := 11) (oi := ⟨some 21, _, _, _, _, _⟩) (v := undef) rfl (by kernel_rfl) (by kernel_rfl) (by kernel_rfl) (fun _ _ _ h => h) (Or.inr ⟨by rfl, rfl⟩) hS ?_
      try simp only [Act.put, putA, putZ, putS]
      refine wpAnyZ_take (i := 12) (oi := ⟨some 22, _, _, _, _, _⟩) (v := undef) rfl (by kernel_rfl) (by kernel_rfl) (by kernel_rfl) (fun _ _ _ h => h) (Or.inr ⟨by rfl, rfl⟩) hS ?_
      try simp only [Act.put, putA, putZ, putS]
      refine wpAnyZ_take (i := 13) (oi := ⟨some 23, _, _, _, _, _⟩) (v := undef) rfl (by kernel_rfl) (by kernel_rfl) (by kernel_rfl) (fun _ _ _ h => h) (Or.inr ⟨by rfl, rfl⟩) hS ?_
      try simp only [Act.put, putA, putZ, putS]
      refine wpAnyZ_take (i := 14) (oi := ⟨some 24, _, _, _, _, _⟩) (v := undef) rfl (by kernel_rfl) (by kernel_rfl) (by kernel_rfl) (fun _ _ _ h => h) (Or.inr ⟨by rfl, rfl⟩) hS ?_
      try simp only [Act.put, putA, putZ, putS]
      refine wpAnyZ_take (i := 15) (oi := ⟨some 25, _, _, _, _, _⟩) (v := undef) rfl (by kernel_rfl) (by kernel_rfl) (by kernel_rfl) (fun _ _ _ h => h) (Or.inr ⟨by rfl, rfl⟩) hS ?_
      try simp only [Act.put, putA, putZ, putS]
      refine wpAnyZ_take (i := 16) (oi := ⟨some 26, _, _, _, _, _⟩) (v := undef) rfl (by kernel_rfl) (by kernel_rfl) (by kernel_rfl) (fun _ _ _ h => h) (Or.inr ⟨by rfl, rfl⟩) hS ?_
      try simp only [Act.put, putA, putZ, putS]
      refine wpAnyZ_take (i := 17) (oi := ⟨some 27, _, _, _, _, _⟩) (v := undef) rfl (by kernel_rfl) (by kernel_rfl) (by kernel_rfl) (fun _ _ _ h => h) (Or.inr ⟨by rfl, rfl⟩) hS ?_
      try simp only [Act.put, putA, putZ, putS]
      refine tZ 18 (oi := ⟨_, _, _, _, _, _⟩) (v := ?_) rfl (by kernel_rfl) (by rfl) (fun _ _ _ h => h) hS ?_ ?_
      rotate_left
      · rintro W' ⟨z0, z1, z2, z3, z4, z5⟩; go_simp; try with_reducible rfl
      try simp only [Act.put, putA, putZ, putS]
      refine wpAnyZ_next (rs := [19]) (by kernel_rfl) (by simp) ?_
      refine NextZ.last (o := ⟨none, _, _, _, _, _⟩) rfl (by kernel_rfl) (fun K hK => ?_)
      have e0 := HAX.out.cell (.head _) 0
      have f0 := HAX.out.thaw (.head _) 0
      have HO0 := Lib.hid (own_fr HOX.out (Fr.set X BC 0 (.bool false)) (fun g cur e _ hg eq => by subst eq; rw [(HAX.out.bk _ _ _ (.head _)).2] at hg; cases hg))
      have HA0 := Lib.hid (BF.set1 (i := 0) (cs' := #[.bool false]) HAX.out (.head _) (.bool false) (by simp) rfl (L' := [(BT, #[tc, tb, .slice (some ⟨rb, ro, none⟩) nr rc, tn], 36), (BD, #[.slice (some ⟨db, d0, none⟩) dl dc], 72), (BN, #[.slice (some ⟨nx, 0, none⟩) ng nc], 72)]) (List.forall_mem_cons.2 ⟨⟨bk_ne HAX.out (.tail _ (.head _)) (.head _) (by decide), (.tail _ (.head _))⟩, List.forall_mem_cons.2 ⟨⟨bk_ne HAX.out (.tail _ (.tail _ (.head _))) (.head _) (by decide), (.tail _ (.tail _ (.head _)))⟩, List.forall_mem_cons.2 ⟨⟨bk_ne HAX.out (.tail _ (.tail _ (.tail _ (.head _)))) (.head _) (by decide), (.tail _ (.tail _ (.tail _ (.head _))))⟩, List.forall_mem_nil _⟩⟩⟩))
      go_simp
      refine hK.out _ _ ?_
      clear hK K e0 f0
      (try simp only [Act.put])
      refine wpAnyZ_done (by kernel_rfl) ?_ _
      go_wp2_with fail
      go_meet
      exact ⟨false, HV.out, HA0.out, HO0.out⟩
    · by_cases hn : 0 ≤ n
      · have HV : Hid (hh = (true && (decide (0 ≤ n) && hh))) := by unfold Hid; rw [decide_eq_true hn]; rfl
        refine wp_region_Z (S := fun X => X.cell? ⟨BC, 0, none⟩ = some (.bool true) ∧ X.cell? ⟨BT, 2, none⟩ = some (.slice (some ⟨rb, ro, none⟩) nr rc) ∧ X.cell? ⟨rb, ro + rt * 2, none⟩ = some (.int .i64 r1) ∧ X.cell? ⟨rb, ro + rt * 2 + 1, none⟩ = some (.int .i64 r2) ∧ X.cell? ⟨BD, 0, none⟩ = some (.slice (some ⟨db, d0, none⟩) dl dc) ∧ X.cell? ⟨db, d0 + rt, none⟩ = some (.int .i64 dd)) (by kernel_rfl) (⟨HAX.out.cell (.head _) 0, HAX.out.cell (.tail _ (.head _)) 2, kept HAX.out.fr HX.out.1 HX.out.2.1, kept HAX.out.fr HX.out.1 HX.out.2.2.1, HAX.out.cell (.tail _ (.tail _ (.head _))) 0, kept HAX.out.fr HX.out.2.2.2.1 HX.out.2.2.2.2⟩) (fun hS => ?_)
        generalize w.drew = X at *
        refine tk [0, 1, 2] ?_
        repeat (refine tkZ (oi := ⟨_, _, _, _, _, _⟩) (v := ?_) rfl (by kernel_rfl) (by rfl) (fun _ _ _ h => h) hS ?_ ?_; rotate_left; (· rintro W' ⟨z0, z1, z2, z3, z4, z5⟩; go_simp; try with_reducible rfl); try simp only [Act.put, putA, putZ, putS])
        refine tk0 ?_
        refine tZ 3 (oi := ⟨_, _, _, _, _, _⟩) (v := .bool true) rfl (by kernel_rfl) (by rfl) (fun _ _ _ h => h) hS ?_ ?_
        · rintro W' ⟨z0, z1, z2, z3, z4, z5⟩; go_simp; (try omega)
        try simp only [Act.put, putA, putZ, putS]
        refine tk [4, 5, 6, 7, 8, 9, 10, 11, 13, 14, 15, 16] ?_
        repeat (refine tkZ (oi := ⟨_, _, _, _, _, _⟩) (v := ?_) rfl (by kernel_rfl) (by rfl) (fun _ _ _ h => h) hS ?_ ?_; rotate_left; (· rintro W' ⟨z0, z1, z2, z3, z4, z5⟩; go_simp; try with_reducible rfl); try simp only [Act.put, putA, putZ, putS])
        refine tk0 ?_
        refine wpAnyZ_next (rs := [12]) (by kernel_rfl) (by simp) ?_
        refine NextZ.cons (o := ⟨some 22, _, _, _, _, _⟩) rfl (fun K hK => ?_) NextZ.nil
        go_simp
        refine (deadW_any n r1 r2 _).mono ?_
        rw [HDW.out.1, HDW.out.2]
        rintro _ X0 ⟨rfl, hb0⟩
        (try go_wp2_with fail)
        have HA0 := Lib.hid (HAX.out.below hb0)
        have HO0 := Lib.hid (own_below HOX.out hb0)
        refine hK.out _ _ (⟨HA0.out.cell (.head _) 0, HA0.out.cell (.tail _ (.head _)) 2, kept HA0.out.fr HX.out.1 HX.out.2.1, kept HA0.out.fr HX.out.1 HX.out.2.2.1, HA0.out.cell (.tail _ (.tail _ (.head _))) 0, kept HA0.out.fr HX.out.2.2.2.1 HX.out.2.2.2.2⟩) (fun hS => ?_)
        clear hK K
        try simp only [Act.put, putA, putZ, putS]
        clear hb0
        refine wpAnyZ_next (rs := [17]) (by kernel_rfl) (by simp) ?_
        refine NextZ.cons (o := ⟨some 27, _, _, _, _, _⟩) rfl (fun K hK => ?_) NextZ.nil
        go_simp
        refine (has_any d1 d2 dd _).mono ?_
        rw [HIN.out]
        rintro _ X1 ⟨rfl, hb1⟩
        (try go_wp2_with fail)
        have HA1 := Lib.hid (HA0.out.below hb1)
        have HO1 := Lib.hid (own_below HO0.out hb1)
        refine hK.out _ _ (⟨HA1.out.cell (.head _) 0, HA1.out.cell (.tail _ (.head _)) 2, kept HA1.out.fr HX.out.1 HX.out.2.1, kept HA1.out.fr HX.out.1 HX.out.2.2.1, HA1.out.cell (.tail _ (.tail _ (.head _))) 0, kept HA1.out.fr HX.out.2.2.2.1 HX.out.2.2.2.2⟩) (fun hS => ?_)
        clear hK K
        try simp only [Act.put, putA, putZ, putS]
        clear hb1
        refine tZ 18 (oi := ⟨_, _, _, _, _, _⟩) (v := ?_) rfl (by kernel_rfl) (by rfl) (fun _ _ _ h => h) hS ?_ ?_
        rotate_left
        · rintro W' ⟨z0, z1, z2, z3, z4, z5⟩; go_simp; try with_reducible rfl
        try simp only [Act.put, putA, putZ, putS]
        refine wpAnyZ_next (rs := [19]) (by kernel_rfl) (by simp) ?_
        refine NextZ.last (o := ⟨none, _, _, _, _, _⟩) rfl (by kernel_rfl) (fun K hK => ?_)
        have e0 := HA1.out.cell (.head _) 0
        have f0 := HA1.out.thaw (.head _) 0
        have HO2 := Lib.hid (own_fr HO1.out (Fr.set X1 BC 0 (.bool hh)) (fun g cur e _ hg eq => by subst eq; rw [(HA1.out.bk _ _ _ (.head _)).2] at hg; cases hg))
        have HA2 := Lib.hid (BF.set1 (i := 0) (cs' := #[.bool hh]) HA1.out (.head _) (.bool hh) (by simp) rfl (L' := [(BT, #[tc, tb, .slice (some ⟨rb, ro, none⟩) nr rc, tn], 36), (BD, #[.slice (some ⟨db, d0, none⟩) dl dc], 72), (BN, #[.slice (some ⟨nx, 0, none⟩) ng nc], 72)]) (List.forall_mem_cons.2 ⟨⟨bk_ne HA1.out (.tail _ (.head _)) (.head _) (by decide), (.tail _ (.head _))⟩, List.forall_mem_cons.2 ⟨⟨bk_ne HA1.out (.tail _ (.tail _ (.head _))) (.head _) (by decide), (.tail _ (.tail _ (.head _)))⟩, List.forall_mem_cons.2 ⟨⟨bk_ne HA1.out (.tail _ (.tail _ (.tail _ (.head _)))) (.head _) (by decide), (.tail _ (.tail _ (.tail _ (.head _))))⟩, List.forall_mem_nil _⟩⟩⟩))
        go_simp
        refine hK.out _ _ ?_
        clear hK K e0 f0
        (try simp only [Act.put])
        refine wpAnyZ_done (by kernel_rfl) ?_ _
        go_wp2_with fail
        go_meet
        exact ⟨hh, HV.out, HA2.out, HO2.out⟩
      · have HV : Hid (false = (true && (decide (0 ≤ n) && hh))) := by unfold Hid; rw [decide_eq_false hn]; rfl
        refine wp_region_Z (S := fun X => X.cell? ⟨BC, 0, none⟩ = some (.bool true) ∧ X.cell? ⟨BT, 2, none⟩ = some (.slice (some ⟨rb, ro, none⟩) nr rc) ∧ X.cell? ⟨rb, ro + rt * 2, none⟩ = some (.int .i64 r1) ∧ X.cell? ⟨rb, ro + rt * 2 + 1, none⟩ = some (.int .i64 r2) ∧ X.cell? ⟨BD, 0, none⟩ = some (.slice (some ⟨db, d0, none⟩) dl dc) ∧ X.cell? ⟨db, d0 + rt, none⟩ = some (.int .i64 dd)) (by kernel_rfl) (⟨HAX.out.cell (.head _) 0, HAX.out.cell (.tail _ (.head _)) 2, kept HAX.out.fr HX.out.1 HX.out.2.1, kept HAX.out.fr HX.out.1 HX.out.2.2.1, HAX.out.cell (.tail _ (.tail _ (.head _))) 0, kept HAX.out.fr HX.out.2.2.2.1 HX.out.2.2.2.2⟩) (fun hS => ?_)
        generalize w.drew = X at *
        refine tk [0, 1, 2] ?_
        repeat (refine tkZ (oi := ⟨_, _, _, _, _, _⟩) (v := ?_) rfl (by kernel_rfl) (by rfl) (fun _ _ _ h => h) hS ?_ ?_; rotate_left; (· rintro W' ⟨z0, z1, z2, z3, z4, z5⟩; go_simp; try with_reducible rfl); try simp only [Act.put, putA, putZ, putS])
        refine tk0 ?_
        refine tZ 3 (oi := ⟨_, _, _, _, _, _⟩) (v := .bool false) rfl (by kernel_rfl) (by rfl) (fun _ _ _ h => h) hS ?_ ?_
        · rintro W' ⟨z0, z1, z2, z3, z4, z5⟩; go_simp; (try omega)
        try simp only [Act.put, putA, putZ, putS]
        refine tk [4, 5] ?_
        repeat (refine tkZ (oi := ⟨_, _, _, _, _, _⟩) (v := ?_) rfl (by kernel_rfl) (by rfl) (fun _ _ _ h => h) hS ?_ ?_; rotate_left; (· rintro W' ⟨z0, z1, z2, z3, z4, z5⟩; go_simp; try with_reducible rfl); try simp only [Act.put, putA, putZ, putS])
        refine tk0 ?_
        refine wpAnyZ_take (i := 6) (oi := ⟨some 16, _, _, _, _, _⟩) (v := undef) rfl (by kernel_rfl) (by kernel_rfl) (by kernel_rfl) (fun _ _ _ h => h) (Or.inr ⟨by rfl, rfl⟩) hS ?_
        try simp only [Act.put, putA, putZ, putS]
        refine wpAnyZ_take (i := 7) (oi := ⟨some 17, _, _, _, _, _⟩) (v := undef) rfl (by kernel_rfl) (by kernel_rfl) (by kernel_rfl) (fun _ _ _ h => h) (Or.inr ⟨by rfl, rfl⟩) hS ?_
        try simp only [Act.put, putA, putZ, putS]
        refine wpAnyZ_take (i := 8) (oi := ⟨some 18, _, _, _, _, _⟩) (v := undef) rfl (by kernel_rfl) (by kernel_rfl) (by kernel_rfl) (fun _ _ _ h => h) (Or.inr ⟨by rfl, rfl⟩) hS ?_
        try simp only [Act.put, putA, putZ, putS]
        refine wpAnyZ_take (i := 9) (oi := ⟨some 19, _, _, _, _, _⟩) (v := undef) rfl (by kernel_rfl) (by kernel_rfl) (by kernel_rfl) (fun _ _ _ h => h) (Or.inr ⟨by rfl, rfl⟩) hS ?_
        try simp only [Act.put, putA, putZ, putS]
        refine wpAnyZ_take (i := 10) (oi := ⟨some 20, _, _, _, _, _⟩) (v := undef) rfl (by kernel_rfl) (by kernel_rfl) (by kernel_rfl) (fun _ _ _ h => h) (Or.inr ⟨by rfl, rfl⟩) hS ?_
        try simp only [Act.put, putA, putZ, putS]
        refine wpAnyZ_take (i := 11) (oi := ⟨some 21, _, _, _, _, _⟩) (v := undef) rfl (by kernel_rfl) (by kernel_rfl) (by kernel_rfl) (fun _ _ _ h => h) (Or.inr ⟨by rfl, rfl⟩) hS ?_
        try simp only [Act.put, putA, putZ, putS]
        refine wpAnyZ_take (i := 12) (oi := ⟨some 22, _, _, _, _, _⟩) (v := undef) rfl (by kernel_rfl) (by kernel_rfl) (by kernel_rfl) (fun _ _ _ h => h) (Or.inr ⟨by rfl, rfl⟩) hS ?_
        try simp only [Act.put, putA, putZ, putS]
        refine wpAnyZ_take (i := 13) (oi := ⟨some 23, _, _, _, _, _⟩) (v := undef) rfl (by kernel_rfl) (by kernel_rfl) (by kernel_rfl) (fun _ _ _ h => h) (Or.inr ⟨by rfl, rfl⟩) hS ?_
        try simp only [Act.put, putA, putZ, putS]
        refine wpAnyZ_take (i := 14) (oi := ⟨some 24, _, _, _, _, _⟩) (v := undef) rfl (by kernel_rfl) (by kernel_rfl) (by kernel_rfl) (fun _ _ _ h => h) (Or.inr ⟨by rfl, rfl⟩) hS ?_
        try simp only [Act.put, putA, putZ, putS]
        refine wpAnyZ_take (i := 15) (oi := ⟨some 25, _, _, _, _, _⟩) (v := undef) rfl (by kernel_rfl) (by kernel_rfl) (by kernel_rfl) (fun _ _ _ h => h) (Or.inr ⟨by rfl, rfl⟩) hS ?_
        try simp only [Act.put, putA, putZ, putS]
        refine wpAnyZ_take (i := 16) (oi := ⟨some 26, _, _, _, _, _⟩) (v := undef) rfl (by kernel_rfl) (by kernel_rfl) (by kernel_rfl) (fun _ _ _ h => h) (Or.inr ⟨by rfl, rfl⟩) hS ?_
        try simp only [Act.put, putA, putZ, putS]
        refine wpAnyZ_take (i := 17) (oi := ⟨some 27, _, _, _, _, _⟩) (v := undef) rfl (by kernel_rfl) (by kernel_rfl) (by kernel_rfl) (fun _ _ _ h => h) (Or.inr ⟨by rfl, rfl⟩) hS ?_
        try simp only [Act.put, putA, putZ, putS]
        refine tZ 18 (oi := ⟨_, _, _, _, _, _⟩) (v := ?_) rfl (by kernel_rfl) (by rfl) (fun _ _ _ h => h) hS ?_ ?_
        rotate_left
        · rintro W' ⟨z0, z1, z2, z3, z4, z5⟩; go_simp; try with_reducible rfl
        try simp only [Act.put, putA, putZ, putS]
        refine wpAnyZ_next (rs := [19]) (by kernel_rfl) (by simp) ?_
        refine NextZ.last (o := ⟨none, _, _, _, _, _⟩) rfl (by kernel_rfl) (fun K hK => ?_)
        have e0 := HAX.out.cell (.head _) 0
        have f0 := HAX.out.thaw (.head _) 0
        have HO0 := Lib.hid (own_fr HOX.out (Fr.set X BC 0 (.bool false)) (fun g cur e _ hg eq => by subst eq; rw [(HAX.out.bk _ _ _ (.head _)).2] at hg; cases hg))
        have HA0 := Lib.hid (BF.set1 (i := 0) (cs' := #[.bool false]) HAX.out (.head _) (.bool false) (by simp) rfl (L' := [(BT, #[tc, tb, .slice (some ⟨rb, ro, none⟩) nr rc, tn], 36), (BD, #[.slice (some ⟨db, d0, none⟩) dl dc], 72), (BN, #[.slice (some ⟨nx, 0, none⟩) ng nc], 72)]) (List.forall_mem_cons.2 ⟨⟨bk_ne HAX.out (.tail _ (.head _)) (.head _) (by decide), (.tail _ (.head _))⟩, List.forall_mem_cons.2 ⟨⟨bk_ne HAX.out (.tail _ (.tail _ (.head _))) (.head _) (by decide), (.tail _ (.tail _ (.head _)))⟩, List.forall_mem_cons.2 ⟨⟨bk_ne HAX.out (.tail _ (.tail _ (.tail _ (.head _)))) (.head _) (by decide), (.tail _ (.tail _ (.tail _ (.head _))))⟩, List.forall_mem_nil _⟩⟩⟩))
        go_simp
        refine hK.out _ _ ?_
        clear hK K e0 f0
        (try simp only [Act.put])
        refine wpAnyZ_done (by kernel_rfl) ?_ _
        go_wp2_with fail
        go_meet
        exact ⟨false, HV.out, HA0.out, HO0.out⟩
  rename World => wr
  obtain ⟨cn', hcn, hbf, hor⟩ := hcut
  have HRES := Lib.hid hcn
  have HAX := Lib.hid (hbf.below (Below.refl _ wr).drew)
  have HOX := Lib.hid (own_below hor (Below.refl _ wr).drew)
  have h1 := (HOX.out.cellAt tg (by omega)).trans (iL_get z htn)
  rw [hZ] at h1
  clear hcn hbf hor HA HO
  (try go_wp2_with fail)
  refine wp_region_Z (S := fun X => X.cell? ⟨BN, 0, none⟩ = some (.slice (some ⟨nx, 0, none⟩) ng nc) ∧ X.cell? ⟨nx, tg, none⟩ = some (.int .i64 zt) ∧ X.cell? ⟨BD, 0, none⟩ = some (.slice (some ⟨db, d0, none⟩) dl dc) ∧ X.cell? ⟨db, d0 + rt, none⟩ = some (.int .i64 dd)) (by kernel_rfl) (⟨HAX.out.cell (.tail _ (.tail _ (.tail _ (.head _)))) 0, h1, HAX.out.cell (.tail _ (.tail _ (.head _))) 0, kept HAX.out.fr HX.out.2.2.2.1 HX.out.2.2.2.2⟩) (fun hS => ?_)
  generalize wr.drew = X at *
  refine tk [0, 1, 2, 3, 4, 5, 6, 7, 8, 9, 10, 11] ?_
  repeat (refine tkZ (oi := ⟨_, _, _, _, _, _⟩) (v := ?_) rfl (by kernel_rfl) (by rfl) (fun _ _ _ h => h) hS ?_ ?_; rotate_left; (· rintro W' ⟨z0, z1, z2, z3⟩; go_simp; try with_reducible rfl); try simp only [Act.put, putA, putZ, putS])
  refine tk0 ?_
  refine wpAnyZ_next (rs := [12]) (by kernel_rfl) (by simp) ?_
  refine NextZ.last (o := ⟨none, _, _, _, _, _⟩) rfl (by kernel_rfl) (fun K hK => ?_)
  have e0 := hS.2.1
  have f0 := HOX.out.frozenAt tg
  have HO0 := Lib.hid (HOX.out.stored tg (.int .i64 (wrap64 (zt + wrap64 (n - dd))))).1
  have HA0 : Hid (BF w0 (X.setCell ⟨nx, tg, none⟩ (.int .i64 (wrap64 (zt + wrap64 (n - dd))))) [(BC, #[.bool cn'], 4), (BT, #[tc, tb, .slice (some ⟨rb, ro, none⟩) nr rc, tn], 36), (BD, #[.slice (some ⟨db, d0, none⟩) dl dc], 72), (BN, #[.slice (some ⟨nx, 0, none⟩) ng nc], 72)]) := HAX.out.fro (Fr.set X nx tg (.int .i64 (wrap64 (zt + wrap64 (n - dd))))) (fun q hq e => by have := (HOX.out.lt nx rfl).1; omega) (own_ne4 HAX.out HOX.out (fun _ h => h) (List.forall_mem_cons.2 ⟨(show 4 ≠ 3 by decide), List.forall_mem_cons.2 ⟨(show 36 ≠ 3 by decide), List.forall_mem_cons.2 ⟨(show 72 ≠ 3 by decide), List.forall_mem_cons.2 ⟨(show 72 ≠ 3 by decide), List.forall_mem_nil _⟩⟩⟩⟩))
  go_simp
  refine hK.out _ _ ?_
  clear hK K e0 f0
  (try simp only [Act.put])
  refine wpAnyZ_done (by kernel_rfl) ?_ _
  go_wp2_with fail
  (first | go_end0 | refine bodyPost_ret (results_none rfl _ _ _) rfl ?_)
  have ho := HO0.out
  rw [iL_set z _ htn] at ho
  simp only [IntWalk.i64_left]
  exact ⟨_, by trivial, HRES.out, HA0.out, ho⟩
end Go.Proofs.Ytjaoflfophcibaa
