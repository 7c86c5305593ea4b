/- Walk: WalkJoined's walk. Printed by gen_yu.py. -/
import Derived.Test.YtpnkgjkoophckaaYT
namespace Go.Proofs.Ytpnkgjkoophckaa
open Go.RowKit Go.Shelf Go.Maps

theorem Try.infoWalkW : (Try.prog.info? 30).map (fun i => (i.zero, i.size, i.bytes)) = some (some (.agg #[.slice none 0 0, .slice none 0 0]), 2, 48) := by kernel_rfl
theorem bit_or8 (a b : Nat) (ha : a < 256) (hb : b < 256) : bits BinOp.or IntKind.u8 (a : Int) (b : Int) = ((a ||| b : Nat) : Int) := by
  have h : a ||| b < 256 := Nat.or_lt_two_pow (n := 8) ha hb
  show IntKind.u8.wrap (((BitVec.ofInt 8 (a : Int) ||| BitVec.ofInt 8 (b : Int)).toNat : Nat) : Int) = _
  rw [BitVec.toNat_or, BitVec.ofInt_natCast, BitVec.ofInt_natCast, BitVec.toNat_ofNat, BitVec.toNat_ofNat, Nat.mod_eq_of_lt ha, Nat.mod_eq_of_lt hb]
  have e : ∀ n : Nat, n < 256 → IntKind.u8.wrap (n : Int) = n := fun n hn => by
    have : ∀ n : Fin 256, IntKind.u8.wrap ((n : Nat) : Int) = ((n : Nat) : Int) := by decide +kernel
    exact this ⟨n, hn⟩
  exact e _ h
theorem mod_or (a b n : Nat) : (a ||| b) % 2 ^ n = a % 2 ^ n ||| b % 2 ^ n := by
  refine Nat.eq_of_testBit_eq fun i => ?_
  rw [Nat.testBit_mod_two_pow, Nat.testBit_or, Nat.testBit_or, Nat.testBit_mod_two_pow, Nat.testBit_mod_two_pow]
  cases decide (i < n) <;> simp
theorem or_sub (x y : Nat) : x &&& (x ||| y) = x := by
  rw [sub_iff]
  intro i hi
  rw [Nat.testBit_or, hi]; rfl
set_option maxRecDepth 100000 in
set_option maxHeartbeats 16000000 in
theorem walkJoined_walk (x : MV) (m : Mp) (a b : Int) (w : World) (h : MpLaw w x m) (ha : 0 ≤ a ∧ a ≤ 255) (hb : 0 ≤ b ∧ b ≤ 255) :
    Calls Try.prog 5 #[.agg #[.slice x.wa m.nw x.wc, .slice x.ra m.nr x.rc], .int .u8 a, .int .u8 b] w fun e w' => e = .returned (.bool true) ∧ Below w.heap.size w w' := by
  obtain ⟨a, rfl⟩ : ∃ k : Nat, a = k := ⟨a.toNat, by omega⟩
  obtain ⟨b, rfl⟩ : ∃ k : Nat, b = k := ⟨b.toNat, by omega⟩
  obtain ⟨i0, hi0, hiz0, hiz1, hiz2⟩ := info_parts Try.infoWalkW
  have HMP := Lib.hid h.l
  have HRE := Lib.hid (fun W (hW : Below w.heap.size w W) => ready_any x m W (h.l.below hW) h.bw h.br)
  clear h
  obtain ⟨rb, hrb⟩ : ∃ rb, rb = readyB m := ⟨_, rfl⟩
  have HRB : Hid (rb = true → m.fault = 0) := fun h => by rw [hrb] at h; unfold readyB at h; simp only [Bool.and_eq_true, decide_eq_true_eq] at h; exact h.2
  rw [← hrb] at HRE
  clear hrb
  have HA0 : Hid (BF w (w.alloc (.cells #[.slice x.wa m.nw x.wc, .slice x.ra m.nr x.rc] 25)) [(w.heap.size, #[.slice x.wa m.nw x.wc, .slice x.ra m.nr x.rc], 25)]) := (BF.base w).alloc _ _
  go_enter Try.func5, Try.ntmps5
  go_upto_region 1 with fail
  generalize w.alloc (.cells #[.slice x.wa m.nw x.wc, .slice x.ra m.nr x.rc] 25) = w0 at *
  have c0 := HA0.out.cell (.head _) 0
  have c1 := HA0.out.cell (.head _) 1
  cases rb
  · go_wp2_with (first | (go_at_call 35; refine (HRE.out _ HA0.out.fr).mono ?_; rintro _ w1 ⟨rfl, hb⟩; have HA1 := Lib.hid (HA0.out.below hb); clear hb) | (go_at_call 19; refine (awake_any _).mono ?_; rintro _ w2 ⟨rfl, hb⟩; have HA2 := Lib.hid (HA1.out.below hb); clear hb))
    go_ret
    exact ⟨rfl, HA2.out.fr⟩
  have hf := HRB.out rfl
  have hok := okM_of hf
  have hnw := hok.nw
  have HMC := Lib.hid (fun W (hW : Below w.heap.size w W) => mapC_any x m W (HMP.out.below hW) (by omega) (by have := hok.nr; omega))
  have HOR : Hid (bits BinOp.or IntKind.u8 (a : Int) (b : Int) = ((a ||| b : Nat) : Int)) := bit_or8 a b (by omega) (by omega)
  have hab : a ||| b < 256 := Nat.or_lt_two_pow (n := 8) (by omega) (by omega)
  have HS1 := Lib.hid (fun W => some_any x m a W hnw.2 (by omega))
  have HS2 := Lib.hid (fun W => some_any x m b W hnw.2 (by omega))
  have HS3 := Lib.hid (fun W => some_any x m (a ||| b) W hnw.2 hab)
  have HTO := Lib.hid (fun s (y : MV) (pa : Option Addr) (pc : Nat) W hW hz => tour_pl hok hf y pa (plcN m.nw s).length pc (zL (plcN m.nw s)) (places_plc s) (by have := plcN_len m.nw s; omega) W hW hz)
  have HT1 := Lib.hid (HTO.out a)
  have HT2 := Lib.hid (HTO.out b)
  have HT3 := Lib.hid (HTO.out (a ||| b))
  rw [orL_plc] at HT1 HT2 HT3
  rw [mod_or] at HT3
  have hx : a % 2 ^ m.nw < 2 ^ m.nw := Nat.mod_lt _ (Nat.two_pow_pos _)
  have hy : b % 2 ^ m.nw < 2 ^ m.nw := Nat.mod_lt _ (Nat.two_pow_pos _)
  have HX : Hid ((tourX m (a % 2 ^ m.nw) = 7 ∧ tourX m (a % 2 ^ m.nw ||| b % 2 ^ m.nw) = 7 ∧ (tourX m (b % 2 ^ m.nw) = 7 ∨ tourX m (b % 2 ^ m.nw) = 0)) ∨ (tourX m (a % 2 ^ m.nw) = 0 ∧ tourX m (b % 2 ^ m.nw) = 7 ∧ tourX m (a % 2 ^ m.nw ||| b % 2 ^ m.nw) = 7) ∨
      (tourX m (a % 2 ^ m.nw) = 0 ∧ tourX m (b % 2 ^ m.nw) = 0 ∧ tourX m (a % 2 ^ m.nw ||| b % 2 ^ m.nw) = 0 ∧ tourT m (a % 2 ^ m.nw) ≤ tourT m (a % 2 ^ m.nw ||| b % 2 ^ m.nw) ∧ tourT m (b % 2 ^ m.nw) ≤ tourT m (a % 2 ^ m.nw ||| b % 2 ^ m.nw) ∧ tourT m (a % 2 ^ m.nw ||| b % 2 ^ m.nw) ≤ tourT m (a % 2 ^ m.nw) + tourT m (b % 2 ^ m.nw) ∧ 0 ≤ tourT m (a % 2 ^ m.nw) ∧ tourT m (a % 2 ^ m.nw) ≤ 4000 ∧ 0 ≤ tourT m (b % 2 ^ m.nw) ∧ tourT m (b % 2 ^ m.nw) ≤ 4000)) := by
    generalize a % 2 ^ m.nw = p at *
    generalize b % 2 ^ m.nw = q at *
    have hxy := or_lt hx hy
    have l1 := lgM_sub hok hxy (or_sub p q)
    have l2 := lgM_sub hok hxy (show q &&& (p ||| q) = q by rw [Nat.or_comm]; exact or_sub q p)
    have l3 := lgM_or hok hx hy
    have b1 := (lgM_bd hok hx).1
    have b2 := (lgM_bd hok hy).1
    have f1 := lgM_fin hok hx
    have f2 := lgM_fin hok hy
    have f3 := lgM_fin hok hxy
    unfold Hid tourX tourT
    by_cases h1 : 1048576 ≤ lgM m p
    · left
      rw [if_pos h1, if_pos (by omega)]
      refine ⟨rfl, rfl, ?_⟩
      split
      · exact .inl rfl
      · exact .inr rfl
    · right
      by_cases h2 : 1048576 ≤ lgM m q
      · left
        rw [if_neg h1, if_pos h2, if_pos (by omega)]
        exact ⟨rfl, rfl, rfl⟩
      · right
        have h3 : ¬ 1048576 ≤ lgM m (p ||| q) := by omega
        simp only [if_neg h1, if_neg h2, if_neg h3]
        refine ⟨trivial, trivial, trivial, l1, l2, l3, b1, by omega, b2, by omega⟩
  clear hok hf HRB HTO hx hy
  generalize tourT m (a % 2 ^ m.nw ||| b % 2 ^ m.nw) = t3 at *
  generalize tourX m (a % 2 ^ m.nw ||| b % 2 ^ m.nw) = e3 at *
  generalize tourT m (a % 2 ^ m.nw) = t1 at *
  generalize tourX m (a % 2 ^ m.nw) = e1 at *
  generalize tourT m (b % 2 ^ m.nw) = t2 at *
  generalize tourX m (b % 2 ^ m.nw) = e2 at *
  generalize a ||| b = ab at *
  have WA : Hid (IntKind.i64.wrap (a : Int) = a) := IntWalk.i64_in _ (by omega)
  have WB : Hid (IntKind.i64.wrap (b : Int) = b) := IntWalk.i64_in _ (by omega)
  have WC : Hid (IntKind.i64.wrap (ab : Int) = ab) := IntWalk.i64_in _ (by omega)
  have HT1 := Lib.hid (fun y pa pc W hW hz => HT1.out y pa pc W hW hz)
  go_upto_region 3 with (first | (go_at_call 35; refine (HRE.out _ HA0.out.fr).mono ?_; rintro _ wr1 ⟨rfl, hb⟩; have HB1 := Lib.hid (HA0.out.below hb); clear hb))
  clear HRE HA0 c0 c1
  go_cut [8, 9] (fun s1 s2 wx => s1 = .int .i64 t1 ∧ s2 = .int .i64 e1 ∧ BF w wx [(w.heap.size, #[.slice x.wa m.nw x.wc, .slice x.ra m.nr x.rc], 25)])
  case first =>
    have HAX : Hid (BF w wr1.drew [(w.heap.size, #[.slice x.wa m.nw x.wc, .slice x.ra m.nr x.rc], 25)]) := HB1.out.below (Below.refl _ _).drew
    refine wp_region_Z (S := fun X => X.cell? ⟨w.heap.size, 0, none⟩ = some (.slice x.wa m.nw x.wc) ∧ X.cell? ⟨w.heap.size, 1, none⟩ = some (.slice x.ra m.nr x.rc)) (by kernel_rfl) (⟨HAX.out.cell (.head _) 0, HAX.out.cell (.head _) 1⟩) (fun hS => ?_)
    generalize wr1.drew = X at *
    refine tk [0, 2, 3, 4] ?_
    repeat (refine tkZ (oi := ⟨_, _, _, _, _, _⟩) (v := ?_) rfl (by kernel_rfl) (by rfl) (fun _ _ _ h => h) hS ?_ ?_; rotate_left; (· rintro W' ⟨z0, z1⟩; go_simp; try with_reducible rfl); try simp only [Act.put, putA, putZ, putS])
    refine tk0 ?_
    refine wpAnyZ_next (rs := [1, 11]) (by kernel_rfl) (by simp) ?_
    refine NextZ.cons (o := ⟨some 22, _, _, _, _, _⟩) rfl (fun K hK => ?_) ?_
    ·
     go_simp
     refine (HMC.out X HAX.out.fr).mono ?_
     rintro _ X0 ⟨y0, rfl, hm0, hb0⟩
     (try go_wp2_with fail)
     have HA0 := Lib.hid (HAX.out.below hb0)
     have HM0 := Lib.hid hm0
     refine hK.out _ _ (⟨HA0.out.cell (.head _) 0, HA0.out.cell (.head _) 1⟩) (fun hS => ?_)
     clear hK K
     try simp only [Act.put, putA, putZ, putS]
     clear hb0 hm0
     refine wpAnyZ_next (rs := [5, 11]) (by kernel_rfl) (by simp) ?_
     refine NextZ.cons (o := ⟨some 26, _, _, _, _, _⟩) rfl (fun K hK => ?_) ?_
     ·
      go_simp
      rw [WA.out]
      refine (HS1.out X0).mono ?_
      rintro _ X1 ⟨pa1, pc1, rfl, hz1, hb1⟩
      (try go_wp2_with fail)
      have HA1 := Lib.hid (HA0.out.below hb1)
      have HM1 := Lib.hid (HM0.out.below hb1)
      have HZ1 := Lib.hid hz1
      refine hK.out _ _ (⟨HA1.out.cell (.head _) 0, HA1.out.cell (.head _) 1⟩) (fun hS => ?_)
      clear hK K
      try simp only [Act.put, putA, putZ, putS]
      clear hb1 hz1
      refine wpAnyZ_next (rs := [6, 11]) (by kernel_rfl) (by simp) ?_
      refine NextZ.cons (o := ⟨some 27, _, _, _, _, _⟩) rfl (fun K hK => ?_) ?_
      ·
       go_simp
       refine (HT1.out y0 pa1 pc1 _ HM1.out HZ1.out).mono ?_
       rintro _ X2 ⟨⟨a1, n1, b1, a2, n2, b2, rfl⟩, hb2⟩
       (try go_wp2_with fail)
       have HA2 := Lib.hid (HA1.out.below hb2)
       refine hK.out _ _ (⟨HA2.out.cell (.head _) 0, HA2.out.cell (.head _) 1⟩) (fun hS => ?_)
       clear hK K
       try simp only [Act.put, putA, putZ, putS]
       clear hb2
       refine tk [7, 8, 9, 10] ?_
       repeat (refine tkZ (oi := ⟨_, _, _, _, _, _⟩) (v := ?_) rfl (by kernel_rfl) (by rfl) (fun _ _ _ h => h) hS ?_ ?_; rotate_left; (· rintro W' ⟨z0, z1⟩; go_simp; try with_reducible rfl); try simp only [Act.put, putA, putZ, putS])
       refine tk0 ?_
       refine wpAnyZ_next (rs := [11]) (by kernel_rfl) (by simp) ?_
       refine NextZ.cons (o := ⟨some 7, _, _, _, _, _⟩) rfl (fun K hK => ?_) NextZ.nil
       go_simp
       have HA3 := Lib.hid (HA2.out.alloc #[.slice none 0 0, .slice none 0 0] 30)
       have hn3M := (HA2.out.lt (.head _)).2
       have hn3_ := HA2.out.fr.size
       refine hK.out _ _ (⟨HA3.out.cell (.tail _ (.head _)) 0, HA3.out.cell (.tail _ (.head _)) 1⟩) (fun hS => ?_)
       clear hK K
       try simp only [Act.put, putA, putZ, putS]
       generalize X2.heap.size = O3 at *
       generalize (X2.alloc (.cells #[.slice none 0 0, .slice none 0 0] 30)) = X3 at *
       refine wpAnyZ_next (rs := [12]) (by kernel_rfl) (by simp) ?_
       refine NextZ.cons (o := ⟨none, _, _, _, _, _⟩) rfl (fun K hK => ?_) NextZ.nil
       have e0 := HA3.out.cell (.head _) 0
       have e1 := HA3.out.cell (.head _) 1
       have f0 := HA3.out.thaw (.head _) 0
       have f1 := HA3.out.thaw (.head _) 1
       have HA4 := Lib.hid (BF.set2 HA3.out (.head _) (.slice a1 n1 b1) (.slice a2 n2 b2) (L' := [(w.heap.size, #[.slice x.wa m.nw x.wc, .slice x.ra m.nr x.rc], 25)]) (List.forall_mem_cons.2 ⟨⟨show w.heap.size ≠ O3 by omega, (.tail _ (.head _))⟩, List.forall_mem_nil _⟩))
       go_simp
       refine hK.out _ _ (⟨HA4.out.cell (.tail _ (.head _)) 0, HA4.out.cell (.tail _ (.head _)) 1⟩) (fun hS => ?_)
       clear hK K
       (try simp only [Act.put])
       clear e0 e1 f0 f1
       refine tk [13, 14] ?_
       repeat (refine tkZ (oi := ⟨_, _, _, _, _, _⟩) (v := ?_) rfl (by kernel_rfl) (by rfl) (fun _ _ _ h => h) hS ?_ ?_; rotate_left; (· rintro W' ⟨z0, z1⟩; go_simp; try with_reducible rfl); try simp only [Act.put, putA, putZ, putS])
       refine tk0 ?_
       refine wpAnyZ_done (by kernel_rfl) ?_ _
       go_wp2_with fail
       go_meet
       exact ⟨rfl, rfl, HA4.out.sub (List.forall_mem_cons.2 ⟨(.tail _ (.head _)), List.forall_mem_nil _⟩)⟩
      refine NextZ.cons (o := ⟨some 7, _, _, _, _, _⟩) rfl (fun K hK => ?_) NextZ.nil
      have HM5 := Lib.hid (HM1.out.below (below_alloc X1 (.cells #[.slice none 0 0, .slice none 0 0] 30)))
      have HZ5 := Lib.hid (HZ1.out.below (below_alloc X1 (.cells #[.slice none 0 0, .slice none 0 0] 30)))
      go_simp
      have HA5 := Lib.hid (HA1.out.alloc #[.slice none 0 0, .slice none 0 0] 30)
      have hn5M := (HA1.out.lt (.head _)).2
      have hn5_ := HA1.out.fr.size
      refine hK.out _ _ (⟨HA5.out.cell (.tail _ (.head _)) 0, HA5.out.cell (.tail _ (.head _)) 1⟩) (fun hS => ?_)
      clear hK K
      try simp only [Act.put, putA, putZ, putS]
      generalize X1.heap.size = O5 at *
      generalize (X1.alloc (.cells #[.slice none 0 0, .slice none 0 0] 30)) = X5 at *
      refine wpAnyZ_next (rs := [6]) (by kernel_rfl) (by simp) ?_
      refine NextZ.cons (o := ⟨some 27, _, _, _, _, _⟩) rfl (fun K hK => ?_) NextZ.nil
      go_simp
      refine (HT1.out y0 pa1 pc1 _ HM5.out HZ5.out).mono ?_
      rintro _ X6 ⟨⟨a1, n1, b1, a2, n2, b2, rfl⟩, hb6⟩
      (try go_wp2_with fail)
      have HA6 := Lib.hid (HA5.out.below hb6)
      refine hK.out _ _ (⟨HA6.out.cell (.tail _ (.head _)) 0, HA6.out.cell (.tail _ (.head _)) 1⟩) (fun hS => ?_)
      clear hK K
      try simp only [Act.put, putA, putZ, putS]
      clear hb6
      refine tk [7, 8, 9, 10] ?_
      repeat (refine tkZ (oi := ⟨_, _, _, _, _, _⟩) (v := ?_) rfl (by kernel_rfl) (by rfl) (fun _ _ _ h => h) hS ?_ ?_; rotate_left; (· rintro W' ⟨z0, z1⟩; go_simp; try with_reducible rfl); try simp only [Act.put, putA, putZ, putS])
      refine tk0 ?_
      refine wpAnyZ_next (rs := [12]) (by kernel_rfl) (by simp) ?_
      refine NextZ.cons (o := ⟨none, _, _, _, _, _⟩) rfl (fun K hK => ?_) NextZ.nil
      have e0 := HA6.out.cell (.head _) 0
      have e1 := HA6.out.cell (.head _) 1
      have f0 := HA6.out.thaw (.head _) 0
      have f1 := HA6.out.thaw (.head _) 1
      have HA7 := Lib.hid (BF.set2 HA6.out (.head _) (.slice a1 n1 b1) (.slice a2 n2 b2) (L' := [(w.heap.size, #[.slice x.wa m.nw x.wc, .slice x.ra m.nr x.rc], 25)]) (List.forall_mem_cons.2 ⟨⟨show w.heap.size ≠ O5 by omega, (.tail _ (.head _))⟩, List.forall_mem_nil _⟩))
      go_simp
      refine hK.out _ _ (⟨HA7.out.cell (.tail _ (.head _)) 0, HA7.out.cell (.tail _ (.head _)) 1⟩) (fun hS => ?_)
      clear hK K
      (try simp only [Act.put])
      clear e0 e1 f0 f1
      refine tk [13, 14] ?_
      repeat (refine tkZ (oi := ⟨_, _, _, _, _, _⟩) (v := ?_) rfl (by kernel_rfl) (by rfl) (fun _ _ _ h => h) hS ?_ ?_; rotate_left; (· rintro W' ⟨z0, z1⟩; go_simp; try with_reducible rfl); try simp only [Act.put, putA, putZ, putS])
      refine tk0 ?_
      refine wpAnyZ_done (by kernel_rfl) ?_ _
      go_wp2_with fail
      go_meet
      exact ⟨rfl, rfl, HA7.out.sub (List.forall_mem_cons.2 ⟨(.tail _ (.head _)), List.forall_mem_nil _⟩)⟩
     refine NextZ.cons (o := ⟨some 7, _, _, _, _, _⟩) rfl (fun K hK => ?_) NextZ.nil
     have HM8 := Lib.hid (HM0.out.below (below_alloc X0 (.cells #[.slice none 0 0, .slice none 0 0] 30)))
     go_simp
     have HA8 := Lib.hid (HA0.out.alloc #[.slice none 0 0, .slice none 0 0] 30)
     have hn8M := (HA0.out.lt (.head _)).2
     have hn8_ := HA0.out.fr.size
     refine hK.out _ _ (⟨HA8.out.cell (.tail _ (.head _)) 0, HA8.out.cell (.tail _ (.head _)) 1⟩) (fun hS => ?_)
     clear hK K
     try simp only [Act.put, putA, putZ, putS]
     generalize X0.heap.size = O8 at *
     generalize (X0.alloc (.cells #[.slice none 0 0, .slice none 0 0] 30)) = X8 at *
     refine wpAnyZ_next (rs := [5]) (by kernel_rfl) (by simp) ?_
     refine NextZ.cons (o := ⟨some 26, _, _, _, _, _⟩) rfl (fun K hK => ?_) NextZ.nil
     go_simp
     rw [WA.out]
     refine (HS1.out X8).mono ?_
     rintro _ X9 ⟨pa9, pc9, rfl, hz9, hb9⟩
     (try go_wp2_with fail)
     have HA9 := Lib.hid (HA8.out.below hb9)
     have HM9 := Lib.hid (HM8.out.below hb9)
     have HZ9 := Lib.hid hz9
     refine hK.out _ _ (⟨HA9.out.cell (.tail _ (.head _)) 0, HA9.out.cell (.tail _ (.head _)) 1⟩) (fun hS => ?_)
     clear hK K
     try simp only [Act.put, putA, putZ, putS]
     clear hb9 hz9
     refine wpAnyZ_next (rs := [6]) (by kernel_rfl) (by simp) ?_
     refine NextZ.cons (o := ⟨some 27, _, _, _, _, _⟩) rfl (fun K hK => ?_) NextZ.nil
     go_simp
     refine (HT1.out y0 pa9 pc9 _ HM9.out HZ9.out).mono ?_
     rintro _ X10 ⟨⟨a1, n1, b1, a2, n2, b2, rfl⟩, hb10⟩
     (try go_wp2_with fail)
     have HA10 := Lib.hid (HA9.out.below hb10)
     refine hK.out _ _ (⟨HA10.out.cell (.tail _ (.head _)) 0, HA10.out.cell (.tail _ (.head _)) 1⟩) (fun hS => ?_)
     clear hK K
     try simp only [Act.put, putA, putZ, putS]
     clear hb10
     refine tk [7, 8, 9, 10] ?_
     repeat (refine tkZ (oi := ⟨_, _, _, _, _, _⟩) (v := ?_) rfl (by kernel_rfl) (by rfl) (fun _ _ _ h => h) hS ?_ ?_; rotate_left; (· rintro W' ⟨z0, z1⟩; go_simp; try with_reducible rfl); try simp only [Act.put, putA, putZ, putS])
     refine tk0 ?_
     refine wpAnyZ_next (rs := [12]) (by kernel_rfl) (by simp) ?_
     refine NextZ.cons (o := ⟨none, _, _, _, _, _⟩) rfl (fun K hK => ?_) NextZ.nil
     have e0 := HA10.out.cell (.head _) 0
     have e1 := HA10.out.cell (.head _) 1
     have f0 := HA10.out.thaw (.head _) 0
     have f1 := HA10.out.thaw (.head _) 1
     have HA11 := Lib.hid (BF.set2 HA10.out (.head _) (.slice a1 n1 b1) (.slice a2 n2 b2) (L' := [(w.heap.size, #[.slice x.wa m.nw x.wc, .slice x.ra m.nr x.rc], 25)]) (List.forall_mem_cons.2 ⟨⟨show w.heap.size ≠ O8 by omega, (.tail _ (.head _))⟩, List.forall_mem_nil _⟩))
     go_simp
     refine hK.out _ _ (⟨HA11.out.cell (.tail _ (.head _)) 0, HA11.out.cell (.tail _ (.head _)) 1⟩) (fun hS => ?_)
     clear hK K
     (try simp only [Act.put])
     clear e0 e1 f0 f1
     refine tk [13, 14] ?_
     repeat (refine tkZ (oi := ⟨_, _, _, _, _, _⟩) (v := ?_) rfl (by kernel_rfl) (by rfl) (fun _ _ _ h => h) hS ?_ ?_; rotate_left; (· rintro W' ⟨z0, z1⟩; go_simp; try with_reducible rfl); try simp only [Act.put, putA, putZ, putS])
     refine tk0 ?_
     refine wpAnyZ_done (by kernel_rfl) ?_ _
     go_wp2_with fail
     go_meet
     exact ⟨rfl, rfl, HA11.out.sub (List.forall_mem_cons.2 ⟨(.tail _ (.head _)), List.forall_mem_nil _⟩)⟩
    refine NextZ.cons (o := ⟨some 7, _, _, _, _, _⟩) rfl (fun K hK => ?_) NextZ.nil
    go_simp
    have HA12 := Lib.hid (HAX.out.alloc #[.slice none 0 0, .slice none 0 0] 30)
    have hn12M := (HAX.out.lt (.head _)).2
    have hn12_ := HAX.out.fr.size
    refine hK.out _ _ (⟨HA12.out.cell (.tail _ (.head _)) 0, HA12.out.cell (.tail _ (.head _)) 1⟩) (fun hS => ?_)
    clear hK K
    try simp only [Act.put, putA, putZ, putS]
    generalize X.heap.size = O12 at *
    generalize (X.alloc (.cells #[.slice none 0 0, .slice none 0 0] 30)) = X12 at *
    refine wpAnyZ_next (rs := [1]) (by kernel_rfl) (by simp) ?_
    refine NextZ.cons (o := ⟨some 22, _, _, _, _, _⟩) rfl (fun K hK => ?_) NextZ.nil
    go_simp
    refine (HMC.out X12 HA12.out.fr).mono ?_
    rintro _ X13 ⟨y13, rfl, hm13, hb13⟩
    (try go_wp2_with fail)
    have HA13 := Lib.hid (HA12.out.below hb13)
    have HM13 := Lib.hid hm13
    refine hK.out _ _ (⟨HA13.out.cell (.tail _ (.head _)) 0, HA13.out.cell (.tail _ (.head _)) 1⟩) (fun hS => ?_)
    clear hK K
    try simp only [Act.put, putA, putZ, putS]
    clear hb13 hm13
    refine wpAnyZ_next (rs := [5]) (by kernel_rfl) (by simp) ?_
    refine NextZ.cons (o := ⟨some 26, _, _, _, _, _⟩) rfl (fun K hK => ?_) NextZ.nil
    go_simp
    rw [WA.out]
    refine (HS1.out X13).mono ?_
    rintro _ X14 ⟨pa14, pc14, rfl, hz14, hb14⟩
    (try go_wp2_with fail)
    have HA14 := Lib.hid (HA13.out.below hb14)
    have HM14 := Lib.hid (HM13.out.below hb14)
    have HZ14 := Lib.hid hz14
    refine hK.out _ _ (⟨HA14.out.cell (.tail _ (.head _)) 0, HA14.out.cell (.tail _ (.head _)) 1⟩) (fun hS => ?_)
    clear hK K
    try simp only [Act.put, putA, putZ, putS]
    clear hb14 hz14
    refine wpAnyZ_next (rs := [6]) (by kernel_rfl) (by simp) ?_
    refine NextZ.cons (o := ⟨some 27, _, _, _, _, _⟩) rfl (fun K hK => ?_) NextZ.nil
    go_simp
    refine (HT1.out y13 pa14 pc14 _ HM14.out HZ14.out).mono ?_
    rintro _ X15 ⟨⟨a1, n1, b1, a2, n2, b2, rfl⟩, hb15⟩
    (try go_wp2_with fail)
    have HA15 := Lib.hid (HA14.out.below hb15)
    refine hK.out _ _ (⟨HA15.out.cell (.tail _ (.head _)) 0, HA15.out.cell (.tail _ (.head _)) 1⟩) (fun hS => ?_)
    clear hK K
    try simp only [Act.put, putA, putZ, putS]
    clear hb15
    refine tk [7, 8, 9, 10] ?_
    repeat (refine tkZ (oi := ⟨_, _, _, _, _, _⟩) (v := ?_) rfl (by kernel_rfl) (by rfl) (fun _ _ _ h => h) hS ?_ ?_; rotate_left; (· rintro W' ⟨z0, z1⟩; go_simp; try with_reducible rfl); try simp only [Act.put, putA, putZ, putS])
    refine tk0 ?_
    refine wpAnyZ_next (rs := [12]) (by kernel_rfl) (by simp) ?_
    refine NextZ.cons (o := ⟨none, _, _, _, _, _⟩) rfl (fun K hK => ?_) NextZ.nil
    have e0 := HA15.out.cell (.head _) 0
    have e1 := HA15.out.cell (.head _) 1
    have f0 := HA15.out.thaw (.head _) 0
    have f1 := HA15.out.thaw (.head _) 1
    have HA16 := Lib.hid (BF.set2 HA15.out (.head _) (.slice a1 n1 b1) (.slice a2 n2 b2) (L' := [(w.heap.size, #[.slice x.wa m.nw x.wc, .slice x.ra m.nr x.rc], 25)]) (List.forall_mem_cons.2 ⟨⟨show w.heap.size ≠ O12 by omega, (.tail _ (.head _))⟩, List.forall_mem_nil _⟩))
    go_simp
    refine hK.out _ _ (⟨HA16.out.cell (.tail _ (.head _)) 0, HA16.out.cell (.tail _ (.head _)) 1⟩) (fun hS => ?_)
    clear hK K
    (try simp only [Act.put])
    clear e0 e1 f0 f1
    refine tk [13, 14] ?_
    repeat (refine tkZ (oi := ⟨_, _, _, _, _, _⟩) (v := ?_) rfl (by kernel_rfl) (by rfl) (fun _ _ _ h => h) hS ?_ ?_; rotate_left; (· rintro W' ⟨z0, z1⟩; go_simp; try with_reducible rfl); try simp only [Act.put, putA, putZ, putS])
    refine tk0 ?_
    refine wpAnyZ_done (by kernel_rfl) ?_ _
    go_wp2_with fail
    go_meet
    exact ⟨rfl, rfl, HA16.out.sub (List.forall_mem_cons.2 ⟨(.tail _ (.head _)), List.forall_mem_nil _⟩)⟩
  case rest =>
    obtain ⟨rfl, rfl, hbf⟩ := hcut
    have HB2 := Lib.hid hbf
    clear hbf HB1
    rename World => wr2
    go_upto_region 4 with fail
    go_cut [11, 12] (fun s1 s2 wx => s1 = .int .i64 t2 ∧ s2 = .int .i64 e2 ∧ BF w wx [(w.heap.size, #[.slice x.wa m.nw x.wc, .slice x.ra m.nr x.rc], 25)])
    case first =>
      have HAX : Hid (BF w wr2.drew [(w.heap.size, #[.slice x.wa m.nw x.wc, .slice x.ra m.nr x.rc], 25)]) := HB2.out.below (Below.refl _ _).drew
      refine wp_region_Z (S := fun X => X.cell? ⟨w.heap.size, 0, none⟩ = some (.slice x.wa m.nw x.wc) ∧ X.cell? ⟨w.heap.size, 1, none⟩ = some (.slice x.ra m.nr x.rc)) (by kernel_rfl) (⟨HAX.out.cell (.head _) 0, HAX.out.cell (.head _) 1⟩) (fun hS => ?_)
      generalize wr2.drew = X at *
      refine tk [0, 2, 3, 4] ?_
      repeat (refine tkZ (oi := ⟨_, _, _, _, _, _⟩) (v := ?_) rfl (by kernel_rfl) (by rfl) (fun _ _ _ h => h) hS ?_ ?_; rotate_left; (· rintro W' ⟨z0, z1⟩; go_simp; try with_reducible rfl); try simp only [Act.put, putA, putZ, putS])
      refine tk0 ?_
      refine wpAnyZ_next (rs := [1, 11]) (by kernel_rfl) (by simp) ?_
      refine NextZ.cons (o := ⟨some 33, _, _, _, _, _⟩) rfl (fun K hK => ?_) ?_
      ·
       go_simp
       refine (HMC.out X HAX.out.fr).mono ?_
       rintro _ X0 ⟨y0, rfl, hm0, hb0⟩
       (try go_wp2_with fail)
       have HA0 := Lib.hid (HAX.out.below hb0)
       have HM0 := Lib.hid hm0
       refine hK.out _ _ (⟨HA0.out.cell (.head _) 0, HA0.out.cell (.head _) 1⟩) (fun hS => ?_)
       clear hK K
       try simp only [Act.put, putA, putZ, putS]
       clear hb0 hm0
       refine wpAnyZ_next (rs := [5, 11]) (by kernel_rfl) (by simp) ?_
       refine NextZ.cons (o := ⟨some 37, _, _, _, _, _⟩) rfl (fun K hK => ?_) ?_
       ·
        go_simp
        rw [WB.out]
        refine (HS2.out X0).mono ?_
        rintro _ X1 ⟨pa1, pc1, rfl, hz1, hb1⟩
        (try go_wp2_with fail)
        have HA1 := Lib.hid (HA0.out.below hb1)
        have HM1 := Lib.hid (HM0.out.below hb1)
        have HZ1 := Lib.hid hz1
        refine hK.out _ _ (⟨HA1.out.cell (.head _) 0, HA1.out.cell (.head _) 1⟩) (fun hS => ?_)
        clear hK K
        try simp only [Act.put, putA, putZ, putS]
        clear hb1 hz1
        refine wpAnyZ_next (rs := [6, 11]) (by kernel_rfl) (by simp) ?_
        refine NextZ.cons (o := ⟨some 38, _, _, _, _, _⟩) rfl (fun K hK => ?_) ?_
        ·
         go_simp
         refine (HT2.out y0 pa1 pc1 _ HM1.out HZ1.out).mono ?_
         rintro _ X2 ⟨⟨a1, n1, b1, a2, n2, b2, rfl⟩, hb2⟩
         (try go_wp2_with fail)
         have HA2 := Lib.hid (HA1.out.below hb2)
         refine hK.out _ _ (⟨HA2.out.cell (.head _) 0, HA2.out.cell (.head _) 1⟩) (fun hS => ?_)
         clear hK K
         try simp only [Act.put, putA, putZ, putS]
         clear hb2
         refine tk [7, 8, 9, 10] ?_
         repeat (refine tkZ (oi := ⟨_, _, _, _, _, _⟩) (v := ?_) rfl (by kernel_rfl) (by rfl) (fun _ _ _ h => h) hS ?_ ?_; rotate_left; (· rintro W' ⟨z0, z1⟩; go_simp; try with_reducible rfl); try simp only [Act.put, putA, putZ, putS])
         refine tk0 ?_
         refine wpAnyZ_next (rs := [11]) (by kernel_rfl) (by simp) ?_
         refine NextZ.cons (o := ⟨some 10, _, _, _, _, _⟩) rfl (fun K hK => ?_) NextZ.nil
         go_simp
         have HA3 := Lib.hid (HA2.out.alloc #[.slice none 0 0, .slice none 0 0] 30)
         have hn3M := (HA2.out.lt (.head _)).2
         have hn3_ := HA2.out.fr.size
         refine hK.out _ _ (⟨HA3.out.cell (.tail _ (.head _)) 0, HA3.out.cell (.tail _ (.head _)) 1⟩) (fun hS => ?_)
         clear hK K
         try simp only [Act.put, putA, putZ, putS]
         generalize X2.heap.size = O3 at *
         generalize (X2.alloc (.cells #[.slice none 0 0, .slice none 0 0] 30)) = X3 at *
         refine wpAnyZ_next (rs := [12]) (by kernel_rfl) (by simp) ?_
         refine NextZ.cons (o := ⟨none, _, _, _, _, _⟩) rfl (fun K hK => ?_) NextZ.nil
         have e0 := HA3.out.cell (.head _) 0
         have e1 := HA3.out.cell (.head _) 1
         have f0 := HA3.out.thaw (.head _) 0
         have f1 := HA3.out.thaw (.head _) 1
         have HA4 := Lib.hid (BF.set2 HA3.out (.head _) (.slice a1 n1 b1) (.slice a2 n2 b2) (L' := [(w.heap.size, #[.slice x.wa m.nw x.wc, .slice x.ra m.nr x.rc], 25)]) (List.forall_mem_cons.2 ⟨⟨show w.heap.size ≠ O3 by omega, (.tail _ (.head _))⟩, List.forall_mem_nil _⟩))
         go_simp
         refine hK.out _ _ (⟨HA4.out.cell (.tail _ (.head _)) 0, HA4.out.cell (.tail _ (.head _)) 1⟩) (fun hS => ?_)
         clear hK K
         (try simp only [Act.put])
         clear e0 e1 f0 f1
         refine tk [13, 14] ?_
         repeat (refine tkZ (oi := ⟨_, _, _, _, _, _⟩) (v := ?_) rfl (by kernel_rfl) (by rfl) (fun _ _ _ h => h) hS ?_ ?_; rotate_left; (· rintro W' ⟨z0, z1⟩; go_simp; try with_reducible rfl); try simp only [Act.put, putA, putZ, putS])
         refine tk0 ?_
         refine wpAnyZ_done (by kernel_rfl) ?_ _
         go_wp2_with fail
         go_meet
         exact ⟨rfl, rfl, HA4.out.sub (List.forall_mem_cons.2 ⟨(.tail _ (.head _)), List.forall_mem_nil _⟩)⟩
        refine NextZ.cons (o := ⟨some 10, _, _, _, _, _⟩) rfl (fun K hK => ?_) NextZ.nil
        have HM5 := Lib.hid (HM1.out.below (below_alloc X1 (.cells #[.slice none 0 0, .slice none 0 0] 30)))
        have HZ5 := Lib.hid (HZ1.out.below (below_alloc X1 (.cells #[.slice none 0 0, .slice none 0 0] 30)))
        go_simp
        have HA5 := Lib.hid (HA1.out.alloc #[.slice none 0 0, .slice none 0 0] 30)
        have hn5M := (HA1.out.lt (.head _)).2
        have hn5_ := HA1.out.fr.size
        refine hK.out _ _ (⟨HA5.out.cell (.tail _ (.head _)) 0, HA5.out.cell (.tail _ (.head _)) 1⟩) (fun hS => ?_)
        clear hK K
        try simp only [Act.put, putA, putZ, putS]
        generalize X1.heap.size = O5 at *
        generalize (X1.alloc (.cells #[.slice none 0 0, .slice none 0 0] 30)) = X5 at *
        refine wpAnyZ_next (rs := [6]) (by kernel_rfl) (by simp) ?_
        refine NextZ.cons (o := ⟨some 38, _, _, _, _, _⟩) rfl (fun K hK => ?_) NextZ.nil
        go_simp
        refine (HT2.out y0 pa1 pc1 _ HM5.out HZ5.out).mono ?_
        rintro _ X6 ⟨⟨a1, n1, b1, a2, n2, b2, rfl⟩, hb6⟩
        (try go_wp2_with fail)
        have HA6 := Lib.hid (HA5.out.below hb6)
        refine hK.out _ _ (⟨HA6.out.cell (.tail _ (.head _)) 0, HA6.out.cell (.tail _ (.head _)) 1⟩) (fun hS => ?_)
        clear hK K
        try simp only [Act.put, putA, putZ, putS]
        clear hb6
        refine tk [7, 8, 9, 10] ?_
        repeat (refine tkZ (oi := ⟨_, _, _, _, _, _⟩) (v := ?_) rfl (by kernel_rfl) (by rfl) (fun _ _ _ h => h) hS ?_ ?_; rotate_left; (· rintro W' ⟨z0, z1⟩; go_simp; try with_reducible rfl); try simp only [Act.put, putA, putZ, putS])
        refine tk0 ?_
        refine wpAnyZ_next (rs := [12]) (by kernel_rfl) (by simp) ?_
        refine NextZ.cons (o := ⟨none, _, _, _, _, _⟩) rfl (fun K hK => ?_) NextZ.nil
        have e0 := HA6.out.cell (.head _) 0
        have e1 := HA6.out.cell (.head _) 1
        have f0 := HA6.out.thaw (.head _) 0
        have f1 := HA6.out.thaw (.head _) 1
        have HA7 := Lib.hid (BF.set2 HA6.out (.head _) (.slice a1 n1 b1) (.slice a2 n2 b2) (L' := [(w.heap.size, #[.slice x.wa m.nw x.wc, .slice x.ra m.nr x.rc], 25)]) (List.forall_mem_cons.2 ⟨⟨show w.heap.size ≠ O5 by omega, (.tail _ (.head _))⟩, List.forall_mem_nil _⟩))
        go_simp
        refine hK.out _ _ (⟨HA7.out.cell (.tail _ (.head _)) 0, HA7.out.cell (.tail _ (.head _)) 1⟩) (fun hS => ?_)
        clear hK K
        (try simp only [Act.put])
        clear e0 e1 f0 f1
        refine tk [13, 14] ?_
        repeat (refine tkZ (oi := ⟨_, _, _, _, _, _⟩) (v := ?_) rfl (by kernel_rfl) (by rfl) (fun _ _ _ h => h) hS ?_ ?_; rotate_left; (· rintro W' ⟨z0, z1⟩; go_simp; try with_reducible rfl); try simp only [Act.put, putA, putZ, putS])
        refine tk0 ?_
        refine wpAnyZ_done (by kernel_rfl) ?_ _
        go_wp2_with fail
        go_meet
        exact ⟨rfl, rfl, HA7.out.sub (List.forall_mem_cons.2 ⟨(.tail _ (.head _)), List.forall_mem_nil _⟩)⟩
       refine NextZ.cons (o := ⟨some 10, _, _, _, _, _⟩) rfl (fun K hK => ?_) NextZ.nil
       have HM8 := Lib.hid (HM0.out.below (below_alloc X0 (.cells #[.slice none 0 0, .slice none 0 0] 30)))
       go_simp
       have HA8 := Lib.hid (HA0.out.alloc #[.slice none 0 0, .slice none 0 0] 30)
       have hn8M := (HA0.out.lt (.head _)).2
       have hn8_ := HA0.out.fr.size
       refine hK.out _ _ (⟨HA8.out.cell (.tail _ (.head _)) 0, HA8.out.cell (.tail _ (.head _)) 1⟩) (fun hS => ?_)
       clear hK K
       try simp only [Act.put, putA, putZ, putS]
       generalize X0.heap.size = O8 at *
       generalize (X0.alloc (.cells #[.slice none 0 0, .slice none 0 0] 30)) = X8 at *
       refine wpAnyZ_next (rs := [5]) (by kernel_rfl) (by simp) ?_
       refine NextZ.cons (o := ⟨some 37, _, _, _, _, _⟩) rfl (fun K hK => ?_) NextZ.nil
       go_simp
       rw [WB.out]
       refine (HS2.out X8).mono ?_
       rintro _ X9 ⟨pa9, pc9, rfl, hz9, hb9⟩
       (try go_wp2_with fail)
       have HA9 := Lib.hid (HA8.out.below hb9)
       have HM9 := Lib.hid (HM8.out.below hb9)
       have HZ9 := Lib.hid hz9
       refine hK.out _ _ (⟨HA9.out.cell (.tail _ (.head _)) 0, HA9.out.cell (.tail _ (.head _)) 1⟩) (fun hS => ?_)
       clear hK K
       try simp only [Act.put, putA, putZ, putS]
       clear hb9 hz9
       refine wpAnyZ_next (rs := [6]) (by kernel_rfl) (by simp) ?_
       refine NextZ.cons (o := ⟨some 38, _, _, _, _, _⟩) rfl (fun K hK => ?_) NextZ.nil
       go_simp
       refine (HT2.out y0 pa9 pc9 _ HM9.out HZ9.out).mono ?_
       rintro _ X10 ⟨⟨a1, n1, b1, a2, n2, b2, rfl⟩, hb10⟩
       (try go_wp2_with fail)
       have HA10 := Lib.hid (HA9.out.below hb10)
       refine hK.out _ _ (⟨HA10.out.cell (.tail _ (.head _)) 0, HA10.out.cell (.tail _ (.head _)) 1⟩) (fun hS => ?_)
       clear hK K
       try simp only [Act.put, putA, putZ, putS]
       clear hb10
       refine tk [7, 8, 9, 10] ?_
       repeat (refine tkZ (oi := ⟨_, _, _, _, _, _⟩) (v := ?_) rfl (by kernel_rfl) (by rfl) (fun _ _ _ h => h) hS ?_ ?_; rotate_left; (· rintro W' ⟨z0, z1⟩; go_simp; try with_reducible rfl); try simp only [Act.put, putA, putZ, putS])
       refine tk0 ?_
       refine wpAnyZ_next (rs := [12]) (by kernel_rfl) (by simp) ?_
       refine NextZ.cons (o := ⟨none, _, _, _, _, _⟩) rfl (fun K hK => ?_) NextZ.nil
       have e0 := HA10.out.cell (.head _) 0
       have e1 := HA10.out.cell (.head _) 1
       have f0 := HA10.out.thaw (.head _) 0
       have f1 := HA10.out.thaw (.head _) 1
       have HA11 := Lib.hid (BF.set2 HA10.out (.head _) (.slice a1 n1 b1) (.slice a2 n2 b2) (L' := [(w.heap.size, #[.slice x.wa m.nw x.wc, .slice x.ra m.nr x.rc], 25)]) (List.forall_mem_cons.2 ⟨⟨show w.heap.size ≠ O8 by omega, (.tail _ (.head _))⟩, List.forall_mem_nil _⟩))
       go_simp
       refine hK.out _ _ (⟨HA11.out.cell (.tail _ (.head _)) 0, HA11.out.cell (.tail _ (.head _)) 1⟩) (fun hS => ?_)
       clear hK K
       (try simp only [Act.put])
       clear e0 e1 f0 f1
       refine tk [13, 14] ?_
       repeat (refine tkZ (oi := ⟨_, _, _, _, _, _⟩) (v := ?_) rfl (by kernel_rfl) (by rfl) (fun _ _ _ h => h) hS ?_ ?_; rotate_left; (· rintro W' ⟨z0, z1⟩; go_simp; try with_reducible rfl); try simp only [Act.put, putA, putZ, putS])
       refine tk0 ?_
       refine wpAnyZ_done (by kernel_rfl) ?_ _
       go_wp2_with fail
       go_meet
       exact ⟨rfl, rfl, HA11.out.sub (List.forall_mem_cons.2 ⟨(.tail _ (.head _)), List.forall_mem_nil _⟩)⟩
      refine NextZ.cons (o := ⟨some 10, _, _, _, _, _⟩) rfl (fun K hK => ?_) NextZ.nil
      go_simp
      have HA12 := Lib.hid (HAX.out.alloc #[.slice none 0 0, .slice none 0 0] 30)
      have hn12M := (HAX.out.lt (.head _)).2
      have hn12_ := HAX.out.fr.size
      refine hK.out _ _ (⟨HA12.out.cell (.tail _ (.head _)) 0, HA12.out.cell (.tail _ (.head _)) 1⟩) (fun hS => ?_)
      clear hK K
      try simp only [Act.put, putA, putZ, putS]
      generalize X.heap.size = O12 at *
      generalize (X.alloc (.cells #[.slice none 0 0, .slice none 0 0] 30)) = X12 at *
      refine wpAnyZ_next (rs := [1]) (by kernel_rfl) (by simp) ?_
      refine NextZ.cons (o := ⟨some 33, _, _, _, _, _⟩) rfl (fun K hK => ?_) NextZ.nil
      go_simp
      refine (HMC.out X12 HA12.out.fr).mono ?_
      rintro _ X13 ⟨y13, rfl, hm13, hb13⟩
      (try go_wp2_with fail)
      have HA13 := Lib.hid (HA12.out.below hb13)
      have HM13 := Lib.hid hm13
      refine hK.out _ _ (⟨HA13.out.cell (.tail _ (.head _)) 0, HA13.out.cell (.tail _ (.head _)) 1⟩) (fun hS => ?_)
      clear hK K
      try simp only [Act.put, putA, putZ, putS]
      clear hb13 hm13
      refine wpAnyZ_next (rs := [5]) (by kernel_rfl) (by simp) ?_
      refine NextZ.cons (o := ⟨some 37, _, _, _, _, _⟩) rfl (fun K hK => ?_) NextZ.nil
      go_simp
      rw [WB.out]
      refine (HS2.out X13).mono ?_
      rintro _ X14 ⟨pa14, pc14, rfl, hz14, hb14⟩
      (try go_wp2_with fail)
      have HA14 := Lib.hid (HA13.out.below hb14)
      have HM14 := Lib.hid (HM13.out.below hb14)
      have HZ14 := Lib.hid hz14
      refine hK.out _ _ (⟨HA14.out.cell (.tail _ (.head _)) 0, HA14.out.cell (.tail _ (.head _)) 1⟩) (fun hS => ?_)
      clear hK K
      try simp only [Act.put, putA, putZ, putS]
      clear hb14 hz14
      refine wpAnyZ_next (rs := [6]) (by kernel_rfl) (by simp) ?_
      refine NextZ.cons (o := ⟨some 38, _, _, _, _, _⟩) rfl (fun K hK => ?_) NextZ.nil
      go_simp
      refine (HT2.out y13 pa14 pc14 _ HM14.out HZ14.out).mono ?_
      rintro _ X15 ⟨⟨a1, n1, b1, a2, n2, b2, rfl⟩, hb15⟩
      (try go_wp2_with fail)
      have HA15 := Lib.hid (HA14.out.below hb15)
      refine hK.out _ _ (⟨HA15.out.cell (.tail _ (.head _)) 0, HA15.out.cell (.tail _ (.head _)) 1⟩) (fun hS => ?_)
      clear hK K
      try simp only [Act.put, putA, putZ, putS]
      clear hb15
      refine tk [7, 8, 9, 10] ?_
      repeat (refine tkZ (oi := ⟨_, _, _, _, _, _⟩) (v := ?_) rfl (by kernel_rfl) (by rfl) (fun _ _ _ h => h) hS ?_ ?_; rotate_left; (· rintro W' ⟨z0, z1⟩; go_simp; try with_reducible rfl); try simp only [Act.put, putA, putZ, putS])
      refine tk0 ?_
      refine wpAnyZ_next (rs := [12]) (by kernel_rfl) (by simp) ?_
      refine NextZ.cons (o := ⟨none, _, _, _, _, _⟩) rfl (fun K hK => ?_) NextZ.nil
      have e0 := HA15.out.cell (.head _) 0
      have e1 := HA15.out.cell (.head _) 1
      have f0 := HA15.out.thaw (.head _) 0
      have f1 := HA15.out.thaw (.head _) 1
      have HA16 := Lib.hid (BF.set2 HA15.out (.head _) (.slice a1 n1 b1) (.slice a2 n2 b2) (L' := [(w.heap.size, #[.slice x.wa m.nw x.wc, .slice x.ra m.nr x.rc], 25)]) (List.forall_mem_cons.2 ⟨⟨show w.heap.size ≠ O12 by omega, (.tail _ (.head _))⟩, List.forall_mem_nil _⟩))
      go_simp
      refine hK.out _ _ (⟨HA16.out.cell (.tail _ (.head _)) 0, HA16.out.cell (.tail _ (.head _)) 1⟩) (fun hS => ?_)
      clear hK K
      (try simp only [Act.put])
      clear e0 e1 f0 f1
      refine tk [13, 14] ?_
      repeat (refine tkZ (oi := ⟨_, _, _, _, _, _⟩) (v := ?_) rfl (by kernel_rfl) (by rfl) (fun _ _ _ h => h) hS ?_ ?_; rotate_left; (· rintro W' ⟨z0, z1⟩; go_simp; try with_reducible rfl); try simp only [Act.put, putA, putZ, putS])
      refine tk0 ?_
      refine wpAnyZ_done (by kernel_rfl) ?_ _
      go_wp2_with fail
      go_meet
      exact ⟨rfl, rfl, HA16.out.sub (List.forall_mem_cons.2 ⟨(.tail _ (.head _)), List.forall_mem_nil _⟩)⟩
    case rest =>
      obtain ⟨rfl, rfl, hbf⟩ := hcut
      have HB3 := Lib.hid hbf
      clear hbf HB2
      rename World => wr3
      go_upto_region 5 with fail
      go_cut [14, 15] (fun s1 s2 wx => s1 = .int .i64 t3 ∧ s2 = .int .i64 e3 ∧ BF w wx [(w.heap.size, #[.slice x.wa m.nw x.wc, .slice x.ra m.nr x.rc], 25)])
      case first =>
        have HAX : Hid (BF w wr3.drew [(w.heap.size, #[.slice x.wa m.nw x.wc, .slice x.ra m.nr x.rc], 25)]) := HB3.out.below (Below.refl _ _).drew
        refine wp_region_Z (S := fun X => X.cell? ⟨w.heap.size, 0, none⟩ = some (.slice x.wa m.nw x.wc) ∧ X.cell? ⟨w.heap.size, 1, none⟩ = some (.slice x.ra m.nr x.rc)) (by kernel_rfl) (⟨HAX.out.cell (.head _) 0, HAX.out.cell (.head _) 1⟩) (fun hS => ?_)
        generalize wr3.drew = X at *
        refine tk [0, 2, 3, 4, 5, 6] ?_
        repeat (refine tkZ (oi := ⟨_, _, _, _, _, _⟩) (v := ?_) rfl (by kernel_rfl) (by rfl) (fun _ _ _ h => h) hS ?_ ?_; rotate_left; (· rintro W' ⟨z0, z1⟩; go_simp; try with_reducible rfl); try simp only [Act.put, putA, putZ, putS])
        refine tk0 ?_
        refine wpAnyZ_next (rs := [1, 13]) (by kernel_rfl) (by simp) ?_
        refine NextZ.cons (o := ⟨some 44, _, _, _, _, _⟩) rfl (fun K hK => ?_) ?_
        ·
         go_simp
         refine (HMC.out X HAX.out.fr).mono ?_
         rintro _ X0 ⟨y0, rfl, hm0, hb0⟩
         (try go_wp2_with fail)
         have HA0 := Lib.hid (HAX.out.below hb0)
         have HM0 := Lib.hid hm0
         refine hK.out _ _ (⟨HA0.out.cell (.head _) 0, HA0.out.cell (.head _) 1⟩) (fun hS => ?_)
         clear hK K
         try simp only [Act.put, putA, putZ, putS]
         clear hb0 hm0
         refine wpAnyZ_next (rs := [7, 13]) (by kernel_rfl) (by simp) ?_
         refine NextZ.cons (o := ⟨some 50, _, _, _, _, _⟩) rfl (fun K hK => ?_) ?_
         ·
          go_simp
          rw [HOR.out, WC.out]
          refine (HS3.out X0).mono ?_
          rintro _ X1 ⟨pa1, pc1, rfl, hz1, hb1⟩
          (try go_wp2_with fail)
          have HA1 := Lib.hid (HA0.out.below hb1)
          have HM1 := Lib.hid (HM0.out.below hb1)
          have HZ1 := Lib.hid hz1
          refine hK.out _ _ (⟨HA1.out.cell (.head _) 0, HA1.out.cell (.head _) 1⟩) (fun hS => ?_)
          clear hK K
          try simp only [Act.put, putA, putZ, putS]
          clear hb1 hz1
          refine wpAnyZ_next (rs := [8, 13]) (by kernel_rfl) (by simp) ?_
          refine NextZ.cons (o := ⟨some 51, _, _, _, _, _⟩) rfl (fun K hK => ?_) ?_
          ·
           go_simp
           refine (HT3.out y0 pa1 pc1 _ HM1.out HZ1.out).mono ?_
           rintro _ X2 ⟨⟨a1, n1, b1, a2, n2, b2, rfl⟩, hb2⟩
           (try go_wp2_with fail)
           have HA2 := Lib.hid (HA1.out.below hb2)
           refine hK.out _ _ (⟨HA2.out.cell (.head _) 0, HA2.out.cell (.head _) 1⟩) (fun hS => ?_)
           clear hK K
           try simp only [Act.put, putA, putZ, putS]
           clear hb2
           refine tk [9, 10, 11, 12] ?_
           repeat (refine tkZ (oi := ⟨_, _, _, _, _, _⟩) (v := ?_) rfl (by kernel_rfl) (by rfl) (fun _ _ _ h => h) hS ?_ ?_; rotate_left; (· rintro W' ⟨z0, z1⟩; go_simp; try with_reducible rfl); try simp only [Act.put, putA, putZ, putS])
           refine tk0 ?_
           refine wpAnyZ_next (rs := [13]) (by kernel_rfl) (by simp) ?_
           refine NextZ.cons (o := ⟨some 13, _, _, _, _, _⟩) rfl (fun K hK => ?_) NextZ.nil
           go_simp
           have HA3 := Lib.hid (HA2.out.alloc #[.slice none 0 0, .slice none 0 0] 30)
           have hn3M := (HA2.out.lt (.head _)).2
           have hn3_ := HA2.out.fr.size
           refine hK.out _ _ (⟨HA3.out.cell (.tail _ (.head _)) 0, HA3.out.cell (.tail _ (.head _)) 1⟩) (fun hS => ?_)
           clear hK K
           try simp only [Act.put, putA, putZ, putS]
           generalize X2.heap.size = O3 at *
           generalize (X2.alloc (.cells #[.slice none 0 0, .slice none 0 0] 30)) = X3 at *
           refine wpAnyZ_next (rs := [14]) (by kernel_rfl) (by simp) ?_
           refine NextZ.cons (o := ⟨none, _, _, _, _, _⟩) rfl (fun K hK => ?_) NextZ.nil
           have e0 := HA3.out.cell (.head _) 0
           have e1 := HA3.out.cell (.head _) 1
           have f0 := HA3.out.thaw (.head _) 0
           have f1 := HA3.out.thaw (.head _) 1
           have HA4 := Lib.hid (BF.set2 HA3.out (.head _) (.slice a1 n1 b1) (.slice a2 n2 b2) (L' := [(w.heap.size, #[.slice x.wa m.nw x.wc, .slice x.ra m.nr x.rc], 25)]) (List.forall_mem_cons.2 ⟨⟨show w.heap.size ≠ O3 by omega, (.tail _ (.head _))⟩, List.forall_mem_nil _⟩))
           go_simp
           refine hK.out _ _ (⟨HA4.out.cell (.tail _ (.head _)) 0, HA4.out.cell (.tail _ (.head _)) 1⟩) (fun hS => ?_)
           clear hK K
           (try simp only [Act.put])
           clear e0 e1 f0 f1
           refine tk [15, 16] ?_
           repeat (refine tkZ (oi := ⟨_, _, _, _, _, _⟩) (v := ?_) rfl (by kernel_rfl) (by rfl) (fun _ _ _ h => h) hS ?_ ?_; rotate_left; (· rintro W' ⟨z0, z1⟩; go_simp; try with_reducible rfl); try simp only [Act.put, putA, putZ, putS])
           refine tk0 ?_
           refine wpAnyZ_done (by kernel_rfl) ?_ _
           go_wp2_with fail
           go_meet
           exact ⟨rfl, rfl, HA4.out.sub (List.forall_mem_cons.2 ⟨(.tail _ (.head _)), List.forall_mem_nil _⟩)⟩
          refine NextZ.cons (o := ⟨some 13, _, _, _, _, _⟩) rfl (fun K hK => ?_) NextZ.nil
          have HM5 := Lib.hid (HM1.out.below (below_alloc X1 (.cells #[.slice none 0 0, .slice none 0 0] 30)))
          have HZ5 := Lib.hid (HZ1.out.below (below_alloc X1 (.cells #[.slice none 0 0, .slice none 0 0] 30)))
          go_simp
          have HA5 := Lib.hid (HA1.out.alloc #[.slice none 0 0, .slice none 0 0] 30)
          have hn5M := (HA1.out.lt (.head _)).2
          have hn5_ := HA1.out.fr.size
          refine hK.out _ _ (⟨HA5.out.cell (.tail _ (.head _)) 0, HA5.out.cell (.tail _ (.head _)) 1⟩) (fun hS => ?_)
          clear hK K
          try simp only [Act.put, putA, putZ, putS]
          generalize X1.heap.size = O5 at *
          generalize (X1.alloc (.cells #[.slice none 0 0, .slice none 0 0] 30)) = X5 at *
          refine wpAnyZ_next (rs := [8]) (by kernel_rfl) (by simp) ?_
          refine NextZ.cons (o := ⟨some 51, _, _, _, _, _⟩) rfl (fun K hK => ?_) NextZ.nil
          go_simp
          refine (HT3.out y0 pa1 pc1 _ HM5.out HZ5.out).mono ?_
          rintro _ X6 ⟨⟨a1, n1, b1, a2, n2, b2, rfl⟩, hb6⟩
          (try go_wp2_with fail)
          have HA6 := Lib.hid (HA5.out.below hb6)
          refine hK.out _ _ (⟨HA6.out.cell (.tail _ (.head _)) 0, HA6.out.cell (.tail _ (.head _)) 1⟩) (fun hS => ?_)
          clear hK K
          try simp only [Act.put, putA, putZ, putS]
          clear hb6
          refine tk [9, 10, 11, 12] ?_
          repeat (refine tkZ (oi := ⟨_, _, _, _, _, _⟩) (v := ?_) rfl (by kernel_rfl) (by rfl) (fun _ _ _ h => h) hS ?_ ?_; rotate_left; (· rintro W' ⟨z0, z1⟩; go_simp; try with_reducible rfl); try simp only [Act.put, putA, putZ, putS])
          refine tk0 ?_
          refine wpAnyZ_next (rs := [14]) (by kernel_rfl) (by simp) ?_
          refine NextZ.cons (o := ⟨none, _, _, _, _, _⟩) rfl (fun K hK => ?_) NextZ.nil
          have e0 := HA6.out.cell (.head _) 0
          have e1 := HA6.out.cell (.head _) 1
          have f0 := HA6.out.thaw (.head _) 0
          have f1 := HA6.out.thaw (.head _) 1
          have HA7 := Lib.hid (BF.set2 HA6.out (.head _) (.slice a1 n1 b1) (.slice a2 n2 b2) (L' := [(w.heap.size, #[.slice x.wa m.nw x.wc, .slice x.ra m.nr x.rc], 25)]) (List.forall_mem_cons.2 ⟨⟨show w.heap.size ≠ O5 by omega, (.tail _ (.head _))⟩, List.forall_mem_nil _⟩))
          go_simp
          refine hK.out _ _ (⟨HA7.out.cell (.tail _ (.head _)) 0, HA7.out.cell (.tail _ (.head _)) 1⟩) (fun hS => ?_)
          clear hK K
          (try simp only [Act.put])
          clear e0 e1 f0 f1
          refine tk [15, 16] ?_
          repeat (refine tkZ (oi := ⟨_, _, _, _, _, _⟩) (v := ?_) rfl (by kernel_rfl) (by rfl) (fun _ _ _ h => h) hS ?_ ?_; rotate_left; (· rintro W' ⟨z0, z1⟩; go_simp; try with_reducible rfl); try simp only [Act.put, putA, putZ, putS])
          refine tk0 ?_
          refine wpAnyZ_done (by kernel_rfl) ?_ _
          go_wp2_with fail
          go_meet
          exact ⟨rfl, rfl, HA7.out.sub (List.forall_mem_cons.2 ⟨(.tail _ (.head _)), List.forall_mem_nil _⟩)⟩
         refine NextZ.cons (o := ⟨some 13, _, _, _, _, _⟩) rfl (fun K hK => ?_) NextZ.nil
         have HM8 := Lib.hid (HM0.out.below (below_alloc X0 (.cells #[.slice none 0 0, .slice none 0 0] 30)))
         go_simp
         have HA8 := Lib.hid (HA0.out.alloc #[.slice none 0 0, .slice none 0 0] 30)
         have hn8M := (HA0.out.lt (.head _)).2
         have hn8_ := HA0.out.fr.size
         refine hK.out _ _ (⟨HA8.out.cell (.tail _ (.head _)) 0, HA8.out.cell (.tail _ (.head _)) 1⟩) (fun hS => ?_)
         clear hK K
         try simp only [Act.put, putA, putZ, putS]
         generalize X0.heap.size = O8 at *
         generalize (X0.alloc (.cells #[.slice none 0 0, .slice none 0 0] 30)) = X8 at *
         refine wpAnyZ_next (rs := [7]) (by kernel_rfl) (by simp) ?_
         refine NextZ.cons (o := ⟨some 50, _, _, _, _, _⟩) rfl (fun K hK => ?_) NextZ.nil
         go_simp
         rw [HOR.out, WC.out]
         refine (HS3.out X8).mono ?_
         rintro _ X9 ⟨pa9, pc9, rfl, hz9, hb9⟩
         (try go_wp2_with fail)
         have HA9 := Lib.hid (HA8.out.below hb9)
         have HM9 := Lib.hid (HM8.out.below hb9)
         have HZ9 := Lib.hid hz9
         refine hK.out _ _ (⟨HA9.out.cell (.tail _ (.head _)) 0, HA9.out.cell (.tail _ (.head _)) 1⟩) (fun hS => ?_)
         clear hK K
         try simp only [Act.put, putA, putZ, putS]
         clear hb9 hz9
         refine wpAnyZ_next (rs := [8]) (by kernel_rfl) (by simp) ?_
         refine NextZ.cons (o := ⟨some 51, _, _, _, _, _⟩) rfl (fun K hK => ?_) NextZ.nil
         go_simp
         refine (HT3.out y0 pa9 pc9 _ HM9.out HZ9.out).mono ?_
         rintro _ X10 ⟨⟨a1, n1, b1, a2, n2, b2, rfl⟩, hb10⟩
         (try go_wp2_with fail)
         have HA10 := Lib.hid (HA9.out.below hb10)
         refine hK.out _ _ (⟨HA10.out.cell (.tail _ (.head _)) 0, HA10.out.cell (.tail _ (.head _)) 1⟩) (fun hS => ?_)
         clear hK K
         try simp only [Act.put, putA, putZ, putS]
         clear hb10
         refine tk [9, 10, 11, 12] ?_
         repeat (refine tkZ (oi := ⟨_, _, _, _, _, _⟩) (v := ?_) rfl (by kernel_rfl) (by rfl) (fun _ _ _ h => h) hS ?_ ?_; rotate_left; (· rintro W' ⟨z0, z1⟩; go_simp; try with_reducible rfl); try simp only [Act.put, putA, putZ, putS])
         refine tk0 ?_
         refine wpAnyZ_next (rs := [14]) (by kernel_rfl) (by simp) ?_
         refine NextZ.cons (o := ⟨none, _, _, _, _, _⟩) rfl (fun K hK => ?_) NextZ.nil
         have e0 := HA10.out.cell (.head _) 0
         have e1 := HA10.out.cell (.head _) 1
         have f0 := HA10.out.thaw (.head _) 0
         have f1 := HA10.out.thaw (.head _) 1
         have HA11 := Lib.hid (BF.set2 HA10.out (.head _) (.slice a1 n1 b1) (.slice a2 n2 b2) (L' := [(w.heap.size, #[.slice x.wa m.nw x.wc, .slice x.ra m.nr x.rc], 25)]) (List.forall_mem_cons.2 ⟨⟨show w.heap.size ≠ O8 by omega, (.tail _ (.head _))⟩, List.forall_mem_nil _⟩))
         go_simp
         refine hK.out _ _ (⟨HA11.out.cell (.tail _ (.head _)) 0, HA11.out.cell (.tail _ (.head _)) 1⟩) (fun hS => ?_)
         clear hK K
         (try simp only [Act.put])
         clear e0 e1 f0 f1
         refine tk [15, 16] ?_
         repeat (refine tkZ (oi := ⟨_, _, _, _, _, _⟩) (v := ?_) rfl (by kernel_rfl) (by rfl) (fun _ _ _ h => h) hS ?_ ?_; rotate_left; (· rintro W' ⟨z0, z1⟩; go_simp; try with_reducible rfl); try simp only [Act.put, putA, putZ, putS])
         refine tk0 ?_
         refine wpAnyZ_done (by kernel_rfl) ?_ _
         go_wp2_with fail
         go_meet
         exact ⟨rfl, rfl, HA11.out.sub (List.forall_mem_cons.2 ⟨(.tail _ (.head _)), List.forall_mem_nil _⟩)⟩
        refine NextZ.cons (o := ⟨some 13, _, _, _, _, _⟩) rfl (fun K hK => ?_) NextZ.nil
        go_simp
        have HA12 := Lib.hid (HAX.out.alloc #[.slice none 0 0, .slice none 0 0] 30)
        have hn12M := (HAX.out.lt (.head _)).2
        have hn12_ := HAX.out.fr.size
        refine hK.out _ _ (⟨HA12.out.cell (.tail _ (.head _)) 0, HA12.out.cell (.tail _ (.head _)) 1⟩) (fun hS => ?_)
        clear hK K
        try simp only [Act.put, putA, putZ, putS]
        generalize X.heap.size = O12 at *
        generalize (X.alloc (.cells #[.slice none 0 0, .slice none 0 0] 30)) = X12 at *
        refine wpAnyZ_next (rs := [1]) (by kernel_rfl) (by simp) ?_
        refine NextZ.cons (o := ⟨some 44, _, _, _, _, _⟩) rfl (fun K hK => ?_) NextZ.nil
        go_simp
        refine (HMC.out X12 HA12.out.fr).mono ?_
        rintro _ X13 ⟨y13, rfl, hm13, hb13⟩
        (try go_wp2_with fail)
        have HA13 := Lib.hid (HA12.out.below hb13)
        have HM13 := Lib.hid hm13
        refine hK.out _ _ (⟨HA13.out.cell (.tail _ (.head _)) 0, HA13.out.cell (.tail _ (.head _)) 1⟩) (fun hS => ?_)
        clear hK K
        try simp only [Act.put, putA, putZ, putS]
        clear hb13 hm13
        refine wpAnyZ_next (rs := [7]) (by kernel_rfl) (by simp) ?_
        refine NextZ.cons (o := ⟨some 50, _, _, _, _, _⟩) rfl (fun K hK => ?_) NextZ.nil
        go_simp
        rw [HOR.out, WC.out]
        refine (HS3.out X13).mono ?_
        rintro _ X14 ⟨pa14, pc14, rfl, hz14, hb14⟩
        (try go_wp2_with fail)
        have HA14 := Lib.hid (HA13.out.below hb14)
        have HM14 := Lib.hid (HM13.out.below hb14)
        have HZ14 := Lib.hid hz14
        refine hK.out _ _ (⟨HA14.out.cell (.tail _ (.head _)) 0, HA14.out.cell (.tail _ (.head _)) 1⟩) (fun hS => ?_)
        clear hK K
        try simp only [Act.put, putA, putZ, putS]
        clear hb14 hz14
        refine wpAnyZ_next (rs := [8]) (by kernel_rfl) (by simp) ?_
        refine NextZ.cons (o := ⟨some 51, _, _, _, _, _⟩) rfl (fun K hK => ?_) NextZ.nil
        go_simp
        refine (HT3.out y13 pa14 pc14 _ HM14.out HZ14.out).mono ?_
        rintro _ X15 ⟨⟨a1, n1, b1, a2, n2, b2, rfl⟩, hb15⟩
        (try go_wp2_with fail)
        have HA15 := Lib.hid (HA14.out.below hb15)
        refine hK.out _ _ (⟨HA15.out.cell (.tail _ (.head _)) 0, HA15.out.cell (.tail _ (.head _)) 1⟩) (fun hS => ?_)
        clear hK K
        try simp only [Act.put, putA, putZ, putS]
        clear hb15
        refine tk [9, 10, 11, 12] ?_
        repeat (refine tkZ (oi := ⟨_, _, _, _, _, _⟩) (v := ?_) rfl (by kernel_rfl) (by rfl) (fun _ _ _ h => h) hS ?_ ?_; rotate_left; (· rintro W' ⟨z0, z1⟩; go_simp; try with_reducible rfl); try simp only [Act.put, putA, putZ, putS])
        refine tk0 ?_
        refine wpAnyZ_next (rs := [14]) (by kernel_rfl) (by simp) ?_
        refine NextZ.cons (o := ⟨none, _, _, _, _, _⟩) rfl (fun K hK => ?_) NextZ.nil
        have e0 := HA15.out.cell (.head _) 0
        have e1 := HA15.out.cell (.head _) 1
        have f0 := HA15.out.thaw (.head _) 0
        have f1 := HA15.out.thaw (.head _) 1
        have HA16 := Lib.hid (BF.set2 HA15.out (.head _) (.slice a1 n1 b1) (.slice a2 n2 b2) (L' := [(w.heap.size, #[.slice x.wa m.nw x.wc, .slice x.ra m.nr x.rc], 25)]) (List.forall_mem_cons.2 ⟨⟨show w.heap.size ≠ O12 by omega, (.tail _ (.head _))⟩, List.forall_mem_nil _⟩))
        go_simp
        refine hK.out _ _ (⟨HA16.out.cell (.tail _ (.head _)) 0, HA16.out.cell (.tail _ (.head _)) 1⟩) (fun hS => ?_)
        clear hK K
        (try simp only [Act.put])
        clear e0 e1 f0 f1
        refine tk [15, 16] ?_
        repeat (refine tkZ (oi := ⟨_, _, _, _, _, _⟩) (v := ?_) rfl (by kernel_rfl) (by rfl) (fun _ _ _ h => h) hS ?_ ?_; rotate_left; (· rintro W' ⟨z0, z1⟩; go_simp; try with_reducible rfl); try simp only [Act.put, putA, putZ, putS])
        refine tk0 ?_
        refine wpAnyZ_done (by kernel_rfl) ?_ _
        go_wp2_with fail
        go_meet
        exact ⟨rfl, rfl, HA16.out.sub (List.forall_mem_cons.2 ⟨(.tail _ (.head _)), List.forall_mem_nil _⟩)⟩
      case rest =>
        obtain ⟨rfl, rfl, hbf⟩ := hcut
        have HB4 := Lib.hid hbf
        clear hbf HB3
        rename World => wr4
        clear HS1 HS2 HS3 HT1 HT2 HT3 HMC HOR
        rcases HX.out with ⟨rfl, rfl, rfl | rfl⟩ | ⟨rfl, rfl, rfl⟩ | ⟨rfl, rfl, rfl, h1, h2, h3, h4, h5, h6, h7⟩
        · clear HX
          go_wp2_with (go_at_call 19; refine (awake_any _).mono ?_; rintro _ w9 ⟨rfl, hb⟩; have HZ := Lib.hid (HB4.out.below hb); clear hb)
          go_ret
          exact ⟨rfl, HZ.out.fr⟩
        · clear HX
          go_wp2_with (go_at_call 19; refine (awake_any _).mono ?_; rintro _ w9 ⟨rfl, hb⟩; have HZ := Lib.hid (HB4.out.below hb); clear hb)
          go_ret
          exact ⟨rfl, HZ.out.fr⟩
        · clear HX
          go_wp2_with (go_at_call 19; refine (awake_any _).mono ?_; rintro _ w9 ⟨rfl, hb⟩; have HZ := Lib.hid (HB4.out.below hb); clear hb)
          go_ret
          exact ⟨rfl, HZ.out.fr⟩
        · clear HX
          have kw : IntKind.i64.wrap (t1 + t2) = t1 + t2 := IntWalk.i64_in _ (by omega)
          have k1 : (t3 ≥ t1) := h1
          have k2 : (t3 ≥ t2) := h2
          go_wp2_with (go_at_call 19; refine (awake_any _).mono ?_; rintro _ w9 ⟨rfl, hb⟩; have HZ := Lib.hid (HB4.out.below hb); clear hb)
          go_ret
          exact ⟨rfl, HZ.out.fr⟩
end Go.Proofs.Ytpnkgjkoophckaa
