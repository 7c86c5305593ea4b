/- Link: the reference's Away, IsSure, IsPossible, Cost. Printed by gen_ob.py. -/
import Derived.Test.YtgbdbikjckfgmaaGreatOA
namespace Go.Proofs.YtgbdbikjckfgmaaGreat
open Go.RowKit Go.Shelf

theorem awN_start (G : Nat → Nat → Bool) (x y : Int) (hx : x < 0) : a8 (gI G) = a8 (gI (offG G (awN x y 0))) := a8_congr fun i _ => by
  rw [awN_zero, if_neg (by omega)]
theorem awN_start' (G : Nat → Nat → Bool) (a : Nat) (y : Int) : a8 (putL (gI G) a 0) = a8 (gI (offG G (awN (a : Int) y 0))) := a8_congr fun i _ => by
  rw [awN_zero]; unfold putL
  by_cases e : i = a
  · rw [if_pos e, if_pos (by omega)]
  · rw [if_neg e, if_neg (by omega)]
theorem awN_done (G : Nat → Nat → Bool) (x y : Int) : a8 (gI (offG G (awN x y 8))) = a8 (gI (offG G (awS x y))) := a8_congr fun _ hi => awN_8 G x y hi
theorem awN_done' (G : Nat → Nat → Bool) (x y : Int) (hy : y < 0) : a8 (gI (offG G (awN x y 0))) = a8 (gI (offG G (awS x y))) := a8_congr fun i _ => awN_neg G x i hy
set_option maxRecDepth 100000 in
set_option maxHeartbeats 8000000 in
theorem away_from (G : Nat → Nat → Bool) (x y : Int) (w : World) (hx : -1 ≤ x ∧ x < 8) (hy : -1 ≤ y ∧ y < 8) :
    Calls Tryz.prog 29 #[.agg (a8 (gI G)), .int .i64 x, .int .i64 y] w fun e w' => e = .returned (.agg (a8 (gI (offG G (awS x y))))) ∧ Below w.heap.size w w' := by
  obtain ⟨F, hF⟩ : ∃ F : Nat → Nat → Nat → Bool, (fun n => offG G (awN x y n)) = F := ⟨_, rfl⟩
  have HF8 : Hid (a8 (gI (F 8)) = a8 (gI (offG G (awS x y)))) := by rw [← hF]; exact awN_done G x y
  have HF0 : Hid (y < 0 → a8 (gI (F 0)) = a8 (gI (offG G (awS x y)))) := fun h => by rw [← hF]; exact awN_done' G x y h
  have HSA : Hid (x < 0 → a8 (gI G) = a8 (gI (F 0))) := fun h => by rw [← hF]; exact awN_start G x y h
  have HSB : Hid (∀ a : Nat, x = a → a8 (putL (gI G) a 0) = a8 (gI (F 0))) := fun a h => by rw [← hF]; subst h; exact awN_start' G a y
  have HST : Hid (∀ n b : Nat, y = b → offG (F n) (oneS n b) = F (n + 1)) := fun n b h => by rw [← hF]; subst h; exact awN_succ G x b n
  have HWI := Lib.hid (fun n a b X ha hb => without_any (F n) a b X ha hb)
  have HS1 := Lib.hid (fun n => graph_info' (gI (F n)))
  have HO1 := Lib.hid (fun n => a8_one (gI (F n)))
  have HZ1 : Hid (∀ n, (a8 fun _ => (0 : Int)).size = (a8 (gI (F n))).size) := fun n => by rw [a8_size, a8_size]
  have HZ2 : Hid (∀ m n, (a8 (gI (F m))).size = (a8 (gI (F n))).size) := fun m n => by rw [a8_size, a8_size]
  have HX8 := Lib.hid (a8_size (gI G))
  have HGA := Lib.hid (fun a (ha : a < 8) => a8_get (gI G) ha)
  have HSE := Lib.hid (fun a (ha : a < 8) => a8_set (gI G) 0 ha)
  have HA0 : Hid (BF w ((w.alloc (.cells (a8 (gI G)) 40)).alloc (.cells #[.int .i64 0, .int .i64 0, .int .i64 0, .int .i64 0, .int .i64 0, .int .i64 0, .int .i64 0, .int .i64 0] 40)) [(w.heap.size, a8 (gI G), 40), (w.heap.size + 1, a8 fun _ => 0, 40)]) := BF.made2 w _ _ _ _
  generalize a8 (gI (offG G (awS x y))) = cr at *
  generalize a8 (gI G) = cs at *
  clear hF
  go_enter Tryz.func29, Tryz.ntmps29
  go_upto_region 1 with fail
  generalize ((w.alloc (.cells cs 40)).alloc (.cells #[.int .i64 0, .int .i64 0, .int .i64 0, .int .i64 0, .int .i64 0, .int .i64 0, .int .i64 0, .int .i64 0] 40)) = w0 at *
  have HNE : Hid (w.heap.size ≠ w.heap.size + 1) := Lib.hid (by omega)
  obtain ⟨RB, hRB⟩ : ∃ b, w.heap.size + 1 = b := ⟨_, rfl⟩
  rw [hRB] at HA0 HNE ⊢
  have HRL : Hid (w.heap.size ≤ RB) := Lib.hid (by omega)
  clear hRB
  go_upto_if 9 with fail
  go_cut [] (fun wc => BF w wc [(w.heap.size, a8 (gI (F 0)), 40), (RB, a8 fun _ => 0, 40)])
  case first =>
    by_cases h0 : x < 0
    · have HA1 : Hid (BF w w0 [(w.heap.size, a8 (gI (F 0)), 40), (RB, a8 fun _ => 0, 40)]) := by rw [← HSA.out h0]; exact HA0.out
      have k1 : ¬ ((0 : Int) ≤ x) := by omega
      go_wp2_with fail
      go_meet
      exact HA1.out
    · obtain ⟨a, rfl⟩ : ∃ a : Nat, x = a := ⟨x.toNat, by omega⟩
      have ha : a < 8 := by omega
      have k1 : (0 : Int) ≤ (a : Int) := by omega
      have k2 : (a : Int) < 8 := by omega
      have e0 := (HA0.out.cell (.head _) a).trans (HGA.out a ha)
      have f0 := HA0.out.thaw (.head _) a
      have hne := HNE.out
      have HA1 := Lib.hid (BF.set1 (i := a) (cs' := a8 (gI (F 0))) HA0.out (.head _) (.int .i64 0) (by rw [HX8.out]; exact ha) (by rw [HSE.out a ha]; exact HSB.out a rfl) (L' := [(RB, a8 fun _ => 0, 40)]) (List.forall_mem_cons.2 ⟨⟨hne.symm, .tail _ (.head _)⟩, List.forall_mem_nil _⟩))
      go_wp2_with fail
      go_meet
      exact HA1.out
  case rest =>
    rename World => wc
    have HA1 := Lib.hid hcut
    clear HA0 HSA HSB HX8 HGA HSE
    by_cases hy0 : y < 0
    · have e := HF0.out hy0
      rw [e] at HA1
      have hs := HS1.out 0
      rw [e] at hs
      have ho := HO1.out 0
      rw [e] at ho
      have hz := HZ1.out 0
      rw [e] at hz
      have k1 : ¬ ((0 : Int) ≤ y) := by omega
      go_wp2_with fail
      go_loopw [7] (fun i wr => i = .int .i64 0 ∧ wr = wc) (fun i _ => 0)
      case atStart => exact ⟨rfl, rfl⟩
      case round =>
        obtain ⟨rfl, rfl⟩ := hrel
        go_upto_region 7 with fail
        have HG := Lib.hid (HA1.out.bk _ _ _ (.head _)).2
        have HR := Lib.hid (HA1.out.bk _ _ _ (.tail _ (.head _))).2
        refine wp_region_lit ?_
        refine wpList_load_row (o := ⟨some 24, _, _, _, _, _⟩) rfl 40 (.tmp 3) rfl w.heap.size rfl 40 cr (0, 0) _ HG.out Tryz.underlying40 rfl hs ?_
        refine wpList_store_row (o := ⟨none, .store 40 (.tmp 6) (.tmp 24), _, _, _, _⟩) rfl 40 (.tmp 6) (.tmp 24) rfl RB cr rfl rfl 40 (a8 fun _ => 0) HR.out hs hz ho ?_
        go_wp2_with fail
        refine bodyPost_ret (v := .agg cr) (results_cell_row rfl _ _ RB 40 _ (0, 0) _ rfl (setRow_heap _ _ _ _ _ _ HR.out) Tryz.underlying40 rfl hs) rfl ⟨rfl, ?_⟩
        exact below_setRow HA1.out.fr HRL.out
    · obtain ⟨b, rfl⟩ : ∃ b : Nat, y = b := ⟨y.toNat, by omega⟩
      have hb8 : b < 8 := by omega
      have k1 : (0 : Int) ≤ (b : Int) := by omega
      go_wp2_with fail
      go_loopw [7] (fun i wr => ∃ n : Nat, i = .int .i64 (n : Int) ∧ n ≤ 8 ∧ BF w wr [(w.heap.size, a8 (gI (F n)), 40), (RB, a8 fun _ => 0, 40)]) (fun i _ => 8 - (intOf i).toNat)
      case atStart => exact ⟨0, rfl, Nat.zero_le _, HA1.out⟩
      case round =>
        clear HA1
        obtain ⟨n, rfl, hn, hbf⟩ := hrel
        rename World => wx
        have HA2 := Lib.hid hbf
        clear hbf
        by_cases hlt : n < 8
        · have ki : (0 : Int) ≤ (n : Int) := by omega
          have kj : (n : Int) < 8 := by omega
          have HWN := Lib.hid (fun X => HWI.out n n b X hlt hb8)
          rw [HST.out n b rfl] at HWN
          have HG := Lib.hid (HA2.out.bk _ _ _ (.head _)).2
          have hs := Lib.hid (HS1.out n)
          have hs2 := Lib.hid (HS1.out (n + 1))
          have ho2 := Lib.hid (HO1.out (n + 1))
          have hz2 := Lib.hid (HZ2.out n (n + 1))
          obtain ⟨c2, hc2⟩ : ∃ c2, a8 (gI (F (n + 1))) = c2 := ⟨_, rfl⟩
          rw [hc2] at HWN hs2 ho2 hz2
          have HC2 := Lib.hid hc2
          clear hc2
          generalize a8 (gI (F n)) = c1 at *
          go_wp2_with (refine wpList_load_row (o := ⟨some 20, .load 40 (.tmp 3), _, _, _, _⟩) rfl 40 (.tmp 3) rfl w.heap.size rfl 40 c1 (0, 0) _ HG.out Tryz.underlying40 rfl hs.out ?_)
          refine (HWN.out _).mono ?_
          rintro _ w9 ⟨rfl, hb9⟩
          have HA3 := Lib.hid (HA2.out.below hb9)
          have HT := Lib.hid (HA3.out.bk _ _ _ (.head _)).2
          have hne := HNE.out
          have HA4 := Lib.hid (BF.setR HA3.out (.head _) c2 (L' := [(RB, a8 fun _ => 0, 40)]) (List.forall_mem_cons.2 ⟨⟨hne.symm, .tail _ (.head _)⟩, List.forall_mem_nil _⟩))
          clear hb9 HG HA2
          go_wp2_with (refine wpList_store_row (o := ⟨none, .store 40 (.tmp 3) (.tmp 23), _, _, _, _⟩) rfl 40 (.tmp 3) (.tmp 23) rfl w.heap.size c2 rfl rfl 40 c1 HT.out hs2.out hz2.out ho2.out ?_)
          go_roundw
          case rel => exact ⟨n + 1, by go_num, by omega, by rw [HC2.out]; exact HA4.out⟩
          case measure => simp [intOf]; omega
        · obtain rfl : n = 8 := by omega
          rw [HF8.out] at HA2
          have hs := HS1.out 8
          rw [HF8.out] at hs
          have ho := HO1.out 8
          rw [HF8.out] at ho
          have hz := HZ1.out 8
          rw [HF8.out] at hz
          have kj : ¬ (((8 : Nat) : Int) < 8) := by omega
          go_upto_region 7 with fail
          have HG := Lib.hid (HA2.out.bk _ _ _ (.head _)).2
          have HR := Lib.hid (HA2.out.bk _ _ _ (.tail _ (.head _))).2
          refine wp_region_lit ?_
          refine wpList_load_row (o := ⟨some 24, _, _, _, _, _⟩) rfl 40 (.tmp 3) rfl w.heap.size rfl 40 cr (0, 0) _ HG.out Tryz.underlying40 rfl hs ?_
          refine wpList_store_row (o := ⟨none, .store 40 (.tmp 6) (.tmp 24), _, _, _, _⟩) rfl 40 (.tmp 6) (.tmp 24) rfl RB cr rfl rfl 40 (a8 fun _ => 0) HR.out hs hz ho ?_
          go_wp2_with fail
          refine bodyPost_ret (v := .agg cr) (results_cell_row rfl _ _ RB 40 _ (0, 0) _ rfl (setRow_heap _ _ _ _ _ _ HR.out) Tryz.underlying40 rfl hs) rfl ⟨rfl, ?_⟩
          exact below_setRow HA2.out.fr HRL.out
/-- The size of a largest matching. -/
def mostR (G : Nat → Nat → Bool) : Int := bestL (szL G 8) 256
theorem bestL_bd {F : Nat → Int} (h : ∀ x, F x ≤ 8) : ∀ n, 0 ≤ bestL F n ∧ bestL F n ≤ 8
  | 0 => by show (0 : Int) ≤ 0 ∧ (0 : Int) ≤ 8; omega
  | n + 1 => by
    have ih := bestL_bd h n
    have := h n
    show 0 ≤ max (bestL F n) (F n) ∧ max (bestL F n) (F n) ≤ 8; omega
theorem mostR_bd (G : Nat → Nat → Bool) : 0 ≤ mostR G ∧ mostR G ≤ 8 := bestL_bd (fun x => (szL_bd G 8 x).2) _
theorem mostR_any (G : Nat → Nat → Bool) (w : World) : Calls Tryz.prog 28 #[.agg (a8 (gI G))] w fun e w' => e = .returned (.int .i64 (mostR G)) ∧ Below w.heap.size w w' := most_any G w
theorem away_two (G : Nat → Nat → Bool) (a b : Nat) (w : World) (ha : a < 8) (hb : b < 8) :
    Calls Tryz.prog 29 #[.agg (a8 (gI G)), .int .i64 (a : Int), .int .i64 (b : Int)] w fun e w' => e = .returned (.agg (a8 (gI (offG G (twoS a b))))) ∧ Below w.heap.size w w' := by
  rw [← awS_two]; exact away_from G a b w (by omega) (by omega)
theorem away_row (G : Nat → Nat → Bool) (a : Nat) (w : World) (ha : a < 8) :
    Calls Tryz.prog 29 #[.agg (a8 (gI G)), .int .i64 (a : Int), .int .i64 (-1)] w fun e w' => e = .returned (.agg (a8 (gI (offG G (rowS a))))) ∧ Below w.heap.size w w' := by
  rw [← awS_row]; exact away_from G a (-1) w (by omega) (by omega)
theorem away_col (G : Nat → Nat → Bool) (b : Nat) (w : World) (hb : b < 8) :
    Calls Tryz.prog 29 #[.agg (a8 (gI G)), .int .i64 (-1), .int .i64 (b : Int)] w fun e w' => e = .returned (.agg (a8 (gI (offG G (colS b))))) ∧ Below w.heap.size w w' := by
  rw [← awS_col]; exact away_from G (-1) b w (by omega) (by omega)
theorem row_range {W : World} {b : Nat} {L : List Value} {T : TypeId} (h : W.heap[b]? = some (.cells L.toArray T (0, 0))) : W.rangeAt b 0 L := fun j v hv => by
  have := cell_of_row W b j _ _ _ h
  rw [Nat.zero_add]
  rw [this]; simpa using hv
/-- A graph's eight rows. -/
def g8L (F : Nat → Int) : List Value := (List.range 8).map fun j => .int .i64 (F j)
theorem ld_graph {ops : Array Oper} {S : World → Prop} {op : Oper} {a : Act} (F : Nat → Int) (hw : Region.wanted op (yielded ops a.tmps) = true) (x : Operand) (ho : op.op = .load 40 x) (b : Nat) (hx : a.eval x = .pointer (some ⟨b, 0, none⟩)) (hS : ∀ w, S w → w.rangeAt b 0 (g8L F)) : YieldsIf Tryz.prog ops S op (.agg (a8 F)) a :=
  yieldsIf_load_mid hw 40 x ho b 0 hx (g8L F) _ hS Tryz.underlying40 rfl (by rw [show (g8L F).length = 8 by simp [g8L]]; kernel_rfl)
set_option maxRecDepth 100000 in
set_option maxHeartbeats 16000000 in
theorem isSure_any (G : Nat → Nat → Bool) (i k : Nat) (w : World) (hi : i < 8) (hk : k < 8) :
    Calls Tryz.prog 45 #[.agg (a8 (gI G)), .int .i64 (i : Int), .int .i64 (k : Int)] w fun e w' => e = .returned (.bool (G i k && decide (mostR (offG G (oneS i k)) < mostR G))) ∧ Below w.heap.size w w' := by
  have HIS := Lib.hid (fun X => is_any G i k X hi hk)
  have HWI := Lib.hid (fun X => without_any G i k X hi hk)
  have HM1 := Lib.hid (fun X => mostR_any (offG G (oneS i k)) X)
  have HM0 := Lib.hid (fun X => mostR_any G X)
  generalize mostR (offG G (oneS i k)) = m1 at *
  generalize mostR G = m0 at *
  generalize G i k = gk at *
  have HA0 : Hid (BF w (w.alloc (.cells (a8 (gI G)) 40)) [(w.heap.size, a8 (gI G), 40)]) := (BF.base w).alloc _ _
  go_enter Tryz.func45, Tryz.ntmps45
  go_upto_region 1 with (refine wpList_box_row (o := ⟨some 3, .box 40 (.tmp 0), _, _, _, _⟩) rfl 40 (.tmp 0) rfl (a8 (gI G)) rfl ?_)
  generalize w.alloc (.cells (a8 (gI G)) 40) = w0 at *
  have HAX := Lib.hid (HA0.out.below (Below.refl w0.heap.size _).drew)
  refine wp_region_Z (S := fun X => X.rangeAt w.heap.size 0 (g8L (gI G))) (by kernel_rfl) (row_range ((HAX.out.bk _ _ _ (.head _)).2)) (fun hS => ?_)
  generalize w0.drew = X at *
  clear HA0
  cases gk
  ·
    refine wpAnyZ_take (i := 0) (oi := ⟨some 7, _, _, _, _, _⟩) (v := .agg (a8 (gI G))) rfl (by kernel_rfl) (by kernel_rfl) (by kernel_rfl) (fun _ _ _ h => h) (ld_graph (gI G) (by rfl) (.tmp 3) rfl w.heap.size rfl (fun _ h => h)) hS ?_
    try simp only [Act.put, putA, putZ, putS]
    refine tk [1, 2] ?_
    repeat (refine tkZ (oi := ⟨_, _, _, _, _, _⟩) (v := ?_) rfl (by kernel_rfl) (by rfl) (fun _ _ _ h => h) hS ?_ ?_; rotate_left; (· intro W' hSw; (try dsimp only at hSw); go_simp; try with_reducible rfl); try simp only [Act.put, putA, putZ, putS])
    refine tk0 ?_
    refine wpAnyZ_next (rs := [3]) (by kernel_rfl) (by simp) ?_
    refine NextZ.cons (o := ⟨some 10, _, _, _, _, _⟩) rfl (fun K hK => ?_) NextZ.nil
    go_simp
    refine (HIS.out _).mono ?_
    rintro _ X0 ⟨rfl, hb0⟩
    (try go_wp2_with fail)
    have HA0 := Lib.hid (HAX.out.below hb0)
    refine hK.out _ _ (row_range ((HA0.out.bk _ _ _ (.head _)).2)) (fun hS => ?_)
    clear hK K
    try simp only [Act.put, putA, putZ, putS]
    clear hb0
    refine tZ 4 (oi := ⟨_, _, _, _, _, _⟩) (v := ?_) rfl (by kernel_rfl) (by rfl) (fun _ _ _ h => h) hS ?_ ?_
    rotate_left
    · intro W' hSw; (try dsimp only at hSw); go_simp; try with_reducible rfl
    try simp only [Act.put, putA, putZ, putS]
    refine wpAnyZ_take (i := 5) (oi := ⟨some 12, _, _, _, _, _⟩) (v := undef) rfl (by kernel_rfl) (by kernel_rfl) (by kernel_rfl) (fun _ _ _ h => h) (Or.inr ⟨by rfl, rfl⟩) hS ?_
    try simp only [Act.put, putA, putZ, putS]
    refine wpAnyZ_take (i := 6) (oi := ⟨some 13, _, _, _, _, _⟩) (v := undef) rfl (by kernel_rfl) (by kernel_rfl) (by kernel_rfl) (fun _ _ _ h => h) (Or.inr ⟨by rfl, rfl⟩) hS ?_
    try simp only [Act.put, putA, putZ, putS]
    refine wpAnyZ_take (i := 7) (oi := ⟨some 14, _, _, _, _, _⟩) (v := undef) rfl (by kernel_rfl) (by kernel_rfl) (by kernel_rfl) (fun _ _ _ h => h) (Or.inr ⟨by rfl, rfl⟩) hS ?_
    try simp only [Act.put, putA, putZ, putS]
    refine wpAnyZ_take (i := 8) (oi := ⟨some 15, _, _, _, _, _⟩) (v := undef) rfl (by kernel_rfl) (by kernel_rfl) (by kernel_rfl) (fun _ _ _ h => h) (Or.inr ⟨by rfl, rfl⟩) hS ?_
    try simp only [Act.put, putA, putZ, putS]
    refine wpAnyZ_take (i := 9) (oi := ⟨some 16, _, _, _, _, _⟩) (v := undef) rfl (by kernel_rfl) (by kernel_rfl) (by kernel_rfl) (fun _ _ _ h => h) (Or.inr ⟨by rfl, rfl⟩) hS ?_
    try simp only [Act.put, putA, putZ, putS]
    refine wpAnyZ_take (i := 10) (oi := ⟨some 17, _, _, _, _, _⟩) (v := undef) rfl (by kernel_rfl) (by kernel_rfl) (by kernel_rfl) (fun _ _ _ h => h) (Or.inr ⟨by rfl, rfl⟩) hS ?_
    try simp only [Act.put, putA, putZ, putS]
    refine wpAnyZ_take (i := 11) (oi := ⟨some 18, _, _, _, _, _⟩) (v := undef) rfl (by kernel_rfl) (by kernel_rfl) (by kernel_rfl) (fun _ _ _ h => h) (Or.inr ⟨by rfl, rfl⟩) hS ?_
    try simp only [Act.put, putA, putZ, putS]
    refine wpAnyZ_take (i := 12) (oi := ⟨some 19, _, _, _, _, _⟩) (v := undef) rfl (by kernel_rfl) (by kernel_rfl) (by kernel_rfl) (fun _ _ _ h => h) (Or.inr ⟨by rfl, rfl⟩) hS ?_
    try simp only [Act.put, putA, putZ, putS]
    refine tk [13, 14] ?_
    repeat (refine tkZ (oi := ⟨_, _, _, _, _, _⟩) (v := ?_) rfl (by kernel_rfl) (by rfl) (fun _ _ _ h => h) hS ?_ ?_; rotate_left; (· intro W' hSw; (try dsimp only at hSw); go_simp; try with_reducible rfl); try simp only [Act.put, putA, putZ, putS])
    refine tk0 ?_
    refine wpAnyZ_done (by kernel_rfl) ?_ _
    have HX2 := Lib.hid (HA0.out)
    go_wp2_with fail
    go_ret
    exact ⟨rfl, HX2.out.fr⟩
  ·
    refine wpAnyZ_take (i := 0) (oi := ⟨some 7, _, _, _, _, _⟩) (v := .agg (a8 (gI G))) rfl (by kernel_rfl) (by kernel_rfl) (by kernel_rfl) (fun _ _ _ h => h) (ld_graph (gI G) (by rfl) (.tmp 3) rfl w.heap.size rfl (fun _ h => h)) hS ?_
    try simp only [Act.put, putA, putZ, putS]
    refine tk [1, 2] ?_
    repeat (refine tkZ (oi := ⟨_, _, _, _, _, _⟩) (v := ?_) rfl (by kernel_rfl) (by rfl) (fun _ _ _ h => h) hS ?_ ?_; rotate_left; (· intro W' hSw; (try dsimp only at hSw); go_simp; try with_reducible rfl); try simp only [Act.put, putA, putZ, putS])
    refine tk0 ?_
    refine wpAnyZ_next (rs := [3]) (by kernel_rfl) (by simp) ?_
    refine NextZ.cons (o := ⟨some 10, _, _, _, _, _⟩) rfl (fun K hK => ?_) NextZ.nil
    go_simp
    refine (HIS.out _).mono ?_
    rintro _ X0 ⟨rfl, hb0⟩
    (try go_wp2_with fail)
    have HA0 := Lib.hid (HAX.out.below hb0)
    refine hK.out _ _ (row_range ((HA0.out.bk _ _ _ (.head _)).2)) (fun hS => ?_)
    clear hK K
    try simp only [Act.put, putA, putZ, putS]
    clear hb0
    refine tZ 4 (oi := ⟨_, _, _, _, _, _⟩) (v := ?_) rfl (by kernel_rfl) (by rfl) (fun _ _ _ h => h) hS ?_ ?_
    rotate_left
    · intro W' hSw; (try dsimp only at hSw); go_simp; try with_reducible rfl
    try simp only [Act.put, putA, putZ, putS]
    refine wpAnyZ_take (i := 5) (oi := ⟨some 12, _, _, _, _, _⟩) (v := .agg (a8 (gI G))) rfl (by kernel_rfl) (by kernel_rfl) (by kernel_rfl) (fun _ _ _ h => h) (ld_graph (gI G) (by rfl) (.tmp 3) rfl w.heap.size rfl (fun _ h => h)) hS ?_
    try simp only [Act.put, putA, putZ, putS]
    refine tk [6, 7] ?_
    repeat (refine tkZ (oi := ⟨_, _, _, _, _, _⟩) (v := ?_) rfl (by kernel_rfl) (by rfl) (fun _ _ _ h => h) hS ?_ ?_; rotate_left; (· intro W' hSw; (try dsimp only at hSw); go_simp; try with_reducible rfl); try simp only [Act.put, putA, putZ, putS])
    refine tk0 ?_
    refine wpAnyZ_take (i := 10) (oi := ⟨some 17, _, _, _, _, _⟩) (v := .agg (a8 (gI G))) rfl (by kernel_rfl) (by kernel_rfl) (by kernel_rfl) (fun _ _ _ h => h) (ld_graph (gI G) (by rfl) (.tmp 3) rfl w.heap.size rfl (fun _ h => h)) hS ?_
    try simp only [Act.put, putA, putZ, putS]
    refine wpAnyZ_next (rs := [8]) (by kernel_rfl) (by simp) ?_
    refine NextZ.cons (o := ⟨some 15, _, _, _, _, _⟩) rfl (fun K hK => ?_) NextZ.nil
    go_simp
    refine (HWI.out _).mono ?_
    rintro _ X1 ⟨rfl, hb1⟩
    (try go_wp2_with fail)
    have HA1 := Lib.hid (HA0.out.below hb1)
    refine hK.out _ _ (row_range ((HA1.out.bk _ _ _ (.head _)).2)) (fun hS => ?_)
    clear hK K
    try simp only [Act.put, putA, putZ, putS]
    clear hb1
    refine wpAnyZ_next (rs := [9]) (by kernel_rfl) (by simp) ?_
    refine NextZ.cons (o := ⟨some 16, _, _, _, _, _⟩) rfl (fun K hK => ?_) NextZ.nil
    go_simp
    refine (HM1.out _).mono ?_
    rintro _ X2 ⟨rfl, hb2⟩
    (try go_wp2_with fail)
    have HA2 := Lib.hid (HA1.out.below hb2)
    refine hK.out _ _ (row_range ((HA2.out.bk _ _ _ (.head _)).2)) (fun hS => ?_)
    clear hK K
    try simp only [Act.put, putA, putZ, putS]
    clear hb2
    refine wpAnyZ_next (rs := [11]) (by kernel_rfl) (by simp) ?_
    refine NextZ.cons (o := ⟨some 18, _, _, _, _, _⟩) rfl (fun K hK => ?_) NextZ.nil
    go_simp
    refine (HM0.out _).mono ?_
    rintro _ X3 ⟨rfl, hb3⟩
    (try go_wp2_with fail)
    have HA3 := Lib.hid (HA2.out.below hb3)
    refine hK.out _ _ (row_range ((HA3.out.bk _ _ _ (.head _)).2)) (fun hS => ?_)
    clear hK K
    try simp only [Act.put, putA, putZ, putS]
    clear hb3
    refine tk [12, 13, 14] ?_
    repeat (refine tkZ (oi := ⟨_, _, _, _, _, _⟩) (v := ?_) rfl (by kernel_rfl) (by rfl) (fun _ _ _ h => h) hS ?_ ?_; rotate_left; (· intro W' hSw; (try dsimp only at hSw); go_simp; try with_reducible rfl); try simp only [Act.put, putA, putZ, putS])
    refine tk0 ?_
    refine wpAnyZ_done (by kernel_rfl) ?_ _
    have HX2 := Lib.hid (HA3.out)
    go_wp2_with fail
    go_ret
    exact ⟨rfl, HX2.out.fr⟩

set_option maxRecDepth 100000 in
set_option maxHeartbeats 16000000 in
theorem isPoss_any (G : Nat → Nat → Bool) (i k : Nat) (w : World) (hi : i < 8) (hk : k < 8) :
    Calls Tryz.prog 46 #[.agg (a8 (gI G)), .int .i64 (i : Int), .int .i64 (k : Int)] w fun e w' => e = .returned (.bool (G i k && decide (1 + mostR (offG G (twoS i k)) = mostR G))) ∧ Below w.heap.size w w' := by
  have HIS := Lib.hid (fun X => is_any G i k X hi hk)
  have HWI := Lib.hid (fun X => away_two G i k X hi hk)
  have HM1 := Lib.hid (fun X => mostR_any (offG G (twoS i k)) X)
  have HM0 := Lib.hid (fun X => mostR_any G X)
  have hm1 := mostR_bd (offG G (twoS i k))
  generalize mostR (offG G (twoS i k)) = m1 at *
  generalize mostR G = m0 at *
  generalize G i k = gk at *
  have kw : IntKind.i64.wrap (1 + m1) = 1 + m1 := IntWalk.i64_in _ (by omega)
  have HA0 : Hid (BF w (w.alloc (.cells (a8 (gI G)) 40)) [(w.heap.size, a8 (gI G), 40)]) := (BF.base w).alloc _ _
  go_enter Tryz.func46, Tryz.ntmps46
  go_upto_region 1 with (refine wpList_box_row (o := ⟨some 3, .box 40 (.tmp 0), _, _, _, _⟩) rfl 40 (.tmp 0) rfl (a8 (gI G)) rfl ?_)
  generalize w.alloc (.cells (a8 (gI G)) 40) = w0 at *
  have HAX := Lib.hid (HA0.out.below (Below.refl w0.heap.size _).drew)
  refine wp_region_Z (S := fun X => X.rangeAt w.heap.size 0 (g8L (gI G))) (by kernel_rfl) (row_range ((HAX.out.bk _ _ _ (.head _)).2)) (fun hS => ?_)
  generalize w0.drew = X at *
  clear HA0
  cases gk
  ·
    refine wpAnyZ_take (i := 0) (oi := ⟨some 7, _, _, _, _, _⟩) (v := .agg (a8 (gI G))) rfl (by kernel_rfl) (by kernel_rfl) (by kernel_rfl) (fun _ _ _ h => h) (ld_graph (gI G) (by rfl) (.tmp 3) rfl w.heap.size rfl (fun _ h => h)) hS ?_
    try simp only [Act.put, putA, putZ, putS]
    refine tk [1, 2] ?_
    repeat (refine tkZ (oi := ⟨_, _, _, _, _, _⟩) (v := ?_) rfl (by kernel_rfl) (by rfl) (fun _ _ _ h => h) hS ?_ ?_; rotate_left; (· intro W' hSw; (try dsimp only at hSw); go_simp; try with_reducible rfl); try simp only [Act.put, putA, putZ, putS])
    refine tk0 ?_
    refine wpAnyZ_next (rs := [3]) (by kernel_rfl) (by simp) ?_
    refine NextZ.cons (o := ⟨some 10, _, _, _, _, _⟩) rfl (fun K hK => ?_) NextZ.nil
    go_simp
    refine (HIS.out _).mono ?_
    rintro _ X0 ⟨rfl, hb0⟩
    (try go_wp2_with fail)
    have HA0 := Lib.hid (HAX.out.below hb0)
    refine hK.out _ _ (row_range ((HA0.out.bk _ _ _ (.head _)).2)) (fun hS => ?_)
    clear hK K
    try simp only [Act.put, putA, putZ, putS]
    clear hb0
    refine tZ 4 (oi := ⟨_, _, _, _, _, _⟩) (v := ?_) rfl (by kernel_rfl) (by rfl) (fun _ _ _ h => h) hS ?_ ?_
    rotate_left
    · intro W' hSw; (try dsimp only at hSw); go_simp; try with_reducible rfl
    try simp only [Act.put, putA, putZ, putS]
    refine wpAnyZ_take (i := 5) (oi := ⟨some 12, _, _, _, _, _⟩) (v := undef) rfl (by kernel_rfl) (by kernel_rfl) (by kernel_rfl) (fun _ _ _ h => h) (Or.inr ⟨by rfl, rfl⟩) hS ?_
    try simp only [Act.put, putA, putZ, putS]
    refine wpAnyZ_take (i := 6) (oi := ⟨some 13, _, _, _, _, _⟩) (v := undef) rfl (by kernel_rfl) (by kernel_rfl) (by kernel_rfl) (fun _ _ _ h => h) (Or.inr ⟨by rfl, rfl⟩) hS ?_
    try simp only [Act.put, putA, putZ, putS]
    refine wpAnyZ_take (i := 7) (oi := ⟨some 14, _, _, _, _, _⟩) (v := undef) rfl (by kernel_rfl) (by kernel_rfl) (by kernel_rfl) (fun _ _ _ h => h) (Or.inr ⟨by rfl, rfl⟩) hS ?_
    try simp only [Act.put, putA, putZ, putS]
    refine wpAnyZ_take (i := 8) (oi := ⟨some 15, _, _, _, _, _⟩) (v := undef) rfl (by kernel_rfl) (by kernel_rfl) (by kernel_rfl) (fun _ _ _ h => h) (Or.inr ⟨by rfl, rfl⟩) hS ?_
    try simp only [Act.put, putA, putZ, putS]
    refine wpAnyZ_take (i := 9) (oi := ⟨some 16, _, _, _, _, _⟩) (v := undef) rfl (by kernel_rfl) (by kernel_rfl) (by kernel_rfl) (fun _ _ _ h => h) (Or.inr ⟨by rfl, rfl⟩) hS ?_
    try simp only [Act.put, putA, putZ, putS]
    refine wpAnyZ_take (i := 10) (oi := ⟨some 17, _, _, _, _, _⟩) (v := undef) rfl (by kernel_rfl) (by kernel_rfl) (by kernel_rfl) (fun _ _ _ h => h) (Or.inr ⟨by rfl, rfl⟩) hS ?_
    try simp only [Act.put, putA, putZ, putS]
    refine wpAnyZ_take (i := 11) (oi := ⟨some 18, _, _, _, _, _⟩) (v := undef) rfl (by kernel_rfl) (by kernel_rfl) (by kernel_rfl) (fun _ _ _ h => h) (Or.inr ⟨by rfl, rfl⟩) hS ?_
    try simp only [Act.put, putA, putZ, putS]
    refine wpAnyZ_take (i := 12) (oi := ⟨some 19, _, _, _, _, _⟩) (v := undef) rfl (by kernel_rfl) (by kernel_rfl) (by kernel_rfl) (fun _ _ _ h => h) (Or.inr ⟨by rfl, rfl⟩) hS ?_
    try simp only [Act.put, putA, putZ, putS]
    refine wpAnyZ_take (i := 13) (oi := ⟨some 20, _, _, _, _, _⟩) (v := undef) rfl (by kernel_rfl) (by kernel_rfl) (by kernel_rfl) (fun _ _ _ h => h) (Or.inr ⟨by rfl, rfl⟩) hS ?_
    try simp only [Act.put, putA, putZ, putS]
    refine tk [14, 15] ?_
    repeat (refine tkZ (oi := ⟨_, _, _, _, _, _⟩) (v := ?_) rfl (by kernel_rfl) (by rfl) (fun _ _ _ h => h) hS ?_ ?_; rotate_left; (· intro W' hSw; (try dsimp only at hSw); go_simp; try with_reducible rfl); try simp only [Act.put, putA, putZ, putS])
    refine tk0 ?_
    refine wpAnyZ_done (by kernel_rfl) ?_ _
    have HX2 := Lib.hid (HA0.out)
    go_wp2_with fail
    go_ret
    exact ⟨rfl, HX2.out.fr⟩
  ·
    refine wpAnyZ_take (i := 0) (oi := ⟨some 7, _, _, _, _, _⟩) (v := .agg (a8 (gI G))) rfl (by kernel_rfl) (by kernel_rfl) (by kernel_rfl) (fun _ _ _ h => h) (ld_graph (gI G) (by rfl) (.tmp 3) rfl w.heap.size rfl (fun _ h => h)) hS ?_
    try simp only [Act.put, putA, putZ, putS]
    refine tk [1, 2] ?_
    repeat (refine tkZ (oi := ⟨_, _, _, _, _, _⟩) (v := ?_) rfl (by kernel_rfl) (by rfl) (fun _ _ _ h => h) hS ?_ ?_; rotate_left; (· intro W' hSw; (try dsimp only at hSw); go_simp; try with_reducible rfl); try simp only [Act.put, putA, putZ, putS])
    refine tk0 ?_
    refine wpAnyZ_next (rs := [3]) (by kernel_rfl) (by simp) ?_
    refine NextZ.cons (o := ⟨some 10, _, _, _, _, _⟩) rfl (fun K hK => ?_) NextZ.nil
    go_simp
    refine (HIS.out _).mono ?_
    rintro _ X0 ⟨rfl, hb0⟩
    (try go_wp2_with fail)
    have HA0 := Lib.hid (HAX.out.below hb0)
    refine hK.out _ _ (row_range ((HA0.out.bk _ _ _ (.head _)).2)) (fun hS => ?_)
    clear hK K
    try simp only [Act.put, putA, putZ, putS]
    clear hb0
    refine tZ 4 (oi := ⟨_, _, _, _, _, _⟩) (v := ?_) rfl (by kernel_rfl) (by rfl) (fun _ _ _ h => h) hS ?_ ?_
    rotate_left
    · intro W' hSw; (try dsimp only at hSw); go_simp; try with_reducible rfl
    try simp only [Act.put, putA, putZ, putS]
    refine wpAnyZ_take (i := 5) (oi := ⟨some 12, _, _, _, _, _⟩) (v := .agg (a8 (gI G))) rfl (by kernel_rfl) (by kernel_rfl) (by kernel_rfl) (fun _ _ _ h => h) (ld_graph (gI G) (by rfl) (.tmp 3) rfl w.heap.size rfl (fun _ h => h)) hS ?_
    try simp only [Act.put, putA, putZ, putS]
    refine tk [6, 7] ?_
    repeat (refine tkZ (oi := ⟨_, _, _, _, _, _⟩) (v := ?_) rfl (by kernel_rfl) (by rfl) (fun _ _ _ h => h) hS ?_ ?_; rotate_left; (· intro W' hSw; (try dsimp only at hSw); go_simp; try with_reducible rfl); try simp only [Act.put, putA, putZ, putS])
    refine tk0 ?_
    refine wpAnyZ_take (i := 11) (oi := ⟨some 18, _, _, _, _, _⟩) (v := .agg (a8 (gI G))) rfl (by kernel_rfl) (by kernel_rfl) (by kernel_rfl) (fun _ _ _ h => h) (ld_graph (gI G) (by rfl) (.tmp 3) rfl w.heap.size rfl (fun _ h => h)) hS ?_
    try simp only [Act.put, putA, putZ, putS]
    refine wpAnyZ_next (rs := [8]) (by kernel_rfl) (by simp) ?_
    refine NextZ.cons (o := ⟨some 15, _, _, _, _, _⟩) rfl (fun K hK => ?_) NextZ.nil
    go_simp
    refine (HWI.out _).mono ?_
    rintro _ X1 ⟨rfl, hb1⟩
    (try go_wp2_with fail)
    have HA1 := Lib.hid (HA0.out.below hb1)
    refine hK.out _ _ (row_range ((HA1.out.bk _ _ _ (.head _)).2)) (fun hS => ?_)
    clear hK K
    try simp only [Act.put, putA, putZ, putS]
    clear hb1
    refine wpAnyZ_next (rs := [9]) (by kernel_rfl) (by simp) ?_
    refine NextZ.cons (o := ⟨some 16, _, _, _, _, _⟩) rfl (fun K hK => ?_) NextZ.nil
    go_simp
    refine (HM1.out _).mono ?_
    rintro _ X2 ⟨rfl, hb2⟩
    (try go_wp2_with fail)
    have HA2 := Lib.hid (HA1.out.below hb2)
    refine hK.out _ _ (row_range ((HA2.out.bk _ _ _ (.head _)).2)) (fun hS => ?_)
    clear hK K
    try simp only [Act.put, putA, putZ, putS]
    clear hb2
    refine tZ 10 (oi := ⟨_, _, _, _, _, _⟩) (v := ?_) rfl (by kernel_rfl) (by rfl) (fun _ _ _ h => h) hS ?_ ?_
    rotate_left
    · intro W' hSw; (try dsimp only at hSw); go_simp; try with_reducible rfl
    try simp only [Act.put, putA, putZ, putS]
    refine wpAnyZ_next (rs := [12]) (by kernel_rfl) (by simp) ?_
    refine NextZ.cons (o := ⟨some 19, _, _, _, _, _⟩) rfl (fun K hK => ?_) NextZ.nil
    go_simp
    refine (HM0.out _).mono ?_
    rintro _ X3 ⟨rfl, hb3⟩
    (try go_wp2_with fail)
    have HA3 := Lib.hid (HA2.out.below hb3)
    refine hK.out _ _ (row_range ((HA3.out.bk _ _ _ (.head _)).2)) (fun hS => ?_)
    clear hK K
    try simp only [Act.put, putA, putZ, putS]
    clear hb3
    refine tk [13, 14, 15] ?_
    repeat (refine tkZ (oi := ⟨_, _, _, _, _, _⟩) (v := ?_) rfl (by kernel_rfl) (by rfl) (fun _ _ _ h => h) hS ?_ ?_; rotate_left; (· intro W' hSw; (try dsimp only at hSw); go_simp; try with_reducible rfl); try simp only [Act.put, putA, putZ, putS])
    refine tk0 ?_
    refine wpAnyZ_done (by kernel_rfl) ?_ _
    have HX2 := Lib.hid (HA3.out)
    go_wp2_with fail
    go_ret
    exact ⟨rfl, HX2.out.fr⟩

set_option maxRecDepth 100000 in
set_option maxHeartbeats 16000000 in
theorem rCost_any (G : Nat → Nat → Bool) (i k : Nat) (w : World) (hi : i < 8) (hk : k < 8) :
    Calls Tryz.prog 33 #[.agg (a8 (gI G)), .int .i64 (i : Int), .int .i64 (k : Int)] w fun e w' => e = .returned (.int .i64 (mostR G - 1 - mostR (offG G (twoS i k)))) ∧ Below w.heap.size w w' := by
  have HWI := Lib.hid (fun X => away_two G i k X hi hk)
  have HM1 := Lib.hid (fun X => mostR_any (offG G (twoS i k)) X)
  have HM0 := Lib.hid (fun X => mostR_any G X)
  have hm1 := mostR_bd (offG G (twoS i k))
  have hm0 := mostR_bd G
  generalize mostR (offG G (twoS i k)) = m1 at *
  generalize mostR G = m0 at *
  have kw : IntKind.i64.wrap (m0 - 1) = m0 - 1 := IntWalk.i64_in _ (by omega)
  have kw2 : IntKind.i64.wrap (m0 - 1 - m1) = m0 - 1 - m1 := IntWalk.i64_in _ (by omega)
  have HA0 : Hid (BF w (w.alloc (.cells (a8 (gI G)) 40)) [(w.heap.size, a8 (gI G), 40)]) := (BF.base w).alloc _ _
  go_enter Tryz.func33, Tryz.ntmps33
  go_upto_region 1 with (refine wpList_box_row (o := ⟨some 3, .box 40 (.tmp 0), _, _, _, _⟩) rfl 40 (.tmp 0) rfl (a8 (gI G)) rfl ?_)
  generalize w.alloc (.cells (a8 (gI G)) 40) = w0 at *
  have HAX := Lib.hid (HA0.out.below (Below.refl w0.heap.size _).drew)
  refine wp_region_Z (S := fun X => X.rangeAt w.heap.size 0 (g8L (gI G))) (by kernel_rfl) (row_range ((HAX.out.bk _ _ _ (.head _)).2)) (fun hS => ?_)
  generalize w0.drew = X at *
  clear HA0
  refine wpAnyZ_take (i := 0) (oi := ⟨some 7, _, _, _, _, _⟩) (v := .agg (a8 (gI G))) rfl (by kernel_rfl) (by kernel_rfl) (by kernel_rfl) (fun _ _ _ h => h) (ld_graph (gI G) (by rfl) (.tmp 3) rfl w.heap.size rfl (fun _ h => h)) hS ?_
  try simp only [Act.put, putA, putZ, putS]
  refine wpAnyZ_take (i := 3) (oi := ⟨some 10, _, _, _, _, _⟩) (v := .agg (a8 (gI G))) rfl (by kernel_rfl) (by kernel_rfl) (by kernel_rfl) (fun _ _ _ h => h) (ld_graph (gI G) (by rfl) (.tmp 3) rfl w.heap.size rfl (fun _ h => h)) hS ?_
  try simp only [Act.put, putA, putZ, putS]
  refine tk [4, 5] ?_
  repeat (refine tkZ (oi := ⟨_, _, _, _, _, _⟩) (v := ?_) rfl (by kernel_rfl) (by rfl) (fun _ _ _ h => h) hS ?_ ?_; rotate_left; (· intro W' hSw; (try dsimp only at hSw); go_simp; try with_reducible rfl); try simp only [Act.put, putA, putZ, putS])
  refine tk0 ?_
  refine wpAnyZ_next (rs := [1]) (by kernel_rfl) (by simp) ?_
  refine NextZ.cons (o := ⟨some 8, _, _, _, _, _⟩) rfl (fun K hK => ?_) NextZ.nil
  go_simp
  refine (HM0.out _).mono ?_
  rintro _ X0 ⟨rfl, hb0⟩
  (try go_wp2_with fail)
  have HA0 := Lib.hid (HAX.out.below hb0)
  refine hK.out _ _ (row_range ((HA0.out.bk _ _ _ (.head _)).2)) (fun hS => ?_)
  clear hK K
  try simp only [Act.put, putA, putZ, putS]
  clear hb0
  refine tZ 2 (oi := ⟨_, _, _, _, _, _⟩) (v := ?_) rfl (by kernel_rfl) (by rfl) (fun _ _ _ h => h) hS ?_ ?_
  rotate_left
  · intro W' hSw; (try dsimp only at hSw); go_simp; try with_reducible rfl
  try simp only [Act.put, putA, putZ, putS]
  refine wpAnyZ_next (rs := [6]) (by kernel_rfl) (by simp) ?_
  refine NextZ.cons (o := ⟨some 13, _, _, _, _, _⟩) rfl (fun K hK => ?_) NextZ.nil
  go_simp
  refine (HWI.out _).mono ?_
  rintro _ X1 ⟨rfl, hb1⟩
  (try go_wp2_with fail)
  have HA1 := Lib.hid (HA0.out.below hb1)
  refine hK.out _ _ (row_range ((HA1.out.bk _ _ _ (.head _)).2)) (fun hS => ?_)
  clear hK K
  try simp only [Act.put, putA, putZ, putS]
  clear hb1
  refine wpAnyZ_next (rs := [7]) (by kernel_rfl) (by simp) ?_
  refine NextZ.cons (o := ⟨some 14, _, _, _, _, _⟩) rfl (fun K hK => ?_) NextZ.nil
  go_simp
  refine (HM1.out _).mono ?_
  rintro _ X2 ⟨rfl, hb2⟩
  (try go_wp2_with fail)
  have HA2 := Lib.hid (HA1.out.below hb2)
  refine hK.out _ _ (row_range ((HA2.out.bk _ _ _ (.head _)).2)) (fun hS => ?_)
  clear hK K
  try simp only [Act.put, putA, putZ, putS]
  clear hb2
  refine tk [8, 9] ?_
  repeat (refine tkZ (oi := ⟨_, _, _, _, _, _⟩) (v := ?_) rfl (by kernel_rfl) (by rfl) (fun _ _ _ h => h) hS ?_ ?_; rotate_left; (· intro W' hSw; (try dsimp only at hSw); go_simp; try with_reducible rfl); try simp only [Act.put, putA, putZ, putS])
  refine tk0 ?_
  refine wpAnyZ_done (by kernel_rfl) ?_ _
  have HX2 := Lib.hid (HA2.out)
  go_wp2_with fail
  go_ret
  exact ⟨rfl, HX2.out.fr⟩

end Go.Proofs.YtgbdbikjckfgmaaGreat
