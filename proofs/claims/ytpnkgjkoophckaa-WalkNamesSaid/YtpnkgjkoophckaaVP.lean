/- Walk: the reference's All. -/
import Derived.Test.YtpnkgjkoophckaaVL
import Derived.Deep.MidRow
import Derived.Laws.Tables
namespace Go.Proofs.Ytpnkgjkoophckaa
open Go.RowKit Go.Shelf

theorem wp_box_row {P : Program} {o : Oper} {a : Act} {w : World} {K : Act → World → Prop} {Q : Exit → Act → World → Prop} (ty : TypeId) (x : Operand) (ho : o.op = .box ty x) (cs : Array Value) (hx : a.eval x = .agg cs)
    (h : K (a.put o.dst (.pointer (some ⟨w.heap.size, 0, none⟩))) (w.alloc (.cells cs ty))) : o.wp P a w K Q := by
  unfold Oper.wp execOp
  simp only [ho, hx, Instr.box, newVar, newRow, Value.cells, Sem.run_bind, Sem.run_pure]
  exact h
theorem wpList_box_row {P : Program} {ops : Array Oper} {rest : List Oper} {o : Oper} {a : Act} {w : World} {Q : Exit → Act → World → Prop} (hgd : o.guard = none) (ty : TypeId) (x : Operand) (ho : o.op = .box ty x) (cs : Array Value) (hx : a.eval x = .agg cs)
    (h : wpList P ops Q rest (a.put o.dst (.pointer (some ⟨w.heap.size, 0, none⟩))) (w.alloc (.cells cs ty))) : wpList P ops Q (o :: rest) a w :=
  wpList_plain hgd fun _ hK => wp_box_row ty x ho cs hx (hK _ _ h)
/-- Eight rows of eight times. -/
def w64 (D : Nat → Nat → Int) : Array Value := eA (fun j => .int .i64 (D (j / 8) (j % 8))) 64
theorem w64_size (D : Nat → Nat → Int) : (w64 D).size = 64 := by simp [w64, eA]
theorem w64_get (D : Nat → Nat → Int) {a b : Nat} (ha : a < 8) (hb : b < 8) : (w64 D)[a * 8 + b]? = some (.int .i64 (D a b)) := by
  have h := eA_get (fun j => .int .i64 (D (j / 8) (j % 8))) (N := 64) (k := a * 8 + b) (by omega)
  rw [show (a * 8 + b) / 8 = a by omega, show (a * 8 + b) % 8 = b by omega] at h
  exact h
theorem w64_set (D : Nat → Nat → Int) {a b : Nat} (v : Int) (ha : a < 8) (hb : b < 8) : (w64 D).setIfInBounds (a * 8 + b) (.int .i64 v) = w64 (fun i j => if i = a ∧ j = b then v else D i j) := by
  unfold w64
  rw [eA_set _ _ (by omega)]
  congr 1
  funext j
  by_cases h : j = a * 8 + b
  · rw [if_pos h]; simp only; rw [if_pos (by omega)]
  · rw [if_neg h]; simp only; rw [if_neg (by omega)]
theorem w64_congr {D D' : Nat → Nat → Int} (h : ∀ a b, a < 8 → b < 8 → D a b = D' a b) : w64 D = w64 D' := by
  unfold w64 eA
  congr 1
  exact List.map_congr_left (fun j hj => by rw [h _ _ (by have := List.mem_range.1 hj; omega) (by omega)])
theorem w64_one (D : Nat → Nat → Int) : (w64 D).all (·.oneCell') = true := by
  rw [Array.all_eq_true]
  intro i hi
  have h64 : i < 64 := by rw [w64_size] at hi; exact hi
  have h := eA_get (fun j => .int .i64 (D (j / 8) (j % 8))) (N := 64) (k := i) h64
  have h2 : (w64 D)[i]? = some (.int .i64 (D (i / 8) (i % 8))) := h
  rw [Array.getElem?_eq_getElem hi] at h2
  injection h2 with h2
  rw [h2]; rfl
theorem w64_info (D : Nat → Nat → Int) : (Try.prog.info? 46).map (fun i => i.size) = some (w64 D).size := by rw [w64_size]; kernel_rfl
/-- What All has when k pairs are done. -/
def allD (m : Mp) (a b : Nat) (i j : Nat) : Int := if (i < a ∧ j < m.nw) ∨ (i = a ∧ j < b) then tmA m i j else 0
def allW (m : Mp) (i j : Nat) : Int := if i < m.nw ∧ j < m.nw then tmA m i j else 0
theorem allD_zero (m : Mp) : allD m 0 0 = fun _ _ => 0 := by
  funext i j; unfold allD; rw [if_neg (by omega)]
theorem allD_step {m : Mp} {a b : Nat} : (fun i j => if i = a ∧ j = b then tmA m a b else allD m a b i j) = allD m a (b + 1) := by
  funext i j
  unfold allD
  by_cases h : i = a ∧ j = b
  · rw [if_pos h, if_pos (by omega), h.1, h.2]
  · rw [if_neg h]
    by_cases h2 : (i < a ∧ j < m.nw) ∨ (i = a ∧ j < b)
    · rw [if_pos h2, if_pos (by omega)]
    · rw [if_neg h2, if_neg (by omega)]
theorem allD_row {m : Mp} {a : Nat} : allD m a m.nw = allD m (a + 1) 0 := by
  funext i j
  unfold allD
  by_cases h2 : (i < a ∧ j < m.nw) ∨ (i = a ∧ j < m.nw)
  · rw [if_pos h2, if_pos (by omega)]
  · rw [if_neg h2, if_neg (by omega)]
theorem allD_end {m : Mp} : allD m m.nw 0 = allW m := by
  funext i j
  unfold allD allW
  by_cases h2 : i < m.nw ∧ j < m.nw
  · rw [if_pos h2, if_pos (by omega)]
  · rw [if_neg h2, if_neg (by omega)]
set_option maxRecDepth 100000 in
set_option maxHeartbeats 16000000 in
theorem rAll_any {m : Mp} (ok : OkM m) (x : MV) (w : World) (h : MpIn w x m) :
    Calls Try.prog 26 #[.agg #[.slice x.wa m.nw x.wc, .slice x.ra m.nr x.rc]] w fun e w' => e = .returned (.agg (w64 (allW m))) ∧ Below w.heap.size w w' := by
  have hn := ok.nw
  have HWY := Lib.hid (fun (a b : Nat) (ha : a < m.nw) (hb : b < m.nw) W (hW : Below w.heap.size w W) => rWay_any ok x ha hb W (h.below hW))
  clear h
  obtain ⟨zz, hzz⟩ : ∃ zz : Array Value, zz = #[.int .i64 0, .int .i64 0, .int .i64 0, .int .i64 0, .int .i64 0, .int .i64 0, .int .i64 0, .int .i64 0, .int .i64 0, .int .i64 0, .int .i64 0, .int .i64 0, .int .i64 0, .int .i64 0, .int .i64 0, .int .i64 0, .int .i64 0, .int .i64 0, .int .i64 0, .int .i64 0, .int .i64 0, .int .i64 0, .int .i64 0, .int .i64 0, .int .i64 0, .int .i64 0, .int .i64 0, .int .i64 0, .int .i64 0, .int .i64 0, .int .i64 0, .int .i64 0, .int .i64 0, .int .i64 0, .int .i64 0, .int .i64 0, .int .i64 0, .int .i64 0, .int .i64 0, .int .i64 0, .int .i64 0, .int .i64 0, .int .i64 0, .int .i64 0, .int .i64 0, .int .i64 0, .int .i64 0, .int .i64 0, .int .i64 0, .int .i64 0, .int .i64 0, .int .i64 0, .int .i64 0, .int .i64 0, .int .i64 0, .int .i64 0, .int .i64 0, .int .i64 0, .int .i64 0, .int .i64 0, .int .i64 0, .int .i64 0, .int .i64 0, .int .i64 0] := ⟨_, rfl⟩
  have HZ : Hid (zz = w64 (allD m 0 0)) := by rw [hzz, allD_zero]; rfl
  have HA0 : Hid (BF w (((w.alloc (.cells #[.slice x.wa m.nw x.wc, .slice x.ra m.nr x.rc] 25)).alloc (.cells zz 46)).alloc (.cells zz 46)) [(w.heap.size, #[.slice x.wa m.nw x.wc, .slice x.ra m.nr x.rc], 25), (w.heap.size + 1, zz, 46), (w.heap.size + 1 + 1, zz, 46)]) := BF.made3 w _ _ _ _ _ _
  go_enter Try.func26, Try.ntmps26
  go_wp2_with fail
  rw [← hzz]
  clear hzz
  generalize (((w.alloc (.cells #[.slice x.wa m.nw x.wc, .slice x.ra m.nr x.rc] 25)).alloc (.cells zz 46)).alloc (.cells zz 46)) = w0 at *
  have HMO : Hid (w.heap.size ≠ w.heap.size + 1 + 1) := Lib.hid (by omega)
  have HRO : Hid (w.heap.size + 1 ≠ w.heap.size + 1 + 1) := Lib.hid (by omega)
  have HR9 : Hid (w.heap.size ≤ w.heap.size + 1) := Lib.hid (by omega)
  obtain ⟨OB, hOB⟩ : ∃ OB, w.heap.size + 1 + 1 = OB := ⟨_, rfl⟩
  rw [hOB] at HA0 HMO HRO ⊢
  obtain ⟨RB, hRB⟩ : ∃ RB, w.heap.size + 1 = RB := ⟨_, rfl⟩
  rw [hRB] at HA0 HRO HR9 ⊢
  clear hOB hRB
  go_loopw [4] (fun i wr => ∃ a : Nat, i = .int .i64 a ∧ a ≤ m.nw ∧ BF w wr [(OB, w64 (allD m a 0), 46), (w.heap.size, #[.slice x.wa m.nw x.wc, .slice x.ra m.nr x.rc], 25), (RB, zz, 46)]) (fun i _ => m.nw - (intOf i).toNat)
  case atStart => exact ⟨0, rfl, Nat.zero_le _, by rw [← HZ.out]; exact HA0.out.sub (List.forall_mem_cons.2 ⟨.tail _ (.tail _ (.head _)), List.forall_mem_cons.2 ⟨.head _, List.forall_mem_cons.2 ⟨.tail _ (.head _), List.forall_mem_nil _⟩⟩⟩)⟩
  case round =>
    clear HA0
    obtain ⟨a, rfl, ha, hbf⟩ := hrel
    have HA1 := Lib.hid hbf
    clear hbf
    have c0 := HA1.out.cell (.tail _ (.head _)) 0
    have c1 := HA1.out.cell (.tail _ (.head _)) 1
    by_cases hlt : a < m.nw
    · have ki : (0 : Int) ≤ (a : Int) := by omega
      have kj : (a : Int) < (m.nw : Int) := by omega
      go_wp2_with fail
      go_loopw [5] (fun i wr => ∃ b : Nat, i = .int .i64 b ∧ b ≤ m.nw ∧ BF w wr [(OB, w64 (allD m a b), 46), (w.heap.size, #[.slice x.wa m.nw x.wc, .slice x.ra m.nr x.rc], 25), (RB, zz, 46)]) (fun i _ => m.nw - (intOf i).toNat)
      case atStart => exact ⟨0, rfl, Nat.zero_le _, HA1.out⟩
      case round =>
       clear HA1 c0 c1
       obtain ⟨b, rfl, hb, hbf⟩ := hrel
       rename World => wy
       have HA2 := Lib.hid hbf
       clear hbf
       have c0 := HA2.out.cell (.tail _ (.head _)) 0
       have c1 := HA2.out.cell (.tail _ (.head _)) 1
       by_cases hlb : b < m.nw
       · have HWK := Lib.hid (HWY.out a b hlt hlb)
         obtain ⟨tv, htv⟩ : ∃ tv, tv = tmA m a b := ⟨_, rfl⟩
         have HTV : Hid (tmA m a b = tv) := htv.symm
         rw [← htv] at HWK
         clear htv
         have ha8 : a < 8 := by omega
         have hb8 : b < 8 := by omega
         have pi : (0 : Int) ≤ (b : Int) := by omega
         have pj : (b : Int) < (m.nw : Int) := by omega
         have ka8 : (a : Int) < 8 := by omega
         have kb8 : (b : Int) < 8 := by omega
         go_upto_region 8 with fail
         have HAX : Hid (BF w wy.drew [(OB, w64 (allD m a b), 46), (w.heap.size, #[.slice x.wa m.nw x.wc, .slice x.ra m.nr x.rc], 25), (RB, zz, 46)]) := HA2.out.below (Below.refl _ _).drew
         clear HA2 c0 c1
         refine wp_region_Z (S := fun X => X.cell? ⟨w.heap.size, 0, none⟩ = some (.slice x.wa m.nw x.wc) ∧ X.cell? ⟨w.heap.size, 1, none⟩ = some (.slice x.ra m.nr x.rc)) (by kernel_rfl) (⟨HAX.out.cell (.tail _ (.head _)) 0, HAX.out.cell (.tail _ (.head _)) 1⟩) (fun hS => ?_)
         generalize wy.drew = X at *
         refine tk [0, 1, 2, 3, 4, 6] ?_
         repeat (refine tkZ (oi := ⟨_, _, _, _, _, _⟩) (v := ?_) rfl (by kernel_rfl) (by rfl) (fun _ _ _ h => h) hS ?_ ?_; rotate_left; (· rintro W' ⟨z0, z1⟩; go_simp; try with_reducible rfl); try simp only [Act.put, putA, putZ, putS])
         refine tk0 ?_
         refine wpAnyZ_next (rs := [5]) (by kernel_rfl) (by simp) ?_
         refine NextZ.cons (o := ⟨some 25, _, _, _, _, _⟩) rfl (fun K hK => ?_) NextZ.nil
         go_simp
         refine (HWK.out X HAX.out.fr).mono ?_
         rintro _ X0 ⟨rfl, hb0⟩
         (try go_wp2_with fail)
         have HA0 := Lib.hid (HAX.out.below hb0)
         refine hK.out _ _ (⟨HA0.out.cell (.tail _ (.head _)) 0, HA0.out.cell (.tail _ (.head _)) 1⟩) (fun hS => ?_)
         clear hK K
         try simp only [Act.put, putA, putZ, putS]
         clear hb0
         refine tZ 7 (oi := ⟨_, _, _, _, _, _⟩) (v := ?_) rfl (by kernel_rfl) (by rfl) (fun _ _ _ h => h) hS ?_ ?_
         rotate_left
         · rintro W' ⟨z0, z1⟩; go_simp; try with_reducible rfl
         try simp only [Act.put, putA, putZ, putS]
         refine wpAnyZ_next (rs := [8]) (by kernel_rfl) (by simp) ?_
         refine NextZ.cons (o := ⟨none, _, _, _, _, _⟩) rfl (fun K hK => ?_) NextZ.nil
         have e0 : X0.cell? ⟨OB, a * 8 + b, none⟩ = some (.int .i64 (allD m a b a b)) := (HA0.out.cell (.head _) (a * 8 + b)).trans (w64_get _ ha8 hb8)
         have f0 := HA0.out.thaw (.head _) (a * 8 + b)
         have HA9 := Lib.hid (BF.set1 (i := a * 8 + b) (cs' := w64 (allD m a (b + 1))) HA0.out (.head _) (.int .i64 tv) (by rw [w64_size]; omega) (by rw [w64_set _ _ ha8 hb8, ← HTV.out, allD_step]) (L' := [(w.heap.size, #[.slice x.wa m.nw x.wc, .slice x.ra m.nr x.rc], 25), (RB, zz, 46)]) (List.forall_mem_cons.2 ⟨⟨HMO.out, .tail _ (.head _)⟩, List.forall_mem_cons.2 ⟨⟨HRO.out, .tail _ (.tail _ (.head _))⟩, List.forall_mem_nil _⟩⟩))
         go_simp
         refine hK.out _ _ (⟨HA9.out.cell (.tail _ (.head _)) 0, HA9.out.cell (.tail _ (.head _)) 1⟩) (fun hS => ?_)
         clear hK K
         (try simp only [Act.put])
         clear e0 f0
         refine wpAnyZ_done (by kernel_rfl) ?_ _
         go_wp2_with fail
         go_roundw
         case rel => exact ⟨b + 1, by go_num, by omega, HA9.out⟩
         case measure => simp [intOf]; omega
       · have hbn : b = m.nw := by omega
         have hbi : (b : Int) = (m.nw : Int) := by omega
         rw [hbn, allD_row] at HA2
         rw [hbi]
         clear hbn hbi hlb hb
         have kq : ¬ ((m.nw : Int) < (m.nw : Int)) := by omega
         go_wp2_with fail
         go_roundw
         case rel => exact ⟨a + 1, by go_num, by omega, HA2.out⟩
         case measure => simp [intOf]; omega
    · have han : a = m.nw := by omega
      have hai : (a : Int) = (m.nw : Int) := by omega
      rw [han, allD_end] at HA1
      rw [hai]
      clear han hai hlt ha
      have kq : ¬ ((m.nw : Int) < (m.nw : Int)) := by omega
      go_upto_region 9 with fail
      have HG := Lib.hid (HA1.out.bk _ _ _ (.head _)).2
      have HR := Lib.hid (HA1.out.bk _ _ _ (.tail _ (.tail _ (.head _)))).2
      have HSZ := Lib.hid (w64_info (allW m))
      have HZS : Hid (zz.size = (w64 (allW m)).size) := by rw [HZ.out, w64_size]; unfold Hid; rw [w64_size]
      refine wp_region_lit ?_
      refine wpList_load_row (o := ⟨some 28, _, _, _, _, _⟩) rfl 46 (.tmp 3) rfl OB rfl 46 (w64 (allW m)) (0, 0) _ HG.out Try.underlying46 rfl HSZ.out ?_
      refine wpList_store_row (o := ⟨none, .store 46 (.tmp 2) (.tmp 28), _, _, _, _⟩) rfl 46 (.tmp 2) (.tmp 28) rfl RB (w64 (allW m)) rfl rfl 46 zz HR.out HSZ.out HZS.out (w64_one _) ?_
      go_wp2_with fail
      refine bodyPost_ret (v := .agg (w64 (allW m))) (results_cell_row rfl _ _ RB 46 _ (0, 0) _ rfl (setRow_heap _ _ _ _ _ _ HR.out) Try.underlying46 rfl HSZ.out) rfl ⟨rfl, ?_⟩
      exact HA1.out.fr.trans ⟨rfl, rfl, rfl, by simp, fun q hq => setRow_other _ _ _ _ (by have := HR9.out; omega)⟩
end Go.Proofs.Ytpnkgjkoophckaa
