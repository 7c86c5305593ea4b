/- Link: the reference's Without and Away. -/
import Derived.Test.YtgbdbikjckfgmaaGreatN2
import Derived.Test.YtgbdbikjckfgmaaGreatNH
namespace Go.Proofs.YtgbdbikjckfgmaaGreat
open Go.RowKit Go.Shelf

theorem graph_info' (F : Nat → Int) : (Tryz.prog.info? 40).map (fun i => i.size) = some (a8 F).size := by rw [a8_size]; kernel_rfl
theorem bit_shl : ∀ n : Fin 8, IntKind.i64.wrap (2 ^ (n : Nat)) = ((2 ^ (n : Nat) : Nat) : Int) := by decide +kernel
theorem bit_pos : ∀ n : Fin 8, 0 < 2 ^ (n : Nat) ∧ 2 ^ (n : Nat) < 256 := by decide +kernel
theorem offG_no {G : Nat → Nat → Bool} {a b : Nat} (hb : b < 8) (h : G a b = false) : a8 (gI (offG G (oneS a b))) = a8 (gI G) := a8_congr fun i _ => by
  rw [gI_one G a b hb, h]
  by_cases e : i = a
  · subst e; rw [if_pos rfl, if_neg (by simp)]
  · rw [if_neg e]
theorem offG_yes {G : Nat → Nat → Bool} {a b : Nat} (hb : b < 8) (h : G a b = true) : a8 (putL (gI G) a (gI G a - ((2 ^ b : Nat) : Int))) = a8 (gI (offG G (oneS a b))) := a8_congr fun i _ => by
  rw [gI_one G a b hb, h, if_pos rfl]; rfl
set_option maxRecDepth 100000 in
set_option maxHeartbeats 8000000 in
theorem without_any (G : Nat → Nat → Bool) (a b : Nat) (w : World) (ha : a < 8) (hb : b < 8) :
    Calls Tryz.prog 74 #[.agg (a8 (gI G)), .int .i64 (a : Int), .int .i64 (b : Int)] w fun e w' => e = .returned (.agg (a8 (gI (offG G (oneS a b))))) ∧ Below w.heap.size w w' := by
  have HIS := Lib.hid (fun X => is_any G a b X ha hb)
  have HNO := Lib.hid (fun h => offG_no (G := G) (a := a) hb h)
  have HYE := Lib.hid (fun h => offG_yes (G := G) (a := a) hb h)
  have HSH := bit_shl ⟨b, hb⟩
  have HPO := bit_pos ⟨b, hb⟩
  simp only at HSH HPO
  have hlo : 0 ≤ gI G a := by unfold gI; omega
  have hhi : gI G a < 256 := by have := rowN_lt (G a) 8; unfold gI; omega
  have HA0 : Hid (BF w ((w.alloc (.cells (a8 (gI G)) 40)).alloc (.cells #[.int .i64 0, .int .i64 0, .int .i64 0, .int .i64 0, .int .i64 0, .int .i64 0, .int .i64 0, .int .i64 0] 40)) [(w.heap.size, a8 (gI G), 40), (w.heap.size + 1, a8 fun _ => 0, 40)]) := BF.made2 w _ _ _ _
  have HS1 := Lib.hid (graph_info' (gI G))
  have HS2 := Lib.hid (graph_info' (gI (offG G (oneS a b))))
  have HZ1 : Hid ((a8 fun _ => (0 : Int)).size = (a8 (gI (offG G (oneS a b)))).size) := by unfold Hid; rw [a8_size, a8_size]
  have HO1 := Lib.hid (a8_one (gI (offG G (oneS a b))))
  have HX8 := Lib.hid (a8_size (gI G))
  have HGA := Lib.hid (a8_get (gI G) ha)
  have HST := Lib.hid (a8_set (gI G) (gI G a - ((2 ^ b : Nat) : Int)) ha)
  have hpw : 0 ≤ ((2 ^ b : Nat) : Int) ∧ ((2 ^ b : Nat) : Int) < 256 := ⟨Int.natCast_nonneg _, by exact_mod_cast HPO.2⟩
  generalize ((2 ^ b : Nat) : Int) = pw at *
  generalize a8 (gI (offG G (oneS a b))) = cr at *
  generalize a8 (putL (gI G) a (gI G a - pw)) = cp at *
  generalize a8 (gI G) = cs at *
  have ki : (0 : Int) ≤ (a : Int) := by omega
  have kj : (a : Int) < 8 := by omega
  generalize gI G a = r at *
  generalize G a b = pr at *
  go_enter Tryz.func74, Tryz.ntmps74
  go_upto_region 1 with fail
  generalize ((w.alloc (.cells cs 40)).alloc (.cells #[.int .i64 0, .int .i64 0, .int .i64 0, .int .i64 0, .int .i64 0, .int .i64 0, .int .i64 0, .int .i64 0] 40)) = w0 at *
  have HG := Lib.hid (HA0.out.bk _ _ _ (.head _)).2
  go_wp2_with (refine wpList_load_row (o := ⟨some 7, .load 40 (.tmp 3), _, _, _, _⟩) rfl 40 (.tmp 3) rfl w.heap.size rfl 40 cs (0, 0) _ HG.out Tryz.underlying40 rfl HS1.out ?_)
  refine (HIS.out _).mono ?_
  rintro _ w1 ⟨rfl, hb1⟩
  have HA1 := Lib.hid (HA0.out.below hb1)
  clear hb1 HG HA0
  have hb8 : w.heap.size ≠ w.heap.size + 1 := by omega
  cases pr
  · have hno := HNO.out rfl
    subst hno
    go_upto_region 3 with fail
    have HG := Lib.hid (HA1.out.bk _ _ _ (.head _)).2
    have HR := Lib.hid (HA1.out.bk _ _ _ (.tail _ (.head _))).2
    refine wp_region_lit ?_
    refine wpList_load_row (o := ⟨some 19, _, _, _, _, _⟩) rfl 40 (.tmp 3) rfl w.heap.size rfl 40 cr (0, 0) _ HG.out Tryz.underlying40 rfl HS1.out ?_
    refine wpList_store_row (o := ⟨none, .store 40 (.tmp 6) (.tmp 19), _, _, _, _⟩) rfl 40 (.tmp 6) (.tmp 19) rfl (w.heap.size + 1) cr rfl rfl 40 (a8 fun _ => 0) HR.out HS1.out HZ1.out HO1.out ?_
    go_wp2_with fail
    refine bodyPost_ret (v := .agg cr) (results_cell_row rfl _ _ (w.heap.size + 1) 40 _ (0, 0) _ rfl (setRow_heap _ _ _ _ _ _ HR.out) Tryz.underlying40 rfl HS1.out) rfl ⟨rfl, ?_⟩
    exact below_setRow HA1.out.fr (by omega)
  · have hye := HYE.out rfl
    subst hye
    have e0 := (HA1.out.cell (.head _) a).trans HGA.out
    have f0 := HA1.out.thaw (.head _) a
    have HA2 := Lib.hid (BF.set1 (i := a) (cs' := cp) HA1.out (.head _) (.int .i64 (r - pw)) (by rw [HX8.out]; exact ha) HST.out (L' := [(w.heap.size + 1, a8 fun _ => 0, 40)]) (List.forall_mem_cons.2 ⟨⟨hb8.symm, .tail _ (.head _)⟩, List.forall_mem_nil _⟩))
    have kw : IntKind.i64.wrap (r - pw) = r - pw := IntWalk.i64_in _ (by omega)
    go_upto_region 3 with fail
    have HG := Lib.hid (HA2.out.bk _ _ _ (.head _)).2
    have HR := Lib.hid (HA2.out.bk _ _ _ (.tail _ (.head _))).2
    refine wp_region_lit ?_
    refine wpList_load_row (o := ⟨some 19, _, _, _, _, _⟩) rfl 40 (.tmp 3) rfl w.heap.size rfl 40 cp (0, 0) _ HG.out Tryz.underlying40 rfl HS2.out ?_
    refine wpList_store_row (o := ⟨none, .store 40 (.tmp 6) (.tmp 19), _, _, _, _⟩) rfl 40 (.tmp 6) (.tmp 19) rfl (w.heap.size + 1) cp rfl rfl 40 (a8 fun _ => 0) HR.out HS2.out HZ1.out HO1.out ?_
    go_wp2_with fail
    refine bodyPost_ret (v := .agg cp) (results_cell_row rfl _ _ (w.heap.size + 1) 40 _ (0, 0) _ rfl (setRow_heap _ _ _ _ _ _ HR.out) Tryz.underlying40 rfl HS2.out) rfl ⟨rfl, ?_⟩
    exact below_setRow HA2.out.fr (by omega)
end Go.Proofs.YtgbdbikjckfgmaaGreat
