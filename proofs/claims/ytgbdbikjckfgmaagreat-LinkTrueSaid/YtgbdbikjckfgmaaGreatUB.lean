/- Link: what LinkTrue needs (2 of 5). -/
import Derived.Test.YtgbdbikjckfgmaaGreatND
import Derived.Test.YtgbdbikjckfgmaaGreatUA
import Derived.BigQuiet
import Derived.Carry
import Derived.Deep.AppendLies
import Derived.Deep.DeepCutAuto
import Derived.Deep.DrawnRows
import Derived.Deep.QuietTactic
import Derived.Deep.RegionHeld3
import Derived.Deep.RegionLawGrows
import Derived.Deep.RegionWith
import Derived.Deep.Slices
import Derived.Deep.Strs
import Derived.Laws.EntriesVeiled
import Derived.Laws.Rows
import Derived.Laws.Tables
import Derived.Lib.Hide
import Derived.Lib.SliceRun
import Derived.Lib.SmallJoins
import Derived.LoopIn
import Derived.LoopNIn
import Derived.LoopTactic
import Derived.Maps.AppendAt
import Derived.Maps.Keyed
import Derived.Maps.Views
import Derived.OpenShut
import Derived.OrdersHeld
import Derived.Outline
import Derived.OwnWalkIn
import Derived.ProofKit
import Derived.RangeFuncBound
import Derived.RangeFuncCalls
import Derived.RangeFuncLeaves
import Derived.RangeFuncNested
import Derived.Shelf.Abstract
import Derived.Shelf.RegionOpen
import Derived.SizedLaws
import Derived.TacticsInMore
import Derived.WalkKit
import Derived.WalkLawsBesides
import Derived.WalkSpells
namespace Go.Proofs.YtgbdbikjckfgmaaGreat
open Go.RowKit Go.Shelf
set_option maxRecDepth 100000 in
set_option maxHeartbeats 4000000 in
theorem entry_any (sx pl lo hi : Int) (a : Option Addr) (n c : Nat) (w : World) :
    Calls Tryz.prog 84 #[.int .i64 sx, .int .i64 pl, .int .i64 lo, .int .i64 hi, .slice a n c] w fun e w' => ∃ g, e = .returned (.agg #[.int .i64 lo, .int .i64 hi, .slice (some ⟨g, 0, none⟩) 1 1, .slice none 0 0, .int .i64 sx, .slice a n c, .int .i64 pl]) ∧ w.heap.size < g ∧ w'.heap[g]? = some (.cells #[.int .i64 0, .int .i64 1, .int .i64 0, .int .i64 0] 156 (0, 0)) ∧ Below w.heap.size w w' := by
  have HA := Lib.hid (BF.made2 w #[.int .i64 0, .int .i64 0, .slice none 0 0, .slice none 0 0, .int .i64 0, .slice none 0 0, .int .i64 0] #[.int .i64 0, .int .i64 1, .int .i64 0, .int .i64 0] 100 156)
  have HRR := Lib.hid (HA.out.bk _ _ _ (.head _)).2
  have HSL : Hid ((Tryz.prog.info? 100).map (·.size) = some (#[.int .i64 lo, .int .i64 hi, .slice (some ⟨w.heap.size + 1, 0, none⟩) 1 1, .slice none 0 0, .int .i64 sx, .slice a n c, .int .i64 pl] : Array Value).size) := Tryz.sizeLEntry
  have HA3 := Lib.hid (HA.out.setR (.head _) #[.int .i64 lo, .int .i64 hi, .slice (some ⟨w.heap.size + 1, 0, none⟩) 1 1, .slice none 0 0, .int .i64 sx, .slice a n c, .int .i64 pl] (L' := [(w.heap.size + 1, #[.int .i64 0, .int .i64 1, .int .i64 0, .int .i64 0], 156)]) (List.forall_mem_cons.2 ⟨⟨show w.heap.size + 1 ≠ w.heap.size by omega, .tail _ (.head _)⟩, List.forall_mem_nil _⟩))
  have hrow := (HA3.out.bk w.heap.size _ _ (.head _)).2
  have HG := Lib.hid (HA3.out.bk _ _ _ (.tail _ (.head _))).2
  clear HA
  go_enter Tryz.func84, Tryz.ntmps84
  go_wp2_with (refine wpList_store_row (o := ⟨none, _, _, _, _, _⟩) rfl 100 (.tmp 10) (.tmp 20) rfl w.heap.size #[.int .i64 lo, .int .i64 hi, .slice (some ⟨w.heap.size + 1, 0, none⟩) 1 1, .slice none 0 0, .int .i64 sx, .slice a n c, .int .i64 pl] rfl rfl 100 #[.int .i64 0, .int .i64 0, .slice none 0 0, .slice none 0 0, .int .i64 0, .slice none 0 0, .int .i64 0] HRR.out HSL.out rfl (by simp [Value.oneCell']) ?_; generalize (((w.alloc (.cells #[.int .i64 0, .int .i64 0, .slice none 0 0, .slice none 0 0, .int .i64 0, .slice none 0 0, .int .i64 0] 100)).alloc (.cells #[.int .i64 0, .int .i64 1, .int .i64 0, .int .i64 0] 156)).setRow w.heap.size #[.int .i64 lo, .int .i64 hi, .slice (some ⟨w.heap.size + 1, 0, none⟩) 1 1, .slice none 0 0, .int .i64 sx, .slice a n c, .int .i64 pl]) = wz at *)
  exact bodyPost_ret (v := .agg #[.int .i64 lo, .int .i64 hi, .slice (some ⟨w.heap.size + 1, 0, none⟩) 1 1, .slice none 0 0, .int .i64 sx, .slice a n c, .int .i64 pl]) (results_cell_row rfl _ _ w.heap.size 100 #[.int .i64 lo, .int .i64 hi, .slice (some ⟨w.heap.size + 1, 0, none⟩) 1 1, .slice none 0 0, .int .i64 sx, .slice a n c, .int .i64 pl] (0, 0) _ rfl hrow Tryz.underlying100 rfl HSL.out) rfl ⟨_, rfl, Nat.lt_succ_self _, HG.out, HA3.out.fr⟩
theorem qp_of {W : World} {g : Nat} {a : Option Addr} {n c : Nat} {z : Nat → Int} {sx pl lo hi : Int} (h : W.heap[g]? = some (.cells #[.int .i64 0, .int .i64 1, .int .i64 0, .int .i64 0] 156 (0, 0))) (hz : IntsIn W (.slice a n c) n z) (hn : n ≤ 100) : QP W (.slice (some ⟨g, 0, none⟩) 1 1) (.slice none 0 0) (.slice a n c) (enT sx pl lo hi n z) :=
  ⟨.inr ⟨g, 0, 1, rfl, (Array.getElem?_eq_some_iff.1 h).1, fun j hj => by
    obtain rfl : j = 0 := by have h : j < 1 := hj; omega
    exact ⟨cell_of_row _ _ 0 _ _ _ h, cell_of_row _ _ 1 _ _ _ h, cell_of_row _ _ 2 _ _ _ h, cell_of_row _ _ 3 _ _ _ h⟩⟩, .inl ⟨rfl, rfl⟩, hz, by show (1 : Nat) ≤ 100000; omega, by show (0 : Nat) ≤ 100000; omega, by show n ≤ 100000; omega⟩
end Go.Proofs.YtgbdbikjckfgmaaGreat
namespace Go.Proofs.YtgbdbikjckfgmaaGreat
open Go.RowKit Go.Shelf
def tO (d : Int) (j : Nat) : En := if j = 0 then enT 0 1 0 1000 1 (zL [5]) else if j = 1 then enT 1 1 0 1000 2 (zL [7, 9]) else enT 0 2 d 2000 1 (zL [5])
def tN (j : Nat) : En := if j = 0 then enT 0 1 400 900 1 (zL [5]) else if j = 1 then enT 2 3 1000 1500 1 (zL [7]) else enT 0 2 100 600 2 (zL [5, 6])
def townsF (d : Int) (n : Nat) (mf mt : Nat → Int) : Fl := ⟨3, tO d, 3, tN, n, mf, mt⟩
theorem EsQ.three {W : World} {B : Nat} {E : Nat → En} {e0 e1 e2 : En} {V0 V1 V2 : Value × Value × Value} (hB : B < W.heap.size) (h0 : E 0 = e0) (h1 : E 1 = e1) (h2 : E 2 = e2) (h : ∀ i u, (e7 e0 V0 ++ e7 e1 V1 ++ e7 e2 V2)[i]? = some u → W.cell? ⟨B, i, none⟩ = some u)
    (q0 : QP W V0.1 V0.2.1 V0.2.2 e0) (q1 : QP W V1.1 V1.2.1 V1.2.2 e1) (q2 : QP W V2.1 V2.2.1 V2.2.2 e2) : EsQ QP W (.slice (some ⟨B, 0, none⟩) 3 3) 3 E := by
  subst h0 h1 h2
  refine .inr ⟨B, 0, 3, rfl, hB, fun j hj => ?_⟩
  rcases (show j = 0 ∨ j = 1 ∨ j = 2 by omega) with rfl | rfl | rfl
  · exact ⟨_, _, _, ⟨h 0 _ rfl, h 1 _ rfl, h 2 _ rfl, h 3 _ rfl, h 4 _ rfl, h 5 _ rfl, h 6 _ rfl⟩, q0⟩
  · exact ⟨_, _, _, ⟨h 7 _ rfl, h 8 _ rfl, h 9 _ rfl, h 10 _ rfl, h 11 _ rfl, h 12 _ rfl, h 13 _ rfl⟩, q1⟩
  · exact ⟨_, _, _, ⟨h 14 _ rfl, h 15 _ rfl, h 16 _ rfl, h 17 _ rfl, h 18 _ rfl, h 19 _ rfl, h 20 _ rfl⟩, q2⟩
theorem ints1_own {W : World} {b : Nat} {p : Int} (h : W.heap[b]? = some (.cells #[.int .i64 p] 3 (0, 0))) : IntsIn W (.slice (some ⟨b, 0, none⟩) 1 1) 1 (zL [p]) :=
  .inr ⟨b, 0, 1, rfl, (Array.getElem?_eq_some_iff.1 h).1, fun j hj => by
    obtain rfl : j = 0 := by omega
    exact cell_of_row _ _ 0 _ _ _ h⟩
theorem ints2_own {W : World} {b : Nat} {p q : Int} (h : W.heap[b]? = some (.cells #[.int .i64 p, .int .i64 q] 3 (0, 0))) : IntsIn W (.slice (some ⟨b, 0, none⟩) 2 2) 2 (zL [p, q]) :=
  .inr ⟨b, 0, 2, rfl, (Array.getElem?_eq_some_iff.1 h).1, fun j hj => by
    rcases (show j = 0 ∨ j = 1 by omega) with rfl | rfl
    · exact cell_of_row _ _ 0 _ _ _ h
    · exact cell_of_row _ _ 1 _ _ _ h⟩
set_option maxRecDepth 100000 in
set_option maxHeartbeats 8000000 in
theorem towns_any (d : Int) (a : Option Addr) (n c : Nat) (mf mt : Nat → Int) (w : World) (hm : RsIn w (.slice a n c) n mf mt) :
    Calls Tryz.prog 50 #[.int .i64 d, .slice a n c] w fun e w' => ∃ z : FV, e = .returned (.agg #[.slice z.oa 3 z.oc, .slice z.na 3 z.nc, .slice z.ma n z.mc]) ∧ FlQ QP w' z (townsF d n mf mt) ∧ Below w.heap.size w w' := by
  have HM := Lib.hid (fun X (hX : Below w.heap.size w X) => hm.below hX)
  clear hm
  have HA0 := Lib.hid ((BF.base w).alloc #[.slice none 0 0, .slice none 0 0, .slice none 0 0] 33)
  go_enter Tryz.func50, Tryz.ntmps50
  have hn0 := (HA0.out.lt (.head _)).2
  have HN0 := Lib.hid (HA0.out.alloc #[.int .i64 5] 3)
  rw [World.size_alloc] at HN0 hn0
  go_wp2_with fail
  refine (entry_any 0 1 0 1000 (some ⟨w.heap.size + 1, 0, none⟩) 1 1 _).mono ?_
  rintro _ w1 ⟨g0, rfl, hl, hg, hb⟩
  have hg0 : w.heap.size < g0 := Nat.lt_of_le_of_lt HN0.out.fr.size hl
  have HA1 := Lib.hid ((HN0.out.below hb).add (Nat.le_of_lt hg0) hg)
  clear hl hg hb HN0 HA0
  generalize w.heap.size + 1 = n0 at *
  have hn1 := (HA1.out.lt (.tail _ (.tail _ (.head _)))).2
  have HN1 := Lib.hid (HA1.out.alloc #[.int .i64 7, .int .i64 9] 3)
  go_wp2_with fail
  refine (entry_any 1 1 0 1000 (some ⟨w1.heap.size, 0, none⟩) 2 2 _).mono ?_
  rintro _ w2 ⟨g1, rfl, hl, hg, hb⟩
  have hg1 : w.heap.size < g1 := Nat.lt_of_le_of_lt HN1.out.fr.size hl
  have HA2 := Lib.hid ((HN1.out.below hb).add (Nat.le_of_lt hg1) hg)
  clear hl hg hb HN1 HA1
  generalize w1.heap.size = n1 at *
  have hn2 := (HA2.out.lt (.tail _ (.tail _ (.tail _ (.tail _ (.head _)))))).2
  have HN2 := Lib.hid (HA2.out.alloc #[.int .i64 5] 3)
  go_wp2_with fail
  refine (entry_any 0 2 d 2000 (some ⟨w2.heap.size, 0, none⟩) 1 1 _).mono ?_
  rintro _ w3 ⟨g2, rfl, hl, hg, hb⟩
  have hg2 : w.heap.size < g2 := Nat.lt_of_le_of_lt HN2.out.fr.size hl
  have HA3 := Lib.hid ((HN2.out.below hb).add (Nat.le_of_lt hg2) hg)
  clear hl hg hb HN2 HA2
  generalize w2.heap.size = n2 at *
  have HB3 := Lib.hid (HA3.out.alloc #[.int .i64 0, .int .i64 1000, .slice (some ⟨g0, 0, none⟩) 1 1, .slice none 0 0, .int .i64 0, .slice (some ⟨n0, 0, none⟩) 1 1, .int .i64 1, .int .i64 0, .int .i64 1000, .slice (some ⟨g1, 0, none⟩) 1 1, .slice none 0 0, .int .i64 1, .slice (some ⟨n1, 0, none⟩) 2 2, .int .i64 1, .int .i64 d, .int .i64 2000, .slice (some ⟨g2, 0, none⟩) 1 1, .slice none 0 0, .int .i64 0, .slice (some ⟨n2, 0, none⟩) 1 1, .int .i64 2] 100)
  have hB1 := (HA3.out.lt (.tail _ (.tail _ (.tail _ (.tail _ (.tail _ (.tail _ (.head _)))))))).2
  have hn3 := (HB3.out.lt (.tail _ (.tail _ (.tail _ (.tail _ (.tail _ (.tail _ (.tail _ (.head _))))))))).2
  have HN3 := Lib.hid (HB3.out.alloc #[.int .i64 5] 3)
  rw [World.size_alloc] at HN3 hn3
  go_wp2_with fail
  refine (entry_any 0 1 400 900 (some ⟨w3.heap.size + 1, 0, none⟩) 1 1 _).mono ?_
  rintro _ w4 ⟨g3, rfl, hl, hg, hb⟩
  have hg3 : w.heap.size < g3 := Nat.lt_of_le_of_lt HN3.out.fr.size hl
  have HA4 := Lib.hid ((HN3.out.below hb).add (Nat.le_of_lt hg3) hg)
  clear hl hg hb HN3 HB3
  generalize w3.heap.size + 1 = n3 at *
  generalize w3.heap.size = B1 at *
  have hn4 := (HA4.out.lt (.tail _ (.tail _ (.tail _ (.tail _ (.tail _ (.tail _ (.tail _ (.tail _ (.tail _ (.head _))))))))))).2
  have HN4 := Lib.hid (HA4.out.alloc #[.int .i64 7] 3)
  go_wp2_with fail
  refine (entry_any 2 3 1000 1500 (some ⟨w4.heap.size, 0, none⟩) 1 1 _).mono ?_
  rintro _ w5 ⟨g4, rfl, hl, hg, hb⟩
  have hg4 : w.heap.size < g4 := Nat.lt_of_le_of_lt HN4.out.fr.size hl
  have HA5 := Lib.hid ((HN4.out.below hb).add (Nat.le_of_lt hg4) hg)
  clear hl hg hb HN4 HA4
  generalize w4.heap.size = n4 at *
  have hn5 := (HA5.out.lt (.tail _ (.tail _ (.tail _ (.tail _ (.tail _ (.tail _ (.tail _ (.tail _ (.tail _ (.tail _ (.tail _ (.head _))))))))))))).2
  have HN5 := Lib.hid (HA5.out.alloc #[.int .i64 5, .int .i64 6] 3)
  go_wp2_with fail
  refine (entry_any 0 2 100 600 (some ⟨w5.heap.size, 0, none⟩) 2 2 _).mono ?_
  rintro _ w6 ⟨g5, rfl, hl, hg, hb⟩
  have hg5 : w.heap.size < g5 := Nat.lt_of_le_of_lt HN5.out.fr.size hl
  have HA6 := Lib.hid ((HN5.out.below hb).add (Nat.le_of_lt hg5) hg)
  clear hl hg hb HN5 HA5
  generalize w5.heap.size = n5 at *
  have HB6 := Lib.hid (HA6.out.alloc #[.int .i64 400, .int .i64 900, .slice (some ⟨g3, 0, none⟩) 1 1, .slice none 0 0, .int .i64 0, .slice (some ⟨n3, 0, none⟩) 1 1, .int .i64 1, .int .i64 1000, .int .i64 1500, .slice (some ⟨g4, 0, none⟩) 1 1, .slice none 0 0, .int .i64 2, .slice (some ⟨n4, 0, none⟩) 1 1, .int .i64 3, .int .i64 100, .int .i64 600, .slice (some ⟨g5, 0, none⟩) 1 1, .slice none 0 0, .int .i64 0, .slice (some ⟨n5, 0, none⟩) 2 2, .int .i64 2] 100)
  have hB2 : w.heap.size < w6.heap.size := (HA6.out.lt (.tail _ (.tail _ (.tail _ (.tail _ (.tail _ (.tail _ (.tail _ (.tail _ (.tail _ (.tail _ (.tail _ (.tail _ (.tail _ (.head _))))))))))))))).2
  clear HA6
  have HRR := Lib.hid (HB6.out.bk _ _ _ (.tail _ (.tail _ (.tail _ (.tail _ (.tail _ (.tail _ (.tail _ (.tail _ (.tail _ (.tail _ (.tail _ (.tail _ (.tail _ (.tail _ (.head _)))))))))))))))).2
  have HSL : Hid ((Tryz.prog.info? 33).map (·.size) = some (#[.slice (some ⟨B1, 0, none⟩) 3 3, .slice (some ⟨w6.heap.size, 0, none⟩) 3 3, .slice a n c] : Array Value).size) := Tryz.sizeFile
  have HF := Lib.hid (HB6.out.setR (.tail _ (.tail _ (.tail _ (.tail _ (.tail _ (.tail _ (.tail _ (.tail _ (.tail _ (.tail _ (.tail _ (.tail _ (.tail _ (.tail _ (.head _))))))))))))))) #[.slice (some ⟨B1, 0, none⟩) 3 3, .slice (some ⟨w6.heap.size, 0, none⟩) 3 3, .slice a n c] (L' := [(w6.heap.size, #[.int .i64 400, .int .i64 900, .slice (some ⟨g3, 0, none⟩) 1 1, .slice none 0 0, .int .i64 0, .slice (some ⟨n3, 0, none⟩) 1 1, .int .i64 1, .int .i64 1000, .int .i64 1500, .slice (some ⟨g4, 0, none⟩) 1 1, .slice none 0 0, .int .i64 2, .slice (some ⟨n4, 0, none⟩) 1 1, .int .i64 3, .int .i64 100, .int .i64 600, .slice (some ⟨g5, 0, none⟩) 1 1, .slice none 0 0, .int .i64 0, .slice (some ⟨n5, 0, none⟩) 2 2, .int .i64 2], 100), (g5, #[.int .i64 0, .int .i64 1, .int .i64 0, .int .i64 0], 156), (n5, #[.int .i64 5, .int .i64 6], 3), (g4, #[.int .i64 0, .int .i64 1, .int .i64 0, .int .i64 0], 156), (n4, #[.int .i64 7], 3), (g3, #[.int .i64 0, .int .i64 1, .int .i64 0, .int .i64 0], 156), (n3, #[.int .i64 5], 3), (B1, #[.int .i64 0, .int .i64 1000, .slice (some ⟨g0, 0, none⟩) 1 1, .slice none 0 0, .int .i64 0, .slice (some ⟨n0, 0, none⟩) 1 1, .int .i64 1, .int .i64 0, .int .i64 1000, .slice (some ⟨g1, 0, none⟩) 1 1, .slice none 0 0, .int .i64 1, .slice (some ⟨n1, 0, none⟩) 2 2, .int .i64 1, .int .i64 d, .int .i64 2000, .slice (some ⟨g2, 0, none⟩) 1 1, .slice none 0 0, .int .i64 0, .slice (some ⟨n2, 0, none⟩) 1 1, .int .i64 2], 100), (g2, #[.int .i64 0, .int .i64 1, .int .i64 0, .int .i64 0], 156), (n2, #[.int .i64 5], 3), (g1, #[.int .i64 0, .int .i64 1, .int .i64 0, .int .i64 0], 156), (n1, #[.int .i64 7, .int .i64 9], 3), (g0, #[.int .i64 0, .int .i64 1, .int .i64 0, .int .i64 0], 156), (n0, #[.int .i64 5], 3)]) (List.forall_mem_cons.2 ⟨⟨show w6.heap.size ≠ w.heap.size by omega, (.head _)⟩, List.forall_mem_cons.2 ⟨⟨show g5 ≠ w.heap.size by omega, (.tail _ (.head _))⟩, List.forall_mem_cons.2 ⟨⟨show n5 ≠ w.heap.size by omega, (.tail _ (.tail _ (.head _)))⟩, List.forall_mem_cons.2 ⟨⟨show g4 ≠ w.heap.size by omega, (.tail _ (.tail _ (.tail _ (.head _))))⟩, List.forall_mem_cons.2 ⟨⟨show n4 ≠ w.heap.size by omega, (.tail _ (.tail _ (.tail _ (.tail _ (.head _)))))⟩, List.forall_mem_cons.2 ⟨⟨show g3 ≠ w.heap.size by omega, (.tail _ (.tail _ (.tail _ (.tail _ (.tail _ (.head _))))))⟩, List.forall_mem_cons.2 ⟨⟨show n3 ≠ w.heap.size by omega, (.tail _ (.tail _ (.tail _ (.tail _ (.tail _ (.tail _ (.head _)))))))⟩, List.forall_mem_cons.2 ⟨⟨show B1 ≠ w.heap.size by omega, (.tail _ (.tail _ (.tail _ (.tail _ (.tail _ (.tail _ (.tail _ (.head _))))))))⟩, List.forall_mem_cons.2 ⟨⟨show g2 ≠ w.heap.size by omega, (.tail _ (.tail _ (.tail _ (.tail _ (.tail _ (.tail _ (.tail _ (.tail _ (.head _)))))))))⟩, List.forall_mem_cons.2 ⟨⟨show n2 ≠ w.heap.size by omega, (.tail _ (.tail _ (.tail _ (.tail _ (.tail _ (.tail _ (.tail _ (.tail _ (.tail _ (.head _))))))))))⟩, List.forall_mem_cons.2 ⟨⟨show g1 ≠ w.heap.size by omega, (.tail _ (.tail _ (.tail _ (.tail _ (.tail _ (.tail _ (.tail _ (.tail _ (.tail _ (.tail _ (.head _)))))))))))⟩, List.forall_mem_cons.2 ⟨⟨show n1 ≠ w.heap.size by omega, (.tail _ (.tail _ (.tail _ (.tail _ (.tail _ (.tail _ (.tail _ (.tail _ (.tail _ (.tail _ (.tail _ (.head _))))))))))))⟩, List.forall_mem_cons.2 ⟨⟨show g0 ≠ w.heap.size by omega, (.tail _ (.tail _ (.tail _ (.tail _ (.tail _ (.tail _ (.tail _ (.tail _ (.tail _ (.tail _ (.tail _ (.tail _ (.head _)))))))))))))⟩, List.forall_mem_cons.2 ⟨⟨show n0 ≠ w.heap.size by omega, (.tail _ (.tail _ (.tail _ (.tail _ (.tail _ (.tail _ (.tail _ (.tail _ (.tail _ (.tail _ (.tail _ (.tail _ (.tail _ (.head _))))))))))))))⟩, List.forall_mem_nil _⟩⟩⟩⟩⟩⟩⟩⟩⟩⟩⟩⟩⟩⟩))
  have HQ0 := Lib.hid (qp_of (sx := 0) (pl := 1) (lo := 0) (hi := 1000) (HF.out.bk _ _ _ (.tail _ (.tail _ (.tail _ (.tail _ (.tail _ (.tail _ (.tail _ (.tail _ (.tail _ (.tail _ (.tail _ (.tail _ (.tail _ (.head _))))))))))))))).2 (ints1_own (HF.out.bk _ _ _ (.tail _ (.tail _ (.tail _ (.tail _ (.tail _ (.tail _ (.tail _ (.tail _ (.tail _ (.tail _ (.tail _ (.tail _ (.tail _ (.tail _ (.head _)))))))))))))))).2) (by omega))
  have HQ1 := Lib.hid (qp_of (sx := 1) (pl := 1) (lo := 0) (hi := 1000) (HF.out.bk _ _ _ (.tail _ (.tail _ (.tail _ (.tail _ (.tail _ (.tail _ (.tail _ (.tail _ (.tail _ (.tail _ (.tail _ (.head _))))))))))))).2 (ints2_own (HF.out.bk _ _ _ (.tail _ (.tail _ (.tail _ (.tail _ (.tail _ (.tail _ (.tail _ (.tail _ (.tail _ (.tail _ (.tail _ (.tail _ (.head _)))))))))))))).2) (by omega))
  have HQ2 := Lib.hid (qp_of (sx := 0) (pl := 2) (lo := d) (hi := 2000) (HF.out.bk _ _ _ (.tail _ (.tail _ (.tail _ (.tail _ (.tail _ (.tail _ (.tail _ (.tail _ (.tail _ (.head _))))))))))).2 (ints1_own (HF.out.bk _ _ _ (.tail _ (.tail _ (.tail _ (.tail _ (.tail _ (.tail _ (.tail _ (.tail _ (.tail _ (.tail _ (.head _)))))))))))).2) (by omega))
  have HQ3 := Lib.hid (qp_of (sx := 0) (pl := 1) (lo := 400) (hi := 900) (HF.out.bk _ _ _ (.tail _ (.tail _ (.tail _ (.tail _ (.tail _ (.tail _ (.head _)))))))).2 (ints1_own (HF.out.bk _ _ _ (.tail _ (.tail _ (.tail _ (.tail _ (.tail _ (.tail _ (.tail _ (.head _))))))))).2) (by omega))
  have HQ4 := Lib.hid (qp_of (sx := 2) (pl := 3) (lo := 1000) (hi := 1500) (HF.out.bk _ _ _ (.tail _ (.tail _ (.tail _ (.tail _ (.head _)))))).2 (ints1_own (HF.out.bk _ _ _ (.tail _ (.tail _ (.tail _ (.tail _ (.tail _ (.head _))))))).2) (by omega))
  have HQ5 := Lib.hid (qp_of (sx := 0) (pl := 2) (lo := 100) (hi := 600) (HF.out.bk _ _ _ (.tail _ (.tail _ (.head _)))).2 (ints2_own (HF.out.bk _ _ _ (.tail _ (.tail _ (.tail _ (.head _))))).2) (by omega))
  have HEO := Lib.hid (EsQ.three (E := tO d) (V0 := (.slice (some ⟨g0, 0, none⟩) 1 1, .slice none 0 0, .slice (some ⟨n0, 0, none⟩) 1 1)) (V1 := (.slice (some ⟨g1, 0, none⟩) 1 1, .slice none 0 0, .slice (some ⟨n1, 0, none⟩) 2 2)) (V2 := (.slice (some ⟨g2, 0, none⟩) 1 1, .slice none 0 0, .slice (some ⟨n2, 0, none⟩) 1 1)) (HF.out.lt (.tail _ (.tail _ (.tail _ (.tail _ (.tail _ (.tail _ (.tail _ (.tail _ (.head _)))))))))).2 rfl rfl rfl (fun i u hu => (HF.out.cell (.tail _ (.tail _ (.tail _ (.tail _ (.tail _ (.tail _ (.tail _ (.tail _ (.head _))))))))) i).trans (by rw [← Array.getElem?_toList]; exact hu)) HQ0.out HQ1.out HQ2.out)
  have HEN := Lib.hid (EsQ.three (E := tN) (V0 := (.slice (some ⟨g3, 0, none⟩) 1 1, .slice none 0 0, .slice (some ⟨n3, 0, none⟩) 1 1)) (V1 := (.slice (some ⟨g4, 0, none⟩) 1 1, .slice none 0 0, .slice (some ⟨n4, 0, none⟩) 1 1)) (V2 := (.slice (some ⟨g5, 0, none⟩) 1 1, .slice none 0 0, .slice (some ⟨n5, 0, none⟩) 2 2)) (HF.out.lt (.tail _ (.head _))).2 rfl rfl rfl (fun i u hu => (HF.out.cell (.tail _ (.head _)) i).trans (by rw [← Array.getElem?_toList]; exact hu)) HQ3.out HQ4.out HQ5.out)
  have HMM := Lib.hid (HM.out _ HF.out.fr)
  have hrow := (HF.out.bk w.heap.size _ _ (.head _)).2
  have HFR := Lib.hid HF.out.fr
  clear HF HB6 HQ0 HQ1 HQ2 HQ3 HQ4 HQ5 HM
  go_wp2_with (refine wpList_store_row (o := ⟨none, _, _, _, _, _⟩) rfl 33 (.tmp 4) (.tmp 21) rfl w.heap.size #[.slice (some ⟨B1, 0, none⟩) 3 3, .slice (some ⟨w6.heap.size, 0, none⟩) 3 3, .slice a n c] rfl rfl 33 #[.slice none 0 0, .slice none 0 0, .slice none 0 0] HRR.out HSL.out rfl (by simp [Value.oneCell']) ?_; generalize (w6.alloc (.cells #[.int .i64 400, .int .i64 900, .slice (some ⟨g3, 0, none⟩) 1 1, .slice none 0 0, .int .i64 0, .slice (some ⟨n3, 0, none⟩) 1 1, .int .i64 1, .int .i64 1000, .int .i64 1500, .slice (some ⟨g4, 0, none⟩) 1 1, .slice none 0 0, .int .i64 2, .slice (some ⟨n4, 0, none⟩) 1 1, .int .i64 3, .int .i64 100, .int .i64 600, .slice (some ⟨g5, 0, none⟩) 1 1, .slice none 0 0, .int .i64 0, .slice (some ⟨n5, 0, none⟩) 2 2, .int .i64 2] 100)).setRow w.heap.size #[.slice (some ⟨B1, 0, none⟩) 3 3, .slice (some ⟨w6.heap.size, 0, none⟩) 3 3, .slice a n c] = wz at *)
  exact bodyPost_ret (v := .agg #[.slice (some ⟨B1, 0, none⟩) 3 3, .slice (some ⟨w6.heap.size, 0, none⟩) 3 3, .slice a n c]) (results_cell_row rfl _ _ w.heap.size 33 #[.slice (some ⟨B1, 0, none⟩) 3 3, .slice (some ⟨w6.heap.size, 0, none⟩) 3 3, .slice a n c] (0, 0) _ rfl hrow Tryz.underlying33 rfl HSL.out) rfl ⟨⟨some ⟨B1, 0, none⟩, 3, some ⟨w6.heap.size, 0, none⟩, 3, a, c⟩, rfl, ⟨HEO.out, HEN.out, HMM.out⟩, HFR.out⟩
end Go.Proofs.YtgbdbikjckfgmaaGreat
namespace Go.Proofs.YtgbdbikjckfgmaaGreat
open Go.RowKit Go.Shelf
def bF (j : Nat) : Int := if j < 2 then 1 else 0
def bT (j : Nat) : Int := if j = 0 then 2 else if j = 1 then 3 else 0
set_option maxHeartbeats 2000000 in
theorem both_any (w : World) : Calls Tryz.prog 51 #[] w fun e w' => ∃ b, e = .returned (.slice (some ⟨b, 0, none⟩) 2 2) ∧ RsIn w' (.slice (some ⟨b, 0, none⟩) 2 2) 2 bF bT ∧ Below w.heap.size w w' := by
  have HA := Lib.hid ((BF.base w).alloc #[.int .i64 1, .int .i64 2, .int .i64 1, .int .i64 3] 110)
  have HR : Hid (RsIn (w.alloc (.cells #[.int .i64 1, .int .i64 2, .int .i64 1, .int .i64 3] 110)) (.slice (some ⟨w.heap.size, 0, none⟩) 2 2) 2 bF bT) := .inr ⟨w.heap.size, 0, 2, rfl, (HA.out.lt (.head _)).2, fun j hj => by
    rcases (show j = 0 ∨ j = 1 by omega) with rfl | rfl
    · exact ⟨HA.out.cell (.head _) 0, HA.out.cell (.head _) 1⟩
    · exact ⟨HA.out.cell (.head _) 2, HA.out.cell (.head _) 3⟩⟩
  go_enter Tryz.func51, Tryz.ntmps51
  go_wp2_with fail
  go_ret
  exact ⟨_, rfl, HR.out, HA.out.fr⟩
theorem ex_fault : (townsF 500 2 bF bT).fault = 0 := by decide +kernel
theorem ex_fault7 : (townsF 700 2 bF bT).fault = 0 := by decide +kernel
theorem ex_fault1 : (townsF 500 1 bF bT).fault = 0 := by decide +kernel
theorem ex_pairs : chL (townsF 500 2 bF bT) pT 3 = [(0, 0), (0, 2), (1, 1), (2, 2)] := by decide +kernel
theorem ex_sure : chL (townsF 500 2 bF bT) (townsF 500 2 bF bT).sure 3 = [(0, 0), (1, 1), (2, 2)] := by decide +kernel
theorem ex_only : (townsF 700 2 bF bT).only = false := by decide +kernel
theorem ex_cost : (townsF 500 2 bF bT).costV 0 2 = (1, 0) := by decide +kernel
theorem ex_alO : pickN (townsF 500 1 bF bT).alO 3 = [0, 2] := by decide +kernel
theorem ex_alN : pickN (townsF 500 1 bF bT).alN 3 = [0, 2] := by decide +kernel
end Go.Proofs.YtgbdbikjckfgmaaGreat
namespace Go.Proofs.YtgbdbikjckfgmaaGreat
open Go.RowKit Go.Shelf
theorem aw_pairs (z : FV) (w : World) (h : FlQ QP w z (townsF 500 2 bF bT)) : Calls Tryz.prog 22 #[.agg #[.slice z.oa 3 z.oc, .slice z.na 3 z.nc, .slice z.ma 2 z.mc]] w fun e w' => ∃ a c, e = .returned (.tuple #[.slice a 4 c, .int .i64 0]) ∧ SkIn w' (.slice a 4 c) [(0, 0), (0, 2), (1, 1), (2, 2)] ∧ Below w.heap.size w w' := by
  have h1 := pairs_ok z _ w h ex_fault
  have e : chL (townsF 500 2 bF bT) pT (townsF 500 2 bF bT).no = [(0, 0), (0, 2), (1, 1), (2, 2)] := ex_pairs
  rw [e] at h1; exact h1
theorem aw_sure (z : FV) (w : World) (h : FlQ QP w z (townsF 500 2 bF bT)) : Calls Tryz.prog 37 #[.agg #[.slice z.oa 3 z.oc, .slice z.na 3 z.nc, .slice z.ma 2 z.mc]] w fun e w' => ∃ a c, e = .returned (.tuple #[.slice a 3 c, .int .i64 0]) ∧ SkIn w' (.slice a 3 c) [(0, 0), (1, 1), (2, 2)] ∧ Below w.heap.size w w' := by
  have h1 := sureF_ok z _ w h ex_fault
  have e : chL (townsF 500 2 bF bT) (townsF 500 2 bF bT).sure (townsF 500 2 bF bT).no = [(0, 0), (1, 1), (2, 2)] := ex_sure
  rw [e] at h1; exact h1
theorem aw_always (z : FV) (w : World) (h : FlQ QP w z (townsF 500 1 bF bT)) : Calls Tryz.prog 27 #[.agg #[.slice z.oa 3 z.oc, .slice z.na 3 z.nc, .slice z.ma 1 z.mc]] w fun e w' => ∃ a c b d, e = .returned (.tuple #[.slice a 2 c, .slice b 2 d, .int .i64 0]) ∧ IntsIn w' (.slice a 2 c) 2 (nz [0, 2]) ∧ IntsIn w' (.slice b 2 d) 2 (nz [0, 2]) ∧ Below w.heap.size w w' := by
  have h1 := alwaysF_ok z _ w h ex_fault1
  have e : pickN (townsF 500 1 bF bT).alO (townsF 500 1 bF bT).no = [0, 2] := ex_alO
  have e2 : pickN (townsF 500 1 bF bT).alN (townsF 500 1 bF bT).nw = [0, 2] := ex_alN
  rw [e, e2] at h1; exact h1
theorem aw_only (z : FV) (w : World) (h : FlQ QP w z (townsF 700 2 bF bT)) : Calls Tryz.prog 38 #[.agg #[.slice z.oa 3 z.oc, .slice z.na 3 z.nc, .slice z.ma 2 z.mc]] w fun e w' => e = .returned (.tuple #[.slice none 0 0, .int .i64 10]) ∧ Below w.heap.size w w' := by
  have h1 := onlyF_ok z _ w h ex_fault7
  refine Calls.mono h1 fun e w' hp => ?_
  rcases hp with ⟨hb, _⟩ | ⟨_, hp⟩
  · rw [ex_only] at hb; cases hb
  · exact hp
theorem aw_cost (z : FV) (w : World) (h : FlQ QP w z (townsF 500 2 bF bT)) : Calls Tryz.prog 31 #[.agg #[.slice z.oa 3 z.oc, .slice z.na 3 z.nc, .slice z.ma 2 z.mc], .int .i64 0, .int .i64 2] w fun e w' => e = .returned (.tuple #[.int .i64 1, .int .i64 0]) ∧ Below w.heap.size w w' := by
  have h1 := costF_ok 0 2 z _ w h ex_fault
  rw [ex_cost] at h1; exact h1
end Go.Proofs.YtgbdbikjckfgmaaGreat
namespace Go.Proofs.YtgbdbikjckfgmaaGreat
open Go.RowKit Go.Shelf
theorem pairs_lit (L : List (Int × Int)) (a b : Option Addr) (c d : Nat) (w : World) (hL : L.length ≤ 100000) (h1 : SkIn w (.slice a L.length c) L) (h2 : SkIn w (.slice b L.length d) L) : Calls Tryz.prog 26 #[.slice a L.length c, .slice b L.length d] w fun e w' => e = .returned (.bool true) ∧ Below w.heap.size w w' := by
  refine (pairs5_any a b _ _ c d _ _ _ _ w h1 h2 hL hL).mono ?_
  rintro e w' ⟨rfl, hb⟩
  exact ⟨ret_bool (by rw [decide_eq_true rfl, Bool.true_and]; exact allB_true fun j _ => by simp), hb⟩
theorem ints_lit (z : Nat → Int) (n : Nat) (a b : Option Addr) (c d : Nat) (w : World) (hn : n ≤ 100000) (h1 : IntsIn w (.slice a n c) n z) (h2 : IntsIn w (.slice b n d) n z) : Calls Tryz.prog 30 #[.slice a n c, .slice b n d] w fun e w' => e = .returned (.bool true) ∧ Below w.heap.size w w' := by
  refine (ints5_any a b _ _ c d _ _ w h1 h2 hn hn).mono ?_
  rintro e w' ⟨rfl, hb⟩
  exact ⟨ret_bool (by rw [decide_eq_true rfl, Bool.true_and]; exact allB_true fun j _ => by simp), hb⟩
theorem RsIn.one {w : World} {b : Nat} {p q : Nat → Int} (h : RsIn w (.slice (some ⟨b, 0, none⟩) 2 2) 2 p q) : RsIn w (.slice (some ⟨b, 0, none⟩) 1 2) 1 p q := by
  rcases h with ⟨_, _, _, h⟩ | ⟨b', o', c', e, hb, hz⟩
  · omega
  · cases e; exact .inr ⟨_, _, _, rfl, hb, fun j hj => hz j (by omega)⟩
set_option maxRecDepth 100000 in
set_option maxHeartbeats 8000000 in
theorem awake5_any (w : World) : Calls Tryz.prog 19 #[] w fun e w' => e = .returned (.bool true) ∧ Below w.heap.size w w' := by
  have HB0 : Hid (Below w.heap.size w w) := Below.refl _ _
  go_enter Tryz.func19, Tryz.ntmps19
  go_wp2_with fail
  refine (both_any _).mono ?_
  rintro _ w1 ⟨b0, rfl, hr0, hb⟩
  have HB1 := Lib.hid (HB0.out.trans (hb.mono HB0.out.size))
  clear hb HB0
  have HR0 := Lib.hid hr0
  clear hr0
  go_wp2_with fail
  refine (towns_any 500 (some ⟨b0, 0, none⟩) 2 2 bF bT _ HR0.out).mono ?_
  rintro _ w2 ⟨z0, rfl, hq0, hb⟩
  have HB2 := Lib.hid (HB1.out.trans (hb.mono HB1.out.size))
  clear hb HB1
  have HQ0 := Lib.hid hq0
  clear hq0 HR0
  go_wp2_with fail
  refine (aw_pairs z0 _ HQ0.out).mono ?_
  rintro _ w3 ⟨pa, pc, rfl, hp, hb⟩
  have HB3 := Lib.hid (HB2.out.trans (hb.mono HB2.out.size))
  have HP := Lib.hid hp
  clear hp
  clear hb HB2
  clear HQ0
  go_wp2_with fail
  refine (both_any _).mono ?_
  rintro _ w4 ⟨b1, rfl, hr1, hb⟩
  have HB4 := Lib.hid (HB3.out.trans (hb.mono HB3.out.size))
  have HP' := Lib.hid (HP.out.below hb)
  clear HP
  have HP := HP'
  clear HP'
  clear hb HB3
  have HR1 := Lib.hid hr1
  clear hr1
  go_wp2_with fail
  refine (towns_any 500 (some ⟨b1, 0, none⟩) 2 2 bF bT _ HR1.out).mono ?_
  rintro _ w5 ⟨z1, rfl, hq1, hb⟩
  have HB5 := Lib.hid (HB4.out.trans (hb.mono HB4.out.size))
  have HP' := Lib.hid (HP.out.below hb)
  clear HP
  have HP := HP'
  clear HP'
  clear hb HB4
  have HQ1 := Lib.hid hq1
  clear hq1 HR1
  go_wp2_with fail
  refine (aw_sure z1 _ HQ1.out).mono ?_
  rintro _ w6 ⟨sa, sc, rfl, hs, hb⟩
  have HB6 := Lib.hid (HB5.out.trans (hb.mono HB5.out.size))
  have HP' := Lib.hid (HP.out.below hb)
  clear HP
  have HP := HP'
  clear HP'
  have HS := Lib.hid hs
  clear hs
  clear hb HB5
  clear HQ1
  go_wp2_with fail
  refine (both_any _).mono ?_
  rintro _ w7 ⟨b2, rfl, hr2, hb⟩
  have HB7 := Lib.hid (HB6.out.trans (hb.mono HB6.out.size))
  have HP' := Lib.hid (HP.out.below hb)
  clear HP
  have HP := HP'
  clear HP'
  have HS' := Lib.hid (HS.out.below hb)
  clear HS
  have HS := HS'
  clear HS'
  clear hb HB6
  have HR2 := Lib.hid hr2.one
  clear hr2
  go_wp2_with fail
  refine (towns_any 500 (some ⟨b2, 0, none⟩) 1 2 bF bT _ HR2.out).mono ?_
  rintro _ w8 ⟨z2, rfl, hq2, hb⟩
  have HB8 := Lib.hid (HB7.out.trans (hb.mono HB7.out.size))
  have HP' := Lib.hid (HP.out.below hb)
  clear HP
  have HP := HP'
  clear HP'
  have HS' := Lib.hid (HS.out.below hb)
  clear HS
  have HS := HS'
  clear HS'
  clear hb HB7
  have HQ2 := Lib.hid hq2
  clear hq2 HR2
  go_wp2_with fail
  refine (aw_always z2 _ HQ2.out).mono ?_
  rintro _ w9 ⟨oa, oc, na, nc, rfl, ho, hn, hb⟩
  have HB9 := Lib.hid (HB8.out.trans (hb.mono HB8.out.size))
  have HP' := Lib.hid (HP.out.below hb)
  clear HP
  have HP := HP'
  clear HP'
  have HS' := Lib.hid (HS.out.below hb)
  clear HS
  have HS := HS'
  clear HS'
  have HO := Lib.hid ho
  clear ho
  have HN := Lib.hid hn
  clear hn
  clear hb HB8
  clear HQ2
  go_wp2_with fail
  refine (both_any _).mono ?_
  rintro _ w10 ⟨b3, rfl, hr3, hb⟩
  have HB10 := Lib.hid (HB9.out.trans (hb.mono HB9.out.size))
  have HP' := Lib.hid (HP.out.below hb)
  clear HP
  have HP := HP'
  clear HP'
  have HS' := Lib.hid (HS.out.below hb)
  clear HS
  have HS := HS'
  clear HS'
  have HO' := Lib.hid (HO.out.below hb)
  clear HO
  have HO := HO'
  clear HO'
  have HN' := Lib.hid (HN.out.below hb)
  clear HN
  have HN := HN'
  clear HN'
  clear hb HB9
  have HR3 := Lib.hid hr3
  clear hr3
  go_wp2_with fail
  refine (towns_any 700 (some ⟨b3, 0, none⟩) 2 2 bF bT _ HR3.out).mono ?_
  rintro _ w11 ⟨z3, rfl, hq3, hb⟩
  have HB11 := Lib.hid (HB10.out.trans (hb.mono HB10.out.size))
  have HP' := Lib.hid (HP.out.below hb)
  clear HP
  have HP := HP'
  clear HP'
  have HS' := Lib.hid (HS.out.below hb)
  clear HS
  have HS := HS'
  clear HS'
  have HO' := Lib.hid (HO.out.below hb)
  clear HO
  have HO := HO'
  clear HO'
  have HN' := Lib.hid (HN.out.below hb)
  clear HN
  have HN := HN'
  clear HN'
  clear hb HB10
  have HQ3 := Lib.hid hq3
  clear hq3 HR3
  go_wp2_with fail
  refine (aw_only z3 _ HQ3.out).mono ?_
  rintro _ w12 ⟨rfl, hb⟩
  have HB12 := Lib.hid (HB11.out.trans (hb.mono HB11.out.size))
  have HP' := Lib.hid (HP.out.below hb)
  clear HP
  have HP := HP'
  clear HP'
  have HS' := Lib.hid (HS.out.below hb)
  clear HS
  have HS := HS'
  clear HS'
  have HO' := Lib.hid (HO.out.below hb)
  clear HO
  have HO := HO'
  clear HO'
  have HN' := Lib.hid (HN.out.below hb)
  clear HN
  have HN := HN'
  clear HN'
  clear hb HB11
  clear HQ3
  go_wp2_with fail
  refine (both_any _).mono ?_
  rintro _ w13 ⟨b4, rfl, hr4, hb⟩
  have HB13 := Lib.hid (HB12.out.trans (hb.mono HB12.out.size))
  have HP' := Lib.hid (HP.out.below hb)
  clear HP
  have HP := HP'
  clear HP'
  have HS' := Lib.hid (HS.out.below hb)
  clear HS
  have HS := HS'
  clear HS'
  have HO' := Lib.hid (HO.out.below hb)
  clear HO
  have HO := HO'
  clear HO'
  have HN' := Lib.hid (HN.out.below hb)
  clear HN
  have HN := HN'
  clear HN'
  clear hb HB12
  have HR4 := Lib.hid hr4
  clear hr4
  go_wp2_with fail
  refine (towns_any 500 (some ⟨b4, 0, none⟩) 2 2 bF bT _ HR4.out).mono ?_
  rintro _ w14 ⟨z4, rfl, hq4, hb⟩
  have HB14 := Lib.hid (HB13.out.trans (hb.mono HB13.out.size))
  have HP' := Lib.hid (HP.out.below hb)
  clear HP
  have HP := HP'
  clear HP'
  have HS' := Lib.hid (HS.out.below hb)
  clear HS
  have HS := HS'
  clear HS'
  have HO' := Lib.hid (HO.out.below hb)
  clear HO
  have HO := HO'
  clear HO'
  have HN' := Lib.hid (HN.out.below hb)
  clear HN
  have HN := HN'
  clear HN'
  clear hb HB13
  have HQ4 := Lib.hid hq4
  clear hq4 HR4
  go_wp2_with fail
  refine (aw_cost z4 _ HQ4.out).mono ?_
  rintro _ w15 ⟨rfl, hb⟩
  have HB15 := Lib.hid (HB14.out.trans (hb.mono HB14.out.size))
  have HP' := Lib.hid (HP.out.below hb)
  clear HP
  have HP := HP'
  clear HP'
  have HS' := Lib.hid (HS.out.below hb)
  clear HS
  have HS := HS'
  clear HS'
  have HO' := Lib.hid (HO.out.below hb)
  clear HO
  have HO := HO'
  clear HO'
  have HN' := Lib.hid (HN.out.below hb)
  clear HN
  have HN := HN'
  clear HN'
  clear hb HB14
  clear HQ4
  have hbl := below_alloc w15 (.cells #[.int .i64 0, .int .i64 0, .int .i64 0, .int .i64 2, .int .i64 1, .int .i64 1, .int .i64 2, .int .i64 2] 45)
  have HL := Lib.hid (SkIn.own (l := [(0, 0), (0, 2), (1, 1), (2, 2)]) (own_new w15 45 2 4 0 #[.int .i64 0, .int .i64 0, .int .i64 0, .int .i64 2, .int .i64 1, .int .i64 1, .int .i64 2, .int .i64 2] (Nat.zero_le _) rfl (by decide)))
  have HP' := Lib.hid (HP.out.below hbl)
  clear HP
  have HP := HP'
  clear HP'
  have HS' := Lib.hid (HS.out.below hbl)
  clear HS
  have HS := HS'
  clear HS'
  have HO' := Lib.hid (HO.out.below hbl)
  clear HO
  have HO := HO'
  clear HO'
  have HN' := Lib.hid (HN.out.below hbl)
  clear HN
  have HN := HN'
  clear HN'
  have HBL := Lib.hid (HB15.out.trans (hbl.mono HB15.out.size))
  clear HB15 hbl
  have HB15 := HBL
  clear HBL
  go_wp2_with fail
  refine (pairs_lit [(0, 0), (0, 2), (1, 1), (2, 2)] _ _ _ _ _ (by decide) HP.out HL.out).mono ?_
  rintro _ w16 ⟨rfl, hb⟩
  have HB16 := Lib.hid (HB15.out.trans (hb.mono HB15.out.size))
  have HP' := Lib.hid (HP.out.below hb)
  clear HP
  have HP := HP'
  clear HP'
  have HS' := Lib.hid (HS.out.below hb)
  clear HS
  have HS := HS'
  clear HS'
  have HO' := Lib.hid (HO.out.below hb)
  clear HO
  have HO := HO'
  clear HO'
  have HN' := Lib.hid (HN.out.below hb)
  clear HN
  have HN := HN'
  clear HN'
  clear hb HB15
  clear HL
  clear HP
  have hbl := below_alloc w16 (.cells #[.int .i64 0, .int .i64 0, .int .i64 1, .int .i64 1, .int .i64 2, .int .i64 2] 45)
  have HL := Lib.hid (SkIn.own (l := [(0, 0), (1, 1), (2, 2)]) (own_new w16 45 2 3 0 #[.int .i64 0, .int .i64 0, .int .i64 1, .int .i64 1, .int .i64 2, .int .i64 2] (Nat.zero_le _) rfl (by decide)))
  have HS' := Lib.hid (HS.out.below hbl)
  clear HS
  have HS := HS'
  clear HS'
  have HO' := Lib.hid (HO.out.below hbl)
  clear HO
  have HO := HO'
  clear HO'
  have HN' := Lib.hid (HN.out.below hbl)
  clear HN
  have HN := HN'
  clear HN'
  have HBL := Lib.hid (HB16.out.trans (hbl.mono HB16.out.size))
  clear HB16 hbl
  have HB16 := HBL
  clear HBL
  go_wp2_with fail
  refine (pairs_lit [(0, 0), (1, 1), (2, 2)] _ _ _ _ _ (by decide) HS.out HL.out).mono ?_
  rintro _ w17 ⟨rfl, hb⟩
  have HB17 := Lib.hid (HB16.out.trans (hb.mono HB16.out.size))
  have HS' := Lib.hid (HS.out.below hb)
  clear HS
  have HS := HS'
  clear HS'
  have HO' := Lib.hid (HO.out.below hb)
  clear HO
  have HO := HO'
  clear HO'
  have HN' := Lib.hid (HN.out.below hb)
  clear HN
  have HN := HN'
  clear HN'
  clear hb HB16
  clear HL
  clear HS
  have hbl := below_alloc w17 (.cells #[.int .i64 0, .int .i64 2] 3)
  have HL := Lib.hid (IntsIn.own (l := [0, 2]) (own_new w17 3 1 2 0 #[.int .i64 0, .int .i64 2] (Nat.zero_le _) rfl (by decide)))
  have HO' := Lib.hid (HO.out.below hbl)
  clear HO
  have HO := HO'
  clear HO'
  have HN' := Lib.hid (HN.out.below hbl)
  clear HN
  have HN := HN'
  clear HN'
  have HBL := Lib.hid (HB17.out.trans (hbl.mono HB17.out.size))
  clear HB17 hbl
  have HB17 := HBL
  clear HBL
  go_wp2_with fail
  refine (ints_lit (nz [0, 2]) 2 _ _ _ _ _ (by decide) HO.out HL.out).mono ?_
  rintro _ w18 ⟨rfl, hb⟩
  have HB18 := Lib.hid (HB17.out.trans (hb.mono HB17.out.size))
  have HO' := Lib.hid (HO.out.below hb)
  clear HO
  have HO := HO'
  clear HO'
  have HN' := Lib.hid (HN.out.below hb)
  clear HN
  have HN := HN'
  clear HN'
  clear hb HB17
  clear HL
  clear HO
  have hbl := below_alloc w18 (.cells #[.int .i64 0, .int .i64 2] 3)
  have HL := Lib.hid (IntsIn.own (l := [0, 2]) (own_new w18 3 1 2 0 #[.int .i64 0, .int .i64 2] (Nat.zero_le _) rfl (by decide)))
  have HN' := Lib.hid (HN.out.below hbl)
  clear HN
  have HN := HN'
  clear HN'
  have HBL := Lib.hid (HB18.out.trans (hbl.mono HB18.out.size))
  clear HB18 hbl
  have HB18 := HBL
  clear HBL
  go_wp2_with fail
  refine (ints_lit (nz [0, 2]) 2 _ _ _ _ _ (by decide) HN.out HL.out).mono ?_
  rintro _ w19 ⟨rfl, hb⟩
  have HB19 := Lib.hid (HB18.out.trans (hb.mono HB18.out.size))
  have HN' := Lib.hid (HN.out.below hb)
  clear HN
  have HN := HN'
  clear HN'
  clear hb HB18
  clear HL
  go_wp2_with fail
  go_ret
  exact ⟨rfl, HB19.out⟩
end Go.Proofs.YtgbdbikjckfgmaaGreat
namespace Go.Proofs.YtgbdbikjckfgmaaGreat
open Go.ChangeShapes Go.WideShapes Go.ChangeAt Go.RowKit Go.Shelf
instance : Inhabited En := ⟨⟨⟨0, 0, 0, fun _ => default, 0, fun _ => default⟩, 0, 0, fun _ => 0, 0⟩⟩
set_option maxRecDepth 100000 in
theorem open_mv {H : Type} {enc : TypeId × Value → H} {W : World} {fuel : Nat} {cs : List Value} {x : DataW H × List MemPlace} (h : DataW.trod enc Tryz.prog W 0 (fun _ => true) true fuel 63 cs = some x) : ∃ r : Int × Int, cs = [.int .i64 r.1, .int .i64 r.2] := by
  obtain ⟨z0, z1, m, _, _, g0, g1⟩ := trod_struct2 Tryz.underlying63 h
  have k1 : Tryz.prog.cellsOf 3 = 1 := by kernel_rfl
  rw [k1] at g0 g1
  obtain ⟨lo, e0, _⟩ := DataW.trod_int Tryz.underlying3 g0
  obtain ⟨hi, e1, _⟩ := DataW.trod_int Tryz.underlying3 g1
  match cs, e0, e1 with
  | [c0, c1], e0, e1 =>
    simp at e0 e1
    subst e0 e1
    exact ⟨(lo, hi), rfl⟩
set_option maxRecDepth 100000 in
theorem open_mvs {H : Type} {enc : TypeId × Value → H} {W : World} {fuel : Nat} {v : Value} {x : DataW H × List MemPlace} (h : DataW.trod enc Tryz.prog W 0 (fun _ => true) true fuel 23 [v] = some x) :
    ∃ a n cap p q, v = .slice a n cap ∧ RsIn W (.slice a n cap) n p q ∧ n ≤ cap ∧ n ≤ maxLen := by
  rcases Go.Deep.open_slice Tryz.underlying23 h with ⟨hcs, _⟩ | ⟨a, len, cap, m, n, D, Pl, hcs, _, hl, hm, hmm, _, hx⟩
  · simp at hcs; subst hcs
    exact ⟨none, 0, 0, fun _ => 0, fun _ => 0, rfl, .inl ⟨_, _, rfl, rfl⟩, Nat.zero_le _, Nat.zero_le _⟩
  · simp at hcs; subst hcs
    simp only [if_true] at hmm
    subst hmm
    have k : Tryz.prog.cellsOf 63 = 2 := by kernel_rfl
    rw [k] at hx
    obtain ⟨R, hR⟩ := Go.Deep.choose_lt (α := Int × Int) (n := len) (p := fun i (r : Int × Int) => W.cells? 0 (a.add (i * 2)) 2 = some [.int .i64 r.1, .int .i64 r.2]) (fun i hi => by
      obtain ⟨cs', h1, h2⟩ := hx i (by omega)
      obtain ⟨r, rfl⟩ := open_mv h2
      exact ⟨r, h1⟩)
    rcases Nat.eq_zero_or_pos len with rfl | hpos
    · exact ⟨some a, 0, m, fun _ => 0, fun _ => 0, rfl, .inl ⟨_, _, rfl, rfl⟩, Nat.zero_le _, Nat.zero_le _⟩
    · have hc0 := (World.cells?_some (hR 0 hpos)).2.2 0 (by omega)
      obtain ⟨b, off, spot⟩ := a
      obtain rfl : spot = none := by simpa [Addr.add] using World.cell?_spot hc0
      have hc : ∀ j, j < len → ∀ i, i < 2 → W.cell? ⟨b, off + j * 2 + i, none⟩ = [Value.int .i64 (R j).1, .int .i64 (R j).2][i]? := fun j hj i hi => by
        have := (World.cells?_some (hR j hj)).2.2 i hi
        rwa [Go.WideShapes.add_plain, Go.WideShapes.add_plain] at this
      have hbs : b < W.heap.size := World.block_lt_of_cell? W ⟨b, off + 0 * 2 + 0, none⟩ (hc 0 hpos 0 (by omega))
      exact ⟨some ⟨b, off, none⟩, len, m, fun j => (R j).1, fun j => (R j).2, rfl, .inr ⟨b, off, _, rfl, hbs, fun j hj => ⟨hc j hj 0 (by omega), hc j hj 1 (by omega)⟩⟩, by omega, by omega⟩
set_option maxRecDepth 100000 in
theorem open_intl {H : Type} {enc : TypeId × Value → H} {W : World} {fuel : Nat} {v : Value} {x : DataW H × List MemPlace} (h : DataW.trod enc Tryz.prog W 0 (fun _ => true) true fuel 47 [v] = some x) :
    ∃ a n cap z, v = .slice a n cap ∧ IntsIn W (.slice a n cap) n z ∧ n ≤ cap ∧ n ≤ maxLen := by
  rcases Go.Deep.open_slice Tryz.underlying47 h with ⟨hcs, _⟩ | ⟨a, len, cap, m, n, D, Pl, hcs, _, hl, hm, hmm, _, hx⟩
  · simp at hcs; subst hcs
    exact ⟨none, 0, 0, fun _ => 0, rfl, .inl ⟨_, _, rfl, rfl⟩, Nat.zero_le _, Nat.zero_le _⟩
  · simp at hcs; subst hcs
    simp only [if_true] at hmm
    subst hmm
    have k : Tryz.prog.cellsOf 3 = 1 := by kernel_rfl
    rw [k] at hx
    obtain ⟨R, hR⟩ := Go.Deep.choose_lt (α := Int) (n := len) (p := fun i (r : Int) => W.cells? 0 (a.add (i * 1)) 1 = some [.int .i64 r]) (fun i hi => by
      obtain ⟨cs', h1, h2⟩ := hx i (by omega)
      obtain ⟨f, e0, _⟩ := DataW.trod_int Tryz.underlying3 h2
      subst e0
      exact ⟨f, h1⟩)
    rcases Nat.eq_zero_or_pos len with rfl | hpos
    · exact ⟨some a, 0, m, fun _ => 0, rfl, .inl ⟨_, _, rfl, rfl⟩, Nat.zero_le _, Nat.zero_le _⟩
    · have hc0 := (World.cells?_some (hR 0 hpos)).2.2 0 (by omega)
      obtain ⟨b, off, spot⟩ := a
      obtain rfl : spot = none := by simpa [Addr.add] using World.cell?_spot hc0
      have hc : ∀ j, j < len → W.cell? ⟨b, off + j * 1 + 0, none⟩ = some (.int .i64 (R j)) := fun j hj => by
        have := (World.cells?_some (hR j hj)).2.2 0 (by omega)
        rwa [Go.WideShapes.add_plain, Go.WideShapes.add_plain] at this
      have hbs : b < W.heap.size := World.block_lt_of_cell? W ⟨b, off + 0 * 1 + 0, none⟩ (hc 0 hpos)
      refine ⟨some ⟨b, off, none⟩, len, m, R, rfl, .inr ⟨b, off, _, rfl, hbs, fun j hj => ?_⟩, by omega, by omega⟩
      have h := hc j hj; rw [Nat.mul_one, Nat.add_zero] at h; exact h
set_option maxRecDepth 100000 in
theorem open_persc {H : Type} {enc : TypeId × Value → H} {W : World} {fuel : Nat} {cs : List Value} {x : DataW H × List MemPlace} (h : DataW.trod enc Tryz.prog W 0 (fun _ => true) true fuel 75 cs = some x) (hl : cs.length = 4) :
    ∃ (P : Pers) (rv cv : Value), cs = [.int .i64 P.lo, .int .i64 P.hi, rv, cv] ∧ RlsIn W rv P.nr P.R ∧ RcsIn W cv P.nc P.C ∧ P.nr ≤ maxLen ∧ P.nc ≤ maxLen := by
  match cs, hl with
  | [c0, c1, c2, c3], _ =>
    obtain ⟨y0, y1, y2, n, _, _, h0, h1, h2⟩ := Go.Deep.trod_struct3 Tryz.underlying75 h
    have k32 : Tryz.prog.cellsOf 71 = 2 := by kernel_rfl
    have k33 : Tryz.prog.cellsOf 72 = 1 := by kernel_rfl
    have k34 : Tryz.prog.cellsOf 73 = 1 := by kernel_rfl
    have k1 : Tryz.prog.cellsOf 3 = 1 := by kernel_rfl
    simp only [k32, k33, k34, List.drop, List.take] at h0 h1 h2
    obtain ⟨z0, z1, m, _, _, g0, g1⟩ := trod_struct2 Tryz.underlying71 h0
    simp only [k1, List.drop, List.take] at g0 g1
    obtain ⟨lo, e0, _⟩ := DataW.trod_int Tryz.underlying3 g0
    obtain ⟨hi, e1, _⟩ := DataW.trod_int Tryz.underlying3 g1
    simp at e0 e1
    subst e0 e1
    obtain ⟨nr, R, hR, hr⟩ := open_rls h1
    obtain ⟨nc, C, hC, hc⟩ := open_rcs h2
    exact ⟨⟨lo, hi, nr, R, nc, C⟩, c2, c3, rfl, hR, hC, hr, hc⟩
/-- An entry's seven values. -/
def EnC (W : World) (cs : List Value) (e : En) : Prop := ∃ rv cv nv, cs = [.int .i64 e.p.lo, .int .i64 e.p.hi, rv, cv, .int .i64 e.sex, nv, .int .i64 e.pl] ∧ QR W rv cv nv e
set_option maxRecDepth 100000 in
theorem open_en {H : Type} {enc : TypeId × Value → H} {W : World} {fuel : Nat} {cs : List Value} {x : DataW H × List MemPlace} (h : DataW.trod enc Tryz.prog W 0 (fun _ => true) true fuel 77 cs = some x) (hl : cs.length = 7) : ∃ e : En, EnC W cs e := by
  match cs, hl with
  | [c0, c1, c2, c3, c4, c5, c6], _ =>
    obtain ⟨y0, y1, y2, y3, n, _, _, h0, h1, h2, h3⟩ := Go.Joins.trod_struct4 Tryz.underlying77 h
    have k4 : Tryz.prog.cellsOf 75 = 4 := by kernel_rfl
    have k33 : Tryz.prog.cellsOf 47 = 1 := by kernel_rfl
    have k1 : Tryz.prog.cellsOf 3 = 1 := by kernel_rfl
    simp only [k4, k33, k1, List.drop, List.take] at h0 h1 h2 h3
    obtain ⟨P, rv, cv, e0, hR, hC, br, bc⟩ := open_persc h0 rfl
    obtain ⟨sx, e1, _⟩ := DataW.trod_int Tryz.underlying3 h1
    obtain ⟨a, nn, cap, z, e2, hZ, _, bz⟩ := open_intl h2
    obtain ⟨pl, e3, _⟩ := DataW.trod_int Tryz.underlying3 h3
    simp at e0 e1 e3
    obtain ⟨rfl, rfl, rfl, rfl⟩ := e0
    subst e1 e2 e3
    exact ⟨⟨P, sx, nn, z, pl⟩, c2, c3, _, rfl, hR, hC, hZ, br, bc, bz⟩
set_option maxRecDepth 100000 in
theorem open_ens {H : Type} {enc : TypeId × Value → H} {W : World} {fuel : Nat} {v : Value} {x : DataW H × List MemPlace} (h : DataW.trod enc Tryz.prog W 0 (fun _ => true) true fuel 22 [v] = some x) :
    ∃ a n cap E, v = .slice a n cap ∧ EsQ QR W (.slice a n cap) n E ∧ n ≤ cap ∧ n ≤ maxLen := by
  rcases Go.Deep.open_slice Tryz.underlying22 h with ⟨hcs, _⟩ | ⟨a, len, cap, m, n, D, Pl, hcs, _, hl, hm, hmm, _, hx⟩
  · simp at hcs; subst hcs
    exact ⟨none, 0, 0, fun _ => default, rfl, .inl ⟨_, _, rfl, rfl⟩, Nat.zero_le _, Nat.zero_le _⟩
  · simp at hcs; subst hcs
    simp only [if_true] at hmm
    subst hmm
    have k : Tryz.prog.cellsOf 77 = 7 := by kernel_rfl
    rw [k] at hx
    obtain ⟨R, hR⟩ := Go.Deep.choose_lt (α := En × List Value) (n := len) (p := fun i (r : En × List Value) => W.cells? 0 (a.add (i * 7)) 7 = some r.2 ∧ EnC W r.2 r.1) (fun i hi => by
      obtain ⟨cs', h1, h2⟩ := hx i (by omega)
      obtain ⟨e, he⟩ := open_en h2 (World.cells?_some h1).2.1
      exact ⟨(e, cs'), h1, he⟩)
    rcases Nat.eq_zero_or_pos len with rfl | hpos
    · exact ⟨some a, 0, m, fun _ => default, rfl, .inl ⟨_, _, rfl, rfl⟩, Nat.zero_le _, Nat.zero_le _⟩
    · obtain ⟨rv, cv, nv, e0, _⟩ := (hR 0 hpos).2
      have hc0 := (World.cells?_some (hR 0 hpos).1).2.2 0 (by omega)
      obtain ⟨b, off, spot⟩ := a
      have : W.cell? (((⟨b, off, spot⟩ : Addr).add (0 * 7)).add 0) = some (.int .i64 (R 0).1.p.lo) := by rw [hc0, e0]; rfl
      obtain rfl : spot = none := by simpa [Addr.add] using World.cell?_spot this
      have hc : ∀ j, j < len → ∀ i, i < 7 → W.cell? ⟨b, off + j * 7 + i, none⟩ = (R j).2[i]? := fun j hj i hi => by
        have := (World.cells?_some (hR j hj).1).2.2 i hi
        rwa [Go.WideShapes.add_plain, Go.WideShapes.add_plain] at this
      have hbs : b < W.heap.size := World.block_lt_of_cell? W ⟨b, off + 0 * 7 + 0, none⟩ (by rw [hc 0 hpos 0 (by omega), e0]; rfl)
      refine ⟨some ⟨b, off, none⟩, len, m, fun j => (R j).1, rfl, .inr ⟨b, off, _, rfl, hbs, fun j hj => ?_⟩, by omega, by omega⟩
      obtain ⟨rv, cv, nv, e, hq⟩ := (hR j hj).2
      have hcj := hc j hj
      rw [e] at hcj
      exact ⟨rv, cv, nv, ⟨hcj 0 (by omega), hcj 1 (by omega), hcj 2 (by omega), hcj 3 (by omega), hcj 4 (by omega), hcj 5 (by omega), hcj 6 (by omega)⟩, hq⟩
/-- What a law's file is. -/
structure FlLaw (W : World) (x : FV) (f : Fl) : Prop where
  l : FlQ QR W x f
  bo : f.no ≤ maxLen
  bw : f.nw ≤ maxLen
  bm : f.nm ≤ maxLen
  co : f.no ≤ x.oc
  cn : f.nw ≤ x.nc
  cm : f.nm ≤ x.mc
set_option maxRecDepth 100000 in
theorem open_file {H : Type} {enc : TypeId × Value → H} {W : World} {base : Nat} {v : Value} {d : DataW H} {p : List MemPlace} (hv : Value.okWide Tryz.prog W .any base 25 v) (h : DataW.Trod enc Tryz.prog W 0 (fun _ => true) true 25 v d p) :
    ∃ (x : FV) (f : Fl), v = .agg #[.slice x.oa f.no x.oc, .slice x.na f.nw x.nc, .slice x.ma f.nm x.mc] ∧ FlLaw W x f := by
  obtain ⟨cs, rfl, hsz⟩ := okWide_struct Tryz.underlying25 hv
  have hsz3 : cs.size = 3 := hsz.trans (by kernel_rfl)
  obtain ⟨fuel, hf⟩ := h
  obtain ⟨z0, z1, z2, m, _, _, g0, g1, g2⟩ := Go.Deep.trod_struct3 Tryz.underlying25 hf
  have k1 : Tryz.prog.cellsOf 22 = 1 := by kernel_rfl
  have k2 : Tryz.prog.cellsOf 23 = 1 := by kernel_rfl
  match cs, hsz3 with
  | ⟨[c0, c1, c2]⟩, _ =>
    simp only [Value.cells, k1, k2, List.drop, List.take] at g0 g1 g2
    obtain ⟨a0, n0, p0, E0, rfl, q0, s0, m0⟩ := open_ens g0
    obtain ⟨a1, n1, p1, E1, rfl, q1, s1, m1⟩ := open_ens g1
    obtain ⟨a2, n2, p2, mf, mt, rfl, q2, s2, m2⟩ := open_mvs g2
    exact ⟨⟨a0, p0, a1, p1, a2, p2⟩, ⟨n0, E0, n1, E1, n2, mf, mt⟩, rfl, ⟨q0, q1, q2⟩, m0, m1, m2, s0, s1, s2⟩
end Go.Proofs.YtgbdbikjckfgmaaGreat
namespace Go.Proofs.YtgbdbikjckfgmaaGreat
open Go.RowKit Go.Shelf
theorem thinE_at {n : Nat} {E : Nat → En} (h : thinE n E = true) : n ≤ 11 ∧ ∀ j, j < n → (E j).p.nr ≤ 7 ∧ (E j).p.nc ≤ 11 ∧ (E j).nn ≤ 7 := by
  unfold thinE at h
  rw [Bool.and_eq_true] at h
  refine ⟨of_decide_eq_true h.1, fun j hj => ?_⟩
  have h2 := allB_all h.2 j hj
  simp only [En.thinB, Pers.thin, Bool.and_eq_true, decide_eq_true_eq] at h2
  omega
theorem thin_bd {f : Fl} (h : f.thin = true) : f.no ≤ 11 ∧ f.nw ≤ 11 ∧ f.nm ≤ 19 ∧ (∀ j, j < f.no → (f.O j).p.nr ≤ 7 ∧ (f.O j).p.nc ≤ 11 ∧ (f.O j).nn ≤ 7) ∧ ∀ j, j < f.nw → (f.N j).p.nr ≤ 7 ∧ (f.N j).p.nc ≤ 11 ∧ (f.N j).nn ≤ 7 := by
  unfold Fl.thin at h
  simp only [Bool.and_eq_true, decide_eq_true_eq] at h
  obtain ⟨⟨h1, h2⟩, h3⟩ := h
  exact ⟨(thinE_at h1).1, (thinE_at h2).1, h3, (thinE_at h1).2, (thinE_at h2).2⟩
theorem thinW (x : FV) (f : Fl) (w : World) (h : FlQ QR w x f) (b : Bool) (hb : f.thin = b) : ∀ X, Below w.heap.size w X → Calls Tryz.prog 18 #[.agg #[.slice x.oa f.no x.oc, .slice x.na f.nw x.nc, .slice x.ma f.nm x.mc]] X fun e w' => e = .returned (.bool b) ∧ Below X.heap.size X w' := fun X hX => by
  have := thinF_any x f X (h.below QR.k hX); rwa [hb] at this
theorem fileW (x : FV) (f : Fl) (w : World) (h : FlQ QR w x f) (ht : f.thin = true) : ∀ X, Below w.heap.size w X → Calls Tryz.prog 21 #[.agg #[.slice x.oa f.no x.oc, .slice x.na f.nw x.nc, .slice x.ma f.nm x.mc]] X fun e w' => ∃ z : FV, e = .returned (.agg #[.slice z.oa f.no z.oc, .slice z.na f.nw z.nc, .slice z.ma f.nm z.mc]) ∧ FlQ QP w' z f ∧ Below X.heap.size X w' := fun X hX => by
  obtain ⟨b1, b2, b3, b4, b5⟩ := thin_bd ht
  exact file5_any x f X (h.below QR.k hX) (by omega) (by omega) (by omega) (fun j hj => by have := b4 j hj; omega) (fun j hj => by have := b5 j hj; omega)
theorem faultW (x : FV) (f : Fl) (w : World) (h : FlQ QR w x f) (n : Int) (hn : f.fault = n) : ∀ X, Below w.heap.size w X → Calls Tryz.prog 23 #[.agg #[.slice x.oa f.no x.oc, .slice x.na f.nw x.nc, .slice x.ma f.nm x.mc]] X fun e w' => e = .returned (.int .i64 n) ∧ Below X.heap.size X w' := fun X hX => by
  have := fault5_any x f X (h.below QR.k hX); rwa [hn] at this
end Go.Proofs.YtgbdbikjckfgmaaGreat
namespace Go.Proofs.YtgbdbikjckfgmaaGreat
open Go.RowKit Go.Shelf
def Fl.rowM (f : Fl) (z : Nat → Int) (i : Nat) : Bool := decide (0 ≤ z i) && f.g i (z i).toNat && allB (fun j => !(z j == z i)) i
theorem Fl.isM_no {f : Fl} {n : Nat} {z : Nat → Int} {i : Nat} (hi : i < n) (h1 : z i ≠ -1) (h2 : f.rowM z i = false) : f.isM n z = false := by
  unfold Fl.isM
  rw [allB_false hi, Bool.and_false]
  rw [decide_eq_false h1, Bool.false_or]; exact h2
theorem Fl.isM_yes {f : Fl} {n : Nat} {z : Nat → Int} (hn : n = f.no) (h : ∀ i, i < n → z i ≠ -1 → f.rowM z i = true) : f.isM n z = true := by
  unfold Fl.isM
  rw [decide_eq_true hn, Bool.true_and]
  refine allB_true fun i hi => ?_
  by_cases h1 : z i = -1
  · rw [decide_eq_true h1, Bool.true_or]
  · rw [decide_eq_false h1, Bool.false_or]; exact h i hi h1
theorem cntM_succ (z : Nat → Int) (n : Nat) : cntM z (n + 1) = if z n = -1 then cntM z n else cntM z n + 1 := by
  unfold cntM
  rw [List.range_succ, List.filter_append, List.length_append, List.filter_cons, List.filter_nil]
  by_cases h : z n = -1
  · rw [if_pos h, if_neg (by simp [h])]; rfl
  · rw [if_neg h, if_pos (by simp [h])]; rfl
theorem cntM_le (z : Nat → Int) : ∀ n, cntM z n ≤ n
  | 0 => Nat.le_refl _
  | n + 1 => by
    have := cntM_le z n
    rw [cntM_succ]; split <;> omega
end Go.Proofs.YtgbdbikjckfgmaaGreat
namespace Go.Proofs.YtgbdbikjckfgmaaGreat
open Go.RowKit Go.Shelf
/-- Two own rows of one type. -/
structure Two (base : Nat) (X : World) (T : TypeId) (sz : Nat) (v1 : Value) (n1 : Nat) (x1 : List Value) (v2 : Value) (n2 : Nat) (x2 : List Value) : Prop where
  o1 : X.ownsRow base T sz v1 n1 x1
  o2 : X.ownsRow base T sz v2 n2 x2
  dis : ∀ k, v1.ownBlock = some k → v2.ownBlock ≠ some k
section
variable {base : Nat} {X Y : World} {T : TypeId} {sz n1 n2 : Nat} {v1 v2 : Value} {x1 x2 : List Value}
theorem Two.nil : Two base X T sz (.slice none 0 0) 0 [] (.slice none 0 0) 0 [] := ⟨World.ownsRow_nil _ _ _ _, World.ownsRow_nil _ _ _ _, fun k e => by cases e⟩
theorem Two.below (h : Two base X T sz v1 n1 x1 v2 n2 x2) (hb : Below X.heap.size X Y) : Two base Y T sz v1 n1 x1 v2 n2 x2 := ⟨own_below h.o1 hb, own_below h.o2 hb, h.dis⟩
theorem Two.app1 {v : Value} {n : Nat} {xs : List Value} (h : Two base X T sz v1 n1 x1 v2 n2 x2) (ho : Y.ownsRow base T sz v n xs) (hg : X.grownBy Y v1.ownBlock) (hl : v.ownBlock = v1.ownBlock ∨ v.ownBlock = some X.heap.size) : Two base Y T sz v n xs v2 n2 x2 :=
  ⟨ho, own_fr h.o2 (Fr.grown hg) (fun k _ e1 _ _ e2 => h.dis k e2 e1), fun k e1 e2 => by
    rcases hl with e | e
    · exact h.dis k (e ▸ e1) e2
    · rw [e] at e1
      have := own_lt h.o2 e2
      have := Option.some.inj e1
      omega⟩
theorem Two.swap (h : Two base X T sz v1 n1 x1 v2 n2 x2) : Two base X T sz v2 n2 x2 v1 n1 x1 := ⟨h.o2, h.o1, fun k e1 e2 => h.dis k e2 e1⟩
end
end Go.Proofs.YtgbdbikjckfgmaaGreat
namespace Go.Proofs.YtgbdbikjckfgmaaGreat
open Go.RowKit Go.Shelf
def Fl.rdy (f : Fl) : Bool := f.thin && decide (f.fault = 0)
theorem Fl.rdy_yes {f : Fl} (h : f.rdy = true) : f.thin = true ∧ f.fault = 0 := by
  unfold Fl.rdy at h; simpa using h
set_option maxRecDepth 100000 in
set_option maxHeartbeats 4000000 in
theorem ready_any (x : FV) (f : Fl) (w : World) (h : FlQ QR w x f) :
    Calls Tryz.prog 34 #[.agg #[.slice x.oa f.no x.oc, .slice x.na f.nw x.nc, .slice x.ma f.nm x.mc]] w fun e w' => e = .returned (.bool f.rdy) ∧ Below w.heap.size w w' := by
  obtain ⟨oa, oc, na, nc, ma, mc⟩ := x
  have HTH := Lib.hid (thinW ⟨oa, oc, na, nc, ma, mc⟩ f w h f.thin rfl)
  have HFA := Lib.hid (faultW ⟨oa, oc, na, nc, ma, mc⟩ f w h f.fault rfl)
  have HE : Hid (f.rdy = (f.thin && decide (f.fault = 0))) := rfl
  clear h
  dsimp only at HTH HFA ⊢
  generalize f.rdy = r at *
  generalize f.thin = t at *
  generalize f.fault = ft at *
  generalize f.no = no at *
  generalize f.nw = nw at *
  generalize f.nm = nm at *
  have HA := Lib.hid ((BF.base w).alloc #[.slice oa no oc, .slice na nw nc, .slice ma nm mc] 25)
  go_enter Tryz.func34, Tryz.ntmps34
  have c0 := HA.out.cell (.head _) 0
  have c1 := HA.out.cell (.head _) 1
  have c2 := HA.out.cell (.head _) 2
  go_wp2_with fail
  refine (HTH.out _ HA.out.fr).mono ?_
  rintro _ w1 ⟨rfl, hb⟩
  have HA1 := Lib.hid (HA.out.below hb)
  clear hb c0 c1 c2
  cases t
  · have hr : r = false := HE.out
    subst hr
    go_wp2_with fail
    go_ret
    exact ⟨rfl, HA1.out.fr⟩
  · have hr : r = decide (ft = 0) := HE.out
    subst hr
    have c0 := HA1.out.cell (.head _) 0
    have c1 := HA1.out.cell (.head _) 1
    have c2 := HA1.out.cell (.head _) 2
    go_wp2_with fail
    refine (HFA.out _ HA1.out.fr).mono ?_
    rintro _ w2 ⟨rfl, hb⟩
    have HA2 := Lib.hid (HA1.out.below hb)
    clear hb c0 c1 c2
    go_wp2_with fail
    go_ret
    exact ⟨ret_bool (by by_cases h : ft = 0 <;> simp [h]), HA2.out.fr⟩
theorem readyW (x : FV) (f : Fl) (w : World) (h : FlQ QR w x f) (b : Bool) (hb : f.rdy = b) : ∀ X, Below w.heap.size w X → Calls Tryz.prog 34 #[.agg #[.slice x.oa f.no x.oc, .slice x.na f.nw x.nc, .slice x.ma f.nm x.mc]] X fun e w' => e = .returned (.bool b) ∧ Below X.heap.size X w' := fun X hX => by
  have := ready_any x f X (h.below QR.k hX); rwa [hb] at this
end Go.Proofs.YtgbdbikjckfgmaaGreat
namespace Go.Proofs.YtgbdbikjckfgmaaGreat
open Go.RowKit Go.Shelf
theorem OkF.fault {f : Fl} (h : OkF f) : f.fault = 0 := by
  have b : f.big = false := by
    have h1 := h.no; have h2 := h.nw; have h3 := h.nm
    unfold Fl.big
    rw [decide_eq_false (by omega : ¬ 8 < f.no), decide_eq_false (by omega : ¬ 8 < f.nw), decide_eq_false (by omega : ¬ 16 < f.nm), allB_true (p := fun j => (f.E j).lim) fun j hj => decide_eq_true (h.e j hj).1]; rfl
  have p : f.pf = 0 := firstE_zero fun j hj => (h.e j hj).2.1
  have q : f.fine = true := by
    unfold Fl.fine
    rw [allB_true (p := fun j => (f.E j).ok) fun j hj => (h.e j hj).2.2, allB_true h.m]; rfl
  unfold Fl.fault; rw [b, p, q]; rfl
end Go.Proofs.YtgbdbikjckfgmaaGreat
namespace Go.Proofs.YtgbdbikjckfgmaaGreat
open Go.RowKit Go.Shelf
theorem EsQ.take {Q : QT} {w : World} {a : Option Addr} {n c : Nat} {E : Nat → En} (h : EsQ Q w (.slice a n c) n E) {k : Nat} (hk : k ≤ n) (c' : Nat) : EsQ Q w (.slice a k c') k E := by
  rcases h with ⟨_, _, _, rfl⟩ | ⟨b, off, c2, e, hb, hz⟩
  · obtain rfl : k = 0 := by omega
    exact .inl ⟨_, _, rfl, rfl⟩
  · cases e
    exact .inr ⟨b, off, c', rfl, hb, fun j hj => hz j (by omega)⟩
theorem EsQ.drop {Q : QT} {w : World} {b off n c : Nat} {E : Nat → En} (h : EsQ Q w (.slice (some ⟨b, off, none⟩) n c) n E) {k : Nat} (hk : k ≤ n) (c' : Nat) : EsQ Q w (.slice (some ⟨b, off + k * 7, none⟩) (n - k) c') (n - k) fun j => E (k + j) := by
  rcases h with ⟨_, _, _, rfl⟩ | ⟨b, off, c2, e, hb, hz⟩
  · obtain rfl : k = 0 := by omega
    exact .inl ⟨_, _, rfl, rfl⟩
  · cases e
    refine .inr ⟨b, off + k * 7, c', rfl, hb, fun j hj => ?_⟩
    obtain ⟨rv, cv, nv, h1, h2⟩ := hz (k + j) (by omega)
    refine ⟨rv, cv, nv, ?_, h2⟩
    rw [show off + k * 7 + j * 7 = off + (k + j) * 7 by omega]; exact h1
end Go.Proofs.YtgbdbikjckfgmaaGreat
namespace Go.Proofs.YtgbdbikjckfgmaaGreat
open Go.ChangeShapes Go.WideShapes Go.ChangeAt Go.RowKit Go.Shelf
def addE (E : Nat → En) (n : Nat) (e : En) (j : Nat) : En := if j < n then E j else e
def addZ (z : Nat → Int) (n : Nat) (v : Int) (j : Nat) : Int := if j < n then z j else v
theorem eF_snoc (E : Nat → En) (V : V3) (n : Nat) (e : En) (v : Value × Value × Value) : eF E V n ++ e7 e v = eF (addE E n e) (fun j => if j < n then V j else v) (n + 1) := by
  rw [show e7 e v = eF (fun _ => e) (fun _ => v) 1 by simp [eF], eF_append]
  exact eF_congr fun j hj => ⟨rfl, rfl⟩
theorem mvL_one (p q : Nat → Int) (n : Nat) (a b : Int) : mvL p q n ++ [.int .i64 a, .int .i64 b] = mvL (addZ p n a) (addZ q n b) (n + 1) := by
  rw [mvL_succ]
  have e1 : addZ p n a n = a := if_neg (Nat.lt_irrefl n)
  have e2 : addZ q n b n = b := if_neg (Nat.lt_irrefl n)
  rw [e1, e2]
  congr 1
  unfold mvL mvP
  congr 1
  exact List.map_congr_left fun j hj => by
    have hj2 := List.mem_range.1 hj
    rw [show addZ p n a j = p j from if_pos hj2, show addZ q n b j = q j from if_pos hj2]
theorem rs_src {w : World} {a : Option Addr} {n c : Nat} {p q : Nat → Int} (h : RsIn w (.slice a n c) n p q) : Src w a 2 n (mvL p q n) := by
  have hl : (mvP p q n).length = n := by simp [mvP]
  refine ⟨by unfold mvL; rw [flat_length, hl], fun j u hu => ?_⟩
  have hj : j < n * 2 := by
    have := (List.getElem?_eq_some_iff.1 hu).1
    unfold mvL at this; rw [flat_length, hl] at this; exact this
  have hk : j / 2 < n := by omega
  obtain ⟨b, off, rfl, _, x0, x1⟩ := h.at hk
  have hg : (mvP p q n).getD (j / 2) (0, 0) = (p (j / 2), q (j / 2)) := by unfold mvP; simp [hk]
  obtain ⟨g1, g2⟩ := flatP_get (mvP p q n) (j := j / 2) (by rw [hl]; exact hk)
  rw [hg] at g1 g2
  refine ⟨_, rfl, ?_⟩
  rw [addr_add]
  rcases Nat.mod_two_eq_zero_or_one j with h2 | h2
  · have e : j = j / 2 * 2 := by omega
    have hu2 : (flat (mvP p q n))[j]? = some u := hu
    rw [e, g1] at hu2
    cases hu2
    rw [show off + j = off + j / 2 * 2 by omega]; exact x0
  · have e : j = j / 2 * 2 + 1 := by omega
    have hu2 : (flat (mvP p q n))[j]? = some u := hu
    rw [e, g2] at hu2
    cases hu2
    rw [show off + j = off + j / 2 * 2 + 1 by omega]; exact x1
theorem mvL_oneC (p q : Nat → Int) : ∀ n, ∀ u ∈ mvL p q n, u.oneCell' = true
  | 0, u, hu => by simp [mvL, mvP, flat] at hu
  | n + 1, u, hu => by
    rw [mvL_succ] at hu
    rcases List.mem_append.1 hu with hu | hu
    · exact mvL_oneC p q n u hu
    · simp only [List.mem_cons, List.not_mem_nil, or_false] at hu
      rcases hu with rfl | rfl <;> rfl
end Go.Proofs.YtgbdbikjckfgmaaGreat
namespace Go.Proofs.YtgbdbikjckfgmaaGreat
open Go.RowKit Go.Shelf Go.Maps
def rng64 (k : Int) : Prop := (Lit.int .i64 k).wf = true
theorem iKeyed : Keyed Tryz.prog 3 := int_keyed Tryz.underlying3
theorem iKeyOf {k : Int} (h : rng64 k) : keyOf Tryz.prog 3 (.int .i64 k) = some (.int .i64 k) := keyOf_int_mk Tryz.underlying3 h
/-- A set of numbers: its members, its size. -/
def IMD (D : DataW Unit) (F : Int → Bool) (n : Nat) : Prop :=
  Tidy D ∧ size D = n ∧ ∀ k, rng64 k → D.atKey (.int .i64 k) (.lit (.bool false)) = .lit (.bool (F k)) ∧ has D (.int .i64 k) = F k
def IM (w : World) (F : Int → Bool) (bm n : Nat) : Prop := ∃ D : DataW Unit, IMD D F n ∧ w.ownsMap Tryz.prog 3 blR bm n D
theorem IM.made (w : World) : IM (w.alloc (.map #[] 0)) (fun _ => false) w.heap.size 0 :=
  ⟨.map [], ⟨tidy_empty, rfl, fun _ _ => ⟨rfl, rfl⟩⟩, World.ownsMap_made _ _ _ _⟩
theorem IM.kept {w w' : World} {F : Int → Bool} {bm n : Nat} {row : Option Nat} (h : IM w F bm n) (hg : w.grownBy w' row) (hne : some bm ≠ row) : IM w' F bm n := by
  obtain ⟨D, h1, h2⟩ := h; exact ⟨D, h1, h2.kept hg hne⟩
theorem IM.lt {w : World} {F : Int → Bool} {bm n : Nat} (h : IM w F bm n) : bm < w.heap.size := by
  obtain ⟨D, h1, h2⟩ := h; exact h2.lt
theorem IM.below {w w' : World} {F : Int → Bool} {bm n : Nat} (h : IM w F bm n) (hb : Below w.heap.size w w') : IM w' F bm n :=
  h.kept (row := none) ⟨hb.1, hb.2, hb.3, hb.size, fun k hk _ => hb.block k hk⟩ (by simp)
theorem IM.look {F : Int → Bool} {k : Int} (hk : rng64 k) {W : World} {bm m : Nat} (h : IM W F bm m) :
    (Instr.lookup 144 (.map (some bm)) (.int .i64 k) false).run Tryz.prog W = .ok (.bool (F k)) W := by
  obtain ⟨D, hD, hW⟩ := h
  obtain ⟨es, clock, hb, F', _, rfl⟩ := hW
  have hF := (hD.2.2 k hk).1
  rcases Maps.fit_look false iKeyed Tryz.underlying144 (cZero W) hb F' (iKeyOf hk) with ⟨hrun, _, hat⟩ | ⟨e0, y, _, _, hrun, hRv, hat, _⟩
  · rw [hat] at hF
    simp only [DataW.lit.injEq, Lit.bool.injEq] at hF
    rw [hrun, ← hF]; rfl
  · rw [hat] at hF
    obtain ⟨x, hx, rfl⟩ := blR_inv hRv
    simp only [DataW.lit.injEq, Lit.bool.injEq] at hF
    rw [hrun, hx, hF]; rfl
theorem IM.len {F : Int → Bool} {W : World} {bm m : Nat} (h : IM W F bm m) (ty : TypeId) : (Builtin.len_ #[144] ty #[.map (some bm)]).run Tryz.prog W = .ok (.int .i64 (m : Int)) W := by
  obtain ⟨D, hD, hW⟩ := h
  rw [hW.len Tryz.underlying144 ty, hD.2.1]
def addI (F : Int → Bool) (k x : Int) : Bool := F x || decide (x = k)
theorem IM.put {F : Int → Bool} {k : Int} (hk : rng64 k) {w : World} {bm n : Nat} (h : IM w F bm n) (hF : F k = false) (hn : n < maxLen) :
    ∃ w', (Instr.mapUpdate 144 (.map (some bm)) (.int .i64 k) (.bool true)).run Tryz.prog w = .ok () w' ∧ IM w' (addI F k) bm (n + 1) ∧ w.grownBy w' (some bm) := by
  obtain ⟨D, ⟨h1, h3, h4⟩, h2⟩ := h
  obtain ⟨w', hrun, r1, r2⟩ := h2.update iKeyed Tryz.underlying144 hn (iKeyOf hk) (val := .bool true) (d := .lit (.bool true)) (ps := []) rfl
  refine ⟨w', hrun, ⟨_, ⟨h1.put (iKeyed.key (iKeyOf hk)) _, ?_, fun x hx => ?_⟩, r1⟩, r2⟩
  · rw [size_put h1, (h4 k hk).2, hF, h3]; rfl
  · unfold addI
    by_cases e : x = k
    · subst e
      rw [atKey_put_same h1.isMap (iKeyed.key (iKeyOf hx)), has_put_same h1.isMap (iKeyed.key (iKeyOf hx))]
      simp
    · have hne : (Lit.int .i64 x) ≠ .int .i64 k := fun h => e (by injection h)
      rw [atKey_put_other hne, has_put_other hne, decide_eq_false e, Bool.or_false]
      exact h4 x hx
theorem wpList_update_im {ops : Array Oper} {rest : List Oper} {o : Oper} {a : Act} {w : World} {Q : Exit → Act → World → Prop} (hg : o.guard = none) (x y v : Operand) (hop : o.op = Op.mapUpdate 144 x y v) {k : Int} (hk : rng64 k) (F : Int → Bool) (bm n : Nat) (hF : F k = false) (hn : n < maxLen)
    (hm : a.eval x = .map (some bm)) (hown : IM w F bm n) (hx : a.eval y = .int .i64 k) (hv : a.eval v = .bool true)
    (hK : ∀ w', IM w' (addI F k) bm (n + 1) → w.grownBy w' (some bm) → wpList Tryz.prog ops Q rest (a.put o.dst undef) w') : wpList Tryz.prog ops Q (o :: rest) a w := by
  refine wpList_plain hg fun K' hK' => ?_
  obtain ⟨w', hrun, r1, r2⟩ := hown.put hk hF hn
  unfold Oper.wp
  simp [execOp, hop, hm, hx, hv, hrun, Result.andThen]
  exact hK' _ _ (hK w' r1 r2)
theorem wpList_len_im {ops : Array Oper} {rest : List Oper} {o : Oper} {a : Act} {w : World} {Q : Exit → Act → World → Prop} (hg : o.guard = none) (x : Operand) (hop : o.op = Op.call { callee := Callee.builtin Builtin.len, args := #[x], argTypes := #[144] }) (F : Int → Bool) (bm n : Nat)
    (hm : a.eval x = .map (some bm)) (hown : IM w F bm n) (hK : wpList Tryz.prog ops Q rest (a.put o.dst (.int .i64 (n : Int))) w) : wpList Tryz.prog ops Q (o :: rest) a w := by
  refine wpList_plain hg fun K' hK' => ?_
  unfold Oper.wp
  simp [execOp, hop, resolve, invoke, builtin, hm, hown.len o.type, Result.andThen]
  exact hK' _ _ hK
end Go.Proofs.YtgbdbikjckfgmaaGreat
namespace Go.Proofs.YtgbdbikjckfgmaaGreat
open Go.RowKit Go.Shelf Go.Maps
/-- The numbers that the first links have. -/
def inF (z : Nat → Int) (n : Nat) (x : Int) : Bool := !allB (fun j => !(decide (z j ≠ -1) && decide (x = z j))) n
theorem inF_yes {z : Nat → Int} {k : Nat} (h : z k ≠ -1) : inF z (k + 1) = addI (inF z k) (z k) := by
  funext x
  unfold inF addI
  rw [allB_succ, Bool.not_and, Bool.not_not, decide_eq_true h, Bool.true_and]
theorem inF_no {z : Nat → Int} {k : Nat} (h : z k = -1) : inF z (k + 1) = inF z k := by
  funext x
  unfold inF
  rw [allB_succ, Bool.not_and, Bool.not_not, h]; simp
theorem inF_at {z : Nat → Int} {k : Nat} (h : z k ≠ -1) : inF z k (z k) = !allB (fun j => !(z j == z k)) k := by
  unfold inF
  congr 2
  funext j
  congr 1
  rw [Bool.eq_iff_iff]
  simp only [Bool.and_eq_true, decide_eq_true_eq, beq_iff_eq]
  constructor
  · exact fun q => q.2.symm
  · exact fun q => ⟨by rw [q]; exact h, q.symm⟩
theorem Fl.rowM_eq (f : Fl) {z : Nat → Int} {k : Nat} (h : z k ≠ -1) : f.rowM z k = (hasN (nz (f.P k)) (f.P k).length (z k) && !inF z k (z k)) := by
  rw [inF_at h, Bool.not_not]
  unfold Fl.rowM
  by_cases h0 : 0 ≤ z k
  · rw [f.hasP k h0, decide_eq_true h0, Bool.true_and]
  · rw [f.hasP_neg k (by omega), decide_eq_false h0]; rfl
set_option maxRecDepth 100000 in
set_option maxHeartbeats 16000000 in
theorem provM_ok (x : FV) (f : Fl) (a : Option Addr) (n c : Nat) (z : Nat → Int) (many : Int) (w : World) (h : FlQ QP w x f) (hf : f.fault = 0) (hl : IntsIn w (.slice a n c) n z) (hr : ∀ j, j < n → rng64 (z j)) (hn : n ≤ 100000) :
    Calls Tryz.prog 48 #[.agg #[.slice x.oa f.no x.oc, .slice x.na f.nw x.nc, .slice x.ma f.nm x.mc], .slice a n c, .int .i64 many] w fun e w' => e = .returned (.bool (f.isM n z && decide (many ≤ (cntM z n : Int)))) ∧ Below w.heap.size w w' := by
  have OK := Lib.hid (Fl.ok hf)
  have HA0 := Lib.hid ((BF.base w).alloc #[.slice x.oa f.no x.oc, .slice x.na f.nw x.nc, .slice x.ma f.nm x.mc] 33)
  have HC := Lib.hid (work_ok x f _ (h.below QP.k HA0.out.fr) hf)
  have hno := OK.out.no
  have hnw := OK.out.nw
  have HL := Lib.hid hl
  have HRG := Lib.hid hr
  have HPL := Lib.hid (fun i => f.P_len i)
  have HMN := Lib.hid (fun i hi h1 h2 => Fl.isM_no (f := f) (n := n) (z := z) (i := i) hi h1 h2)
  have HMY : Hid (n = f.no → (∀ i, i < n → z i ≠ -1 → f.rowM z i = true) → f.isM n z = true) := fun h1 h2 => Fl.isM_yes h1 h2
  have HM0 : Hid (n ≠ f.no → f.isM n z = false) := fun h => by unfold Fl.isM; rw [decide_eq_false h]; rfl
  have HRE := Lib.hid (fun k hk => f.rowM_eq (z := z) (k := k) hk)
  have HWK : Hid (∀ B W, WkF W B f → ∃ xv, WkAt W B xv f.no f.nw f.P) := fun B W h => h
  clear h hf hl hr OK
  obtain ⟨rb, hrb⟩ : ∃ rb, f.isM n z = rb := ⟨_, rfl⟩
  rw [hrb] at HMN HMY HM0 ⊢
  clear hrb
  generalize f.rowM z = rowM at *
  generalize f.no = no at *
  generalize f.nw = nw at *
  generalize f.nm = nm at *
  go_enter Tryz.func48, Tryz.ntmps48
  go_wp2_with fail
  refine HC.out.mono ?_
  rintro _ w1 ⟨B, rfl, hwk, hb⟩
  have HW := Lib.hid hwk
  have HA1 := Lib.hid (HA0.out.below hb)
  clear hb hwk HC HA0
  have c0 := HA1.out.cell (.head _) 0
  by_cases h0 : n = no
  case neg =>
    have hr := HM0.out h0
    subst hr
    have k0 : ((n : Int) != (no : Int)) = true := by simp; omega
    go_wp2_with fail
    go_ret
    exact ⟨rfl, HA1.out.fr⟩
  subst h0
  have k0 : ((n : Int) != (n : Int)) = false := by simp
  have HMY2 := Lib.hid (HMY.out rfl)
  clear HMY HM0
  have HIM0 : Hid (IM (w1.alloc (.map #[] 0)) (inF z 0) w1.heap.size 0) := IM.made w1
  have HB0 : Hid (Below w1.heap.size w1 (w1.alloc (.map #[] 0))) := below_alloc w1 _
  have hmm := @run_makeMap Tryz.prog
  go_wp2_with fail
  clear hmm
  generalize w1.alloc (.map #[] 0) = ws at *
  obtain ⟨bm, hbm⟩ : ∃ b, w1.heap.size = b := ⟨_, rfl⟩
  have HBM : Hid (w1.heap.size ≤ bm) := Nat.le_of_eq hbm
  rw [hbm] at HIM0 ⊢
  clear hbm c0
  go_loopw [30] (fun v wr => ∃ k : Nat, v = .int .i64 (k : Int) ∧ k ≤ n ∧ (∀ j, j < k → z j ≠ -1 → rowM j = true) ∧ IM wr (inF z k) bm (cntM z k) ∧ Below w1.heap.size w1 wr) (fun v _ => n - (intOf v).toNat)
  case atStart => exact ⟨0, rfl, Nat.zero_le _, fun j hj => absurd hj (Nat.not_lt_zero j), HIM0.out, HB0.out⟩
  case round =>
    clear HIM0 HB0
    obtain ⟨k, rfl, hk, hall, him, hbl⟩ := hrel
    rename World => wx
    have HIM := Lib.hid him
    have HALL := Lib.hid hall
    have HB := Lib.hid hbl
    clear him hall hbl
    by_cases hlt : k < n
    · obtain ⟨lb, lo, rfl, hlb, hzi⟩ := (HL.out.below (HA1.out.fr.trans (HB.out.mono HA1.out.fr.size))).at hlt
      obtain ⟨xv, hwk⟩ := HWK.out B _ (HW.out.below HB.out)
      have k4 := hwk.c4
      have hBl := hwk.lt
      obtain ⟨rb', ro, ra, rc, hpa, hrb', hrc, hri⟩ := hwk.rows.at hlt
      rw [hpa] at k4
      have hm : (f.P k).length ≤ 8 := by have := HPL.out k; omega
      have HCN := Lib.hid (containsI_any _ _ _ _ (z k) wx (by omega) hri)
      have hlk := HIM.out.look (HRG.out k hlt)
      have HCS := Lib.hid (cntM_succ z k)
      have hcl := cntM_le z k
      have HRK := Lib.hid (HRE.out k)
      have HMK := Lib.hid (HMN.out k hlt)
      have HFY := Lib.hid (fun h => inF_yes (z := z) (k := k) h)
      have HFN := Lib.hid (fun h => inF_no (z := z) (k := k) h)
      have HRZ := Lib.hid (HRG.out k hlt)
      obtain ⟨m2, hm2⟩ : ∃ m2, cntM z (k + 1) = m2 := ⟨_, rfl⟩
      rw [hm2] at HCS
      have HM2 := Lib.hid hm2
      clear hm2
      obtain ⟨rk, hrk⟩ : ∃ rk, rowM k = rk := ⟨_, rfl⟩
      have HNX : Hid (z k = -1 ∨ rk = true → ∀ j, j < k + 1 → z j ≠ -1 → rowM j = true) := fun h j hj hz => by
        rcases Nat.lt_succ_iff_lt_or_eq.1 hj with hj | rfl
        · exact HALL.out j hj hz
        · rcases h with h | h
          · exact absurd h hz
          · rw [hrk]; exact h
      rw [hrk] at HRK HMK
      clear hrk HALL hri hwk hpa
      obtain ⟨F1, hF1⟩ : ∃ F1, inF z (k + 1) = F1 := ⟨_, rfl⟩
      have HF1 := Lib.hid hF1
      rw [hF1] at HFY HFN
      clear hF1
      obtain ⟨lk, hlk2⟩ : ∃ lk, inF z k (z k) = lk := ⟨_, rfl⟩
      have HLK := Lib.hid hlk2
      rw [hlk2] at hlk HRK
      clear hlk2
      generalize inF z k = F0 at *
      generalize cntM z k = m1 at *
      generalize hasN (nz (f.P k)) (f.P k).length (z k) = ct at *
      obtain ⟨zi, hzk⟩ : ∃ zi, z k = zi := ⟨_, rfl⟩
      rw [hzk] at hzi HCN hlk HCS HRK HMK HFY HFN HRZ HNX HLK
      clear hzk
      have ki : (0 : Int) ≤ (k : Int) := by omega
      have kj : (k : Int) < (n : Int) := by omega
      by_cases hm1 : zi = -1
      · have kz : (zi == -1) = true := by simp [hm1]
        have HE : Hid (m2 = m1) := by unfold Hid; rw [HCS.out, if_pos hm1]
        have HF : Hid (F1 = F0) := HFN.out hm1
        have HN2 := Lib.hid (HNX.out (.inl hm1))
        clear HCS HRK HMK HFY HFN HNX HCN hlk HLK hm1
        go_wp2_with fail
        go_roundw
        case rel => exact ⟨k + 1, by go_num, by omega, HN2.out, by rw [HM2.out, HE.out, HF1.out, HF.out]; exact HIM.out, HB.out⟩
        case measure => simp [intOf]; omega
      · have kz : (zi == -1) = false := by simp [hm1]
        have HE : Hid (m2 = m1 + 1) := by unfold Hid; rw [HCS.out, if_neg hm1]
        have HF : Hid (F1 = addI F0 zi) := HFY.out hm1
        have HR := Lib.hid (HRK.out hm1)
        have HMI := Lib.hid (HMK.out hm1)
        have HN2 : Hid (rk = true → ∀ j, j < k + 1 → z j ≠ -1 → rowM j = true) := fun h => HNX.out (.inr h)
        clear HCS HRK HMK HFY HFN HNX hm1
        cases lk
        case true =>
          have hr : rk = false := by rw [HR.out]; simp
          have hrb := HMI.out hr
          subst hrb
          clear HR HMI HN2 hr
          go_wp2_with fail
          go_ret
          exact ⟨rfl, HA1.out.fr.trans (HB.out.mono HA1.out.fr.size)⟩
        case false =>
          have HR2 : Hid (rk = ct) := by unfold Hid; rw [HR.out]; simp
          clear HR
          go_wp2_with fail
          refine HCN.out.mono ?_
          rintro _ w4 ⟨rfl, he⟩
          have HB4 : Hid (Below w1.heap.size w1 w4) := by unfold Hid; rw [← he]; exact HB.out
          have HIM4 : Hid (IM w4 F0 bm m1) := by unfold Hid; rw [← he]; exact HIM.out
          clear he HB HIM HCN hlk k4 hzi hrc
          cases ct
          · have hrb := HMI.out HR2.out
            subst hrb
            clear HMI HN2 HR2
            go_wp2_with fail
            go_ret
            exact ⟨rfl, HA1.out.fr.trans (HB4.out.mono HA1.out.fr.size)⟩
          · have HN3 := Lib.hid (HN2.out HR2.out)
            clear HMI HN2 HR2
            go_wp2_with (refine wpList_update_im rfl (.tmp 52) (.tmp 53) (.const (.bool true)) rfl HRZ.out F0 bm m1 HLK.out (by unfold maxLen; omega) rfl HIM4.out rfl rfl ?_)
            intro w5 him5 hgr
            have HIM5 := Lib.hid him5
            have HB5 := Lib.hid (HB4.out.trans ((Fr.grown hgr).low HB4.out.size (fun q hq e => by cases e; have := HBM.out; omega)))
            clear him5 hgr
            go_wp2_with fail
            go_roundw
            case rel => exact ⟨k + 1, by go_num, by omega, HN3.out, by rw [HM2.out, HE.out, HF1.out, HF.out]; exact HIM5.out, HB5.out⟩
            case measure => simp [intOf]; omega
    · obtain rfl : n = k := by omega
      have hrb := HMY2.out HALL.out
      subst hrb
      clear HMY2 HALL
      go_wp2_with (refine wpList_len_im rfl (.tmp 55) rfl _ bm _ rfl HIM.out ?_)
      go_ret
      exact ⟨ret_bool (by rw [Bool.true_and]), HA1.out.fr.trans (HB.out.mono HA1.out.fr.size)⟩
end Go.Proofs.YtgbdbikjckfgmaaGreat
namespace Go.Proofs.YtgbdbikjckfgmaaGreat
open Go.RowKit Go.Shelf
theorem rng64_small {x : Int} (h1 : -1000000 ≤ x) (h2 : x ≤ 1000000) : rng64 x := by
  unfold rng64
  simp [Lit.wf, IntKind.min, IntKind.max, IntKind.signed, IntKind.bits]
  omega
theorem IntsIn.ofRow {W : World} {base : Nat} {T : TypeId} {v : Value} {n : Nat} {z : Nat → Int} (h : W.ownsRow base T 1 v n (iL z n)) : IntsIn W v n z := by
  obtain ⟨a, c, rfl⟩ := own_slice' h
  rcases Nat.eq_zero_or_pos n with rfl | hn
  · exact .inl ⟨a, c, rfl, rfl⟩
  · obtain ⟨g, rfl⟩ := own_somep h hn
    refine .inr ⟨g, 0, c, rfl, own_lt h rfl, fun j hj => ?_⟩
    have e1 := h.cells (g := g) rfl _ _ (iL_get z hj)
    rw [addr_add] at e1
    exact e1
/-- A copy of a list. -/
theorem listW (a : Option Addr) (n c : Nat) (z : Nat → Int) (w : World) (hn : n ≤ 100000) (h : IntsIn w (.slice a n c) n z) : ∀ X, Below w.heap.size w X → Calls Tryz.prog 49 #[.slice a n c] X fun e w' => ∃ b d, e = .returned (.slice b n d) ∧ IntsIn w' (.slice b n d) n z ∧ Below X.heap.size X w' := fun X hX =>
  (listC_any a n c z X hn (h.below hX)).mono fun _ _ ⟨b, d, e1, how, hb⟩ => ⟨b, d, e1, IntsIn.ofRow how, hb⟩
end Go.Proofs.YtgbdbikjckfgmaaGreat
namespace Go.Proofs.YtgbdbikjckfgmaaGreat
open Go.RowKit
theorem wrt_bd (f b m k : Int) (hb : 1 ≤ b) (hb2 : b ≤ 12) (hk : 0 ≤ k) (hk2 : k ≤ 800) : 0 ≤ wrt f b m k ∧ wrt f b m k ≤ k + 6 := by
  have h1 := Int.emod_nonneg k (by omega : b ≠ 0)
  have h2 := Int.emod_nonneg (k + b / 2) (by omega : b ≠ 0)
  have h3 := Int.mul_ediv_add_emod k b
  have h4 := Int.mul_ediv_add_emod (k + b / 2) b
  have h5 : 0 ≤ b * (k / b) := Int.mul_nonneg (by omega) (Int.ediv_nonneg hk (by omega))
  have h6 : 0 ≤ b * ((k + b / 2) / b) := Int.mul_nonneg (by omega) (Int.ediv_nonneg (by omega) (by omega))
  unfold wrt
  split
  · omega
  · split <;> omega
end Go.Proofs.YtgbdbikjckfgmaaGreat
namespace Go.Proofs.YtgbdbikjckfgmaaGreat
open Go.RowKit Go.Shelf
theorem flatC_one (l : List Rc) : ∀ u ∈ flatC l, u.oneCell' = true := by
  intro u hu
  simp only [flatC, List.mem_flatMap] at hu
  obtain ⟨c, _, hc⟩ := hu
  simp at hc
  rcases hc with rfl | rfl | rfl <;> rfl
end Go.Proofs.YtgbdbikjckfgmaaGreat
namespace Go.Proofs.YtgbdbikjckfgmaaGreat
open Go.RowKit Go.Shelf
/-- A row of the reference's records of one's own. -/
def CR (W : World) (base : Nat) (v : Value) (l : List Rc) : Prop := W.ownsRow base 140 3 v l.length (flatC l)
theorem CR.in {W : World} {base : Nat} {v : Value} {l : List Rc} (h : CR W base v l) : RcsIn W v l.length (fun j => l.getD j ⟨0, 0, 0⟩) := by
  have h0 := h
  rcases h.2 with ⟨rfl, hl⟩ | ⟨g, cap, cur, rfl, _, hc, _⟩
  · rw [hl]; exact .inl ⟨_, _, rfl, rfl⟩
  · refine .inr ⟨g, 0, cap, rfl, (Array.getElem?_eq_some_iff.1 hc).1, fun j hj => ?_⟩
    have hf := flatC_get l j hj
    have hl := flatC_length l
    unfold CR at h0
    simp only [Nat.zero_add, show l.getD j ⟨0, 0, 0⟩ = l[j] from by simp [hj]]
    rw [h0.cellAt _ (by omega), h0.cellAt _ (by omega), h0.cellAt _ (by omega)]
    exact hf
theorem Tryz.infoRec : (Tryz.prog.info? 140).map (fun i => (i.zero, i.size, i.bytes)) = some (some (.agg #[.int .i64 0, .int .i64 0, .int .i64 0]), 3, 24) := by kernel_rfl
end Go.Proofs.YtgbdbikjckfgmaaGreat
namespace Go.Proofs.YtgbdbikjckfgmaaGreat
open Go.RowKit Go.Shelf
/-- The three blocks that AgeMore lays first. -/
def MB (w : World) (o0 o1 o2 : Obj) (X : World) : Prop :=
  X.heap[w.heap.size]? = some o0 ∧ X.heap[w.heap.size + 1]? = some o1 ∧ X.heap[w.heap.size + 2]? = some o2 ∧ Below w.heap.size w X
theorem MB.fr {w : World} {o0 o1 o2 : Obj} {ex : Nat → Prop} {W W' : World} (h : MB w o0 o1 o2 W) (hf : Fr ex W W') (hx : ∀ q, ex q → w.heap.size + 3 ≤ q) : MB w o0 o1 o2 W' := by
  obtain ⟨h0, h1, h2, h3⟩ := h
  have go : ∀ (q : Nat) (o : Obj), q < w.heap.size + 3 → W.heap[q]? = some o → W'.heap[q]? = some o := fun q o hq ho => (hf.block _ (Array.getElem?_eq_some_iff.1 ho).1 (fun e => by have := hx q e; omega)).trans ho
  exact ⟨go _ _ (by omega) h0, go _ _ (by omega) h1, go _ _ (by omega) h2, h3.trans (hf.low h3.size (fun q hq e => by have := hx q e; omega))⟩
theorem MB.low {w : World} {o0 o1 o2 : Obj} {W : World} (h : MB w o0 o1 o2 W) : w.heap.size + 3 ≤ W.heap.size := by
  have := (Array.getElem?_eq_some_iff.1 h.2.2.1).1; omega
theorem MB.low3 {w : World} {o0 o1 o2 : Obj} {W : World} (h : MB w o0 o1 o2 W) : w.heap.size + 3 ≤ W.heap.size := h.low
theorem MB.set {w : World} {o0 o1 : Obj} {a b c d : Value} {t : TypeId} {W : World} (h : MB w o0 o1 (.cells #[a, b, c, d] t (0, 0)) W) (v : Value) : MB w o0 o1 (.cells #[a, b, c, v] t (0, 0)) (W.setCell ⟨w.heap.size + 1 + 1, 3, none⟩ v) := by
  obtain ⟨h0, h1, h2, h3⟩ := h
  have hf := Fr.set W (w.heap.size + 1 + 1) 3 v
  have l2 := (Array.getElem?_eq_some_iff.1 h2).1
  refine ⟨(hf.block _ (by omega) (by omega)).trans h0, (hf.block _ (by omega) (by omega)).trans h1, ?_, h3.trans (hf.low h3.size (fun q hq e => by omega))⟩
  show (W.setCell ⟨w.heap.size + 2, 3, none⟩ v).heap[w.heap.size + 2]? = _
  simp [World.setCell, Array.getElem?_modify, h2]
theorem MB.c23 {w : World} {o0 o1 : Obj} {a b c d : Value} {t : TypeId} {W : World} (h : MB w o0 o1 (.cells #[a, b, c, d] t (0, 0)) W) : W.cell? ⟨w.heap.size + 1 + 1, 3, none⟩ = some d := cell_of_row _ _ 3 _ _ _ h.2.2.1
theorem MB.f23 {w : World} {o0 o1 : Obj} {a b c d : Value} {t : TypeId} {W : World} (h : MB w o0 o1 (.cells #[a, b, c, d] t (0, 0)) W) : W.frozen? ⟨w.heap.size + 1 + 1, 3, none⟩ = false := frozen_of_row _ _ 3 _ _ h.2.2.1
theorem flatC_append (a b : List Rc) : flatC (a ++ b) = flatC a ++ flatC b := by simp [flatC]
theorem MB.cells {w : World} {a0 b0 c0 d0 a b c d : Value} {t0 t : TypeId} {o1 : Obj} {W : World} (h : MB w (.cells #[a0, b0, c0, d0] t0 (0, 0)) o1 (.cells #[a, b, c, d] t (0, 0)) W) :
    W.cell? ⟨w.heap.size, 0, none⟩ = some a0 ∧ W.cell? ⟨w.heap.size, 1, none⟩ = some b0 ∧ W.cell? ⟨w.heap.size, 2, none⟩ = some c0 ∧ W.cell? ⟨w.heap.size, 3, none⟩ = some d0 ∧
    W.cell? ⟨w.heap.size + 1 + 1, 0, none⟩ = some a ∧ W.cell? ⟨w.heap.size + 1 + 1, 1, none⟩ = some b ∧ W.cell? ⟨w.heap.size + 1 + 1, 2, none⟩ = some c ∧ W.cell? ⟨w.heap.size + 1 + 1, 3, none⟩ = some d :=
  ⟨cell_of_row _ _ 0 _ _ _ h.1, cell_of_row _ _ 1 _ _ _ h.1, cell_of_row _ _ 2 _ _ _ h.1, cell_of_row _ _ 3 _ _ _ h.1, cell_of_row _ _ 0 _ _ _ h.2.2.1, cell_of_row _ _ 1 _ _ _ h.2.2.1, cell_of_row _ _ 2 _ _ _ h.2.2.1, cell_of_row _ _ 3 _ _ _ h.2.2.1⟩
theorem MB.below {w : World} {o0 o1 o2 : Obj} {W W' : World} (h : MB w o0 o1 o2 W) (hb : Below W.heap.size W W') : MB w o0 o1 o2 W' := h.fr (Fr.below hb (fun _ => False)) (fun _ (e : False) => e.elim)
end Go.Proofs.YtgbdbikjckfgmaaGreat
namespace Go.Proofs.YtgbdbikjckfgmaaGreat
open Go.RowKit Go.Shelf
def Pers.okRc (p : Pers) (b : Int) (r : Rc) : Bool := decide (b ≤ r.day) && decide ((r.day - b) / 365 ≤ 120) && agesF (p.R r.rule.toNat).f (p.R r.rule.toNat).b (p.R r.rule.toNat).m (p.R r.rule.toNat).e r.num 126 ((r.day - b) / 365).toNat
end Go.Proofs.YtgbdbikjckfgmaaGreat
namespace Go.Proofs.YtgbdbikjckfgmaaGreat
open Go.RowKit Go.Shelf
/-- While a person is built in the third block of a call: its records v so far. -/
def WI (w : World) (o0 o1 : Obj) (a b c : Value) (v : Value) (l : List Rc) (W : World) : Prop :=
  MB w o0 o1 (.cells #[a, b, c, v] 75 (0, 0)) W ∧ W.ownsRow (w.heap.size + 3) 140 3 v l.length (flatC l)
theorem WI.below {w : World} {o0 o1 : Obj} {a b c v : Value} {l : List Rc} {W W' : World} (h : WI w o0 o1 a b c v l W) (hb : Below W.heap.size W W') : WI w o0 o1 a b c v l W' :=
  ⟨h.1.below hb, own_fr h.2 (Fr.below hb (fun _ => False)) (fun _ _ _ _ _ e => e)⟩
end Go.Proofs.YtgbdbikjckfgmaaGreat
namespace Go.Proofs.YtgbdbikjckfgmaaGreat
open Go.RowKit Go.Shelf
/-- What is known of the person that Truly makes. -/
def Pers.TrueOf (x p : Pers) (birth : Int) : Prop := x.fault = 0 ∧ p.lo ≤ birth ∧ birth ≤ p.hi ∧ hasR x.born birth = true
theorem true_of {x p : Pers} {birth : Int} (hp : p.fault = 0) (h1 : x.lo = p.lo) (h2 : x.hi = p.hi) (h3 : x.nr = p.nr) (h4 : x.R = p.R) (h5 : x.nc ≤ p.nc) (hb : p.lo ≤ birth ∧ birth ≤ p.hi)
    (hc : ∀ j, j < x.nc → (x.C j).ok p.nr = true ∧ x.okB j birth = true) : x.TrueOf p birth := by
  obtain ⟨n4, n8, n0, l1, l2, l3, l4, l5, okR, okC⟩ := Pers.ok_facts hp
  have hf : x.fault = 0 := by
    unfold Pers.fault errOf
    rw [if_neg (by omega), if_pos]
    simp only [Pers.okAll, allB, inB, Bool.and_eq_true, List.all_eq_true, List.mem_range, decide_eq_true_eq, Bool.not_eq_true', beq_eq_false_iff_ne]
    rw [h1, h2, h3, h4]
    exact ⟨⟨⟨⟨⟨⟨l1, l2⟩, l3, l4⟩, l5⟩, by omega⟩, okR⟩, fun j hj => (hc j hj).1⟩
  exact ⟨hf, hb.1, hb.2, ((born_has hf).2 birth).2 ⟨by omega, by omega, fun j hj => (hc j hj).2⟩⟩
end Go.Proofs.YtgbdbikjckfgmaaGreat
namespace Go.Proofs.YtgbdbikjckfgmaaGreat
open Go.RowKit Go.Shelf
/-- What a slice of words of the caller's reads as. -/
def WordsIn (w : World) (sv : Value) (n : Nat) (z : Nat → Int) : Prop :=
  (∃ a cap, sv = .slice a 0 cap ∧ n = 0) ∨ ∃ b off cap, sv = .slice (some ⟨b, off, none⟩) n cap ∧ b < w.heap.size ∧ ∀ j, j < n → w.cell? ⟨b, off + j, none⟩ = some (.int .u16 (z j)) ∧ 0 ≤ z j ∧ z j ≤ 65535
theorem WordsIn.len {w : World} {sv : Value} {n : Nat} {z : Nat → Int} (h : WordsIn w sv n z) : ∃ a cap, sv = .slice a n cap := by
  rcases h with ⟨a, cap, rfl, rfl⟩ | ⟨b, off, cap, rfl, _⟩
  · exact ⟨_, _, rfl⟩
  · exact ⟨_, _, rfl⟩
theorem WordsIn.below {w w' : World} {sv : Value} {n : Nat} {z : Nat → Int} (h : WordsIn w sv n z) (hB : Below w.heap.size w w') : WordsIn w' sv n z := by
  rcases h with h | ⟨b, off, cap, rfl, hb, hz⟩
  · exact .inl h
  · exact .inr ⟨b, off, cap, rfl, Nat.lt_of_lt_of_le hb hB.size, fun j hj => ⟨kept hB hb (hz j hj).1, (hz j hj).2⟩⟩
set_option maxRecDepth 100000 in
theorem open_wordsIn {H : Type} {enc : TypeId × Value → H} {W : World} {base : Nat} {v : Value} {d : DataW H} {p : List MemPlace} (hv : Value.okWide Tryz.prog W .any base 82 v) (h : DataW.Trod enc Tryz.prog W 0 (fun _ => true) true 82 v d p) :
    ∃ n z, WordsIn W v n z ∧ n ≤ maxLen := by
  obtain ⟨a0, len, cap, rfl⟩ := Go.WideShapes.okWide_slice Tryz.underlying82 hv
  obtain ⟨fuel, hf⟩ := h
  rcases Go.ChangeShapes.open_ints Tryz.underlying82 Tryz.underlying83 (by kernel_rfl) hf with ⟨hcs, hx⟩ | ⟨a, len', cap', zs, hcs, _, hl, hm, hz, hx, hcell, hwz⟩
  · simp [Value.cells] at hcs
    obtain ⟨rfl, rfl, rfl⟩ := hcs
    exact ⟨0, fun _ => 0, .inl ⟨_, _, rfl, rfl⟩, Nat.zero_le _⟩
  · simp [Value.cells] at hcs
    obtain ⟨rfl, rfl, rfl⟩ := hcs
    simp only [if_true] at hz
    rcases Nat.eq_zero_or_pos len with rfl | hpos
    · exact ⟨0, fun _ => 0, .inl ⟨_, cap, rfl, rfl⟩, Nat.zero_le _⟩
    · obtain ⟨b, off, rfl, hc⟩ := ints_at hcell (by omega)
      have hbs : b < W.heap.size := World.block_lt_of_cell? W ⟨b, off + 0, none⟩ (hc 0 (by omega))
      refine ⟨len, fun j => zs.getD j 0, .inr ⟨b, off, cap, rfl, hbs, fun j hj => ⟨hc j (by omega), ?_⟩⟩, by omega⟩
      have := hwz (zs.getD j 0) (by
        have e : zs.getD j 0 = zs[j]'(by omega) := by simp [show j < zs.length by omega]
        rw [e]; exact List.getElem_mem _)
      exact bounds_u16 this
/-- One of some words. -/
def wordF (n : Nat) (z : Nat → Int) (i : Int) : Int := if n = 0 then 0 else z (i % (n : Int)).toNat
theorem wordF_bd {w : World} {v : Value} {n : Nat} {z : Nat → Int} (h : WordsIn w v n z) (i : Int) : 0 ≤ wordF n z i ∧ wordF n z i ≤ 65535 := by
  unfold wordF
  split
  · omega
  · rename_i h0
    have h1 := Int.emod_nonneg i (show (n : Int) ≠ 0 by omega)
    have h2 := Int.emod_lt_of_pos i (show (0 : Int) < (n : Int) by omega)
    rcases h with ⟨_, _, _, h⟩ | ⟨_, _, _, _, _, hz⟩
    · omega
    · exact (hz _ (by omega)).2
set_option maxHeartbeats 1000000 in
theorem word_any (v : Value) (n : Nat) (z : Nat → Int) (i : Int) (w : World) (h : WordsIn w v n z) (hn : n ≤ maxLen) (hi : 0 ≤ i) (hi2 : i ≤ 1000000000) :
    Calls Tryz.prog 82 #[v, .int .i64 i] w fun e w' => e = .returned (.int .i64 (wordF n z i)) ∧ w = w' := by
  unfold maxLen at hn
  obtain ⟨a, cap, rfl⟩ := h.len
  by_cases h0 : n = 0
  · have HW : Hid (wordF n z i = 0) := by unfold Hid wordF; rw [if_pos h0]
    subst h0
    clear h
    go_enter Tryz.func82, Tryz.ntmps82
    go_wp2
    go_ret
    exact ⟨ret_int HW.out.symm, rfl⟩
  · have hnz : ((n : Int) == 0) = false := beq_eq_false_iff_ne.2 (by omega)
    have hnm : ((n : Int) == -1) = false := beq_eq_false_iff_ne.2 (by omega)
    have h1 := Int.emod_nonneg i (show (n : Int) ≠ 0 by omega)
    have h2 := Int.emod_lt_of_pos i (show (0 : Int) < (n : Int) by omega)
    have HW : Hid (wordF n z i = z (i % (n : Int)).toNat) := by unfold Hid wordF; rw [if_neg h0]
    obtain ⟨q, hq, hqn⟩ : ∃ q : Nat, i % (n : Int) = (q : Int) ∧ q < n := ⟨(i % (n : Int)).toNat, by omega, by omega⟩
    rw [show (i % (n : Int)).toNat = q by omega] at HW
    rcases h with ⟨_, _, _, h⟩ | ⟨b, off, c, e, hb, hz⟩
    · omega
    · cases e
      obtain ⟨x0, x1, x2⟩ := hz q hqn
      generalize z q = x at *
      have ki : (0 : Int) ≤ (q : Int) := by omega
      have kj : (q : Int) < (n : Int) := by omega
      clear hz h0 h1 h2
      go_enter Tryz.func82, Tryz.ntmps82
      go_wp2
      go_ret
      exact ⟨ret_int HW.out.symm, rfl⟩
end Go.Proofs.YtgbdbikjckfgmaaGreat
namespace Go.Proofs.YtgbdbikjckfgmaaGreat
open Go.RowKit Go.Shelf
/-- Two blocks of a round. -/
def KB (RB UB : Nat) (o1 o2 : Obj) (X : World) : Prop := X.heap[RB]? = some o1 ∧ X.heap[UB]? = some o2
theorem KB.fr {RB UB : Nat} {o1 o2 : Obj} {ex : Nat → Prop} {X X' : World} (h : KB RB UB o1 o2 X) (hf : Fr ex X X') (h1 : ¬ ex RB) (h2 : ¬ ex UB) : KB RB UB o1 o2 X' :=
  ⟨(hf.block _ (Array.getElem?_eq_some_iff.1 h.1).1 h1).trans h.1, (hf.block _ (Array.getElem?_eq_some_iff.1 h.2).1 h2).trans h.2⟩
theorem KB.cells {RB UB : Nat} {a b c d e f g : Value} {t u : TypeId} {X : World} (h : KB RB UB (.cells #[a, b, c] t (0, 0)) (.cells #[d, e, f, g] u (0, 0)) X) :
    X.cell? ⟨RB, 0, none⟩ = some a ∧ X.cell? ⟨RB, 1, none⟩ = some b ∧ X.cell? ⟨UB, 0, none⟩ = some d ∧ X.cell? ⟨UB, 1, none⟩ = some e ∧ X.cell? ⟨UB, 2, none⟩ = some f ∧ X.cell? ⟨UB, 3, none⟩ = some g :=
  ⟨cell_of_row _ _ 0 _ _ _ h.1, cell_of_row _ _ 1 _ _ _ h.1, cell_of_row _ _ 0 _ _ _ h.2, cell_of_row _ _ 1 _ _ _ h.2, cell_of_row _ _ 2 _ _ _ h.2, cell_of_row _ _ 3 _ _ _ h.2⟩
/-- All records of l are right, and allow a day. -/
def Fine (p : Pers) (birth : Int) (l : List Rc) : Prop := ∀ r ∈ l, r.ok p.nr = true ∧ p.okRc birth r = true
/-- The person that Truly makes of the records l. -/
def trP (p : Pers) (l : List Rc) : Pers := ⟨p.lo, p.hi, p.nr, p.R, l.length, fun j => l.getD j ⟨0, 0, 0⟩⟩
theorem truly_person {p : Pers} {birth : Int} {l : List Rc} (hp : p.fault = 0) (hl : l.length ≤ p.nc) (hb : p.lo ≤ birth ∧ birth ≤ p.hi) (hf : Fine p birth l) :
    (trP p l).TrueOf p birth := true_of hp rfl rfl rfl rfl hl hb fun j hj => by
  have hj' : j < l.length := hj
  have := hf _ (List.getElem_mem hj')
  show (l.getD j ⟨0, 0, 0⟩).ok p.nr = true ∧ p.okRc birth (l.getD j ⟨0, 0, 0⟩) = true
  simpa [hj'] using this
/-- The day of birth that Truly chooses. -/
def bthW (p : Pers) (n : Nat) (z : Nat → Int) : Int := p.lo + (wordF n z 0 * 7 + wordF n z 1) % (p.hi - p.lo + 1)
/-- The record that a rule writes for a known age. -/
theorem fine_next {p : Pers} {birth day t : Int} {q : Nat} {l : List Rc} (hl : Fine p birth l) (hd : -50000 ≤ day ∧ day ≤ 50000) (hq : q < p.nr) (hR : okRule (p.R q).f (p.R q).b (p.R q).m (p.R q).e = true) (hb : birth ≤ day) (ha : (day - birth) / 365 ≤ 120) (ht : 0 ≤ t ∧ t ≤ 2 * (p.R q).e) :
    0 ≤ max 0 ((day - birth) / 365 + t - (p.R q).e) ∧ max 0 ((day - birth) / 365 + t - (p.R q).e) ≤ 125 ∧ Fine p birth (l ++ [⟨day, q, wrt (p.R q).f (p.R q).b (p.R q).m (max 0 ((day - birth) / 365 + t - (p.R q).e))⟩]) := by
  obtain ⟨g0, g1, g2, g3, g4, g5, g6, g7⟩ := okRule_bd hR
  have ha0 : 0 ≤ (day - birth) / 365 := Int.ediv_nonneg (by omega) (by omega)
  generalize hk : max 0 ((day - birth) / 365 + t - (p.R q).e) = kn
  have hk0 : 0 ≤ kn := by omega
  have hk1 : kn ≤ 125 := by omega
  have hw := wrt_bd (p.R q).f (p.R q).b (p.R q).m kn g2 g3 hk0 (by omega)
  refine ⟨hk0, hk1, fun r hr => ?_⟩
  rcases List.mem_append.1 hr with hr | hr
  · exact hl r hr
  · rw [List.mem_singleton] at hr
    subst hr
    constructor
    · simp only [Rc.ok, inB, Bool.and_eq_true, decide_eq_true_eq]
      omega
    · unfold Pers.okRc
      simp only [Int.toNat_natCast, Bool.and_eq_true, decide_eq_true_eq]
      refine ⟨⟨hb, ha⟩, (agesF_iff _ _ _ _ _ _ _).2 ⟨kn.toNat, by omega, ?_, by omega, by omega⟩⟩
      rw [Int.toNat_of_nonneg hk0]
end Go.Proofs.YtgbdbikjckfgmaaGreat
