/- Link: the chapter's file. Printed by gen_nn.py. | Link: the chapter's file. Printed by gen_no.py. | Link: the chapter's moves; values of its files. | Link: the calls that the law's awake makes. | Link: the law's awake. Printed by gen_nr.py. -/
import Derived.Test.YtgbdbikjckfgmaaGreatN0
namespace Go.Proofs.YtgbdbikjckfgmaaGreat
open Go.RowKit Go.Shelf

theorem Tryz.sizeLEntry : (Tryz.prog.info? 100).map (·.size) = some 7 := by kernel_rfl
def zL (l : List Int) (j : Nat) : Int := l.getD j 0
/-- An entry of the chapter. -/
def enT (sx pl lo hi : Int) (n : Nat) (z : Nat → Int) : En := ⟨⟨lo, hi, 1, fun _ => ⟨0, 1, 0, 0⟩, 0, fun _ => ⟨0, 0, 0⟩⟩, sx, n, z, pl⟩
set_option maxRecDepth 100000 in
set_option maxHeartbeats 4000000 in
theorem entry_any (sx pl lo hi : Int) (a : Option Addr) (n c : Nat) (w : World) :
    Calls Tryz.prog 84 #[.int .i64 sx, .int .i64 pl, .int .i64 lo, .int .i64 hi, .slice a n c] w fun e w' => ∃ g, e = .returned (.agg #[.int .i64 lo, .int .i64 hi, .slice (some ⟨g, 0, none⟩) 1 1, .slice none 0 0, .int .i64 sx, .slice a n c, .int .i64 pl]) ∧ w.heap.size < g ∧ w'.heap[g]? = some (.cells #[.int .i64 0, .int .i64 1, .int .i64 0, .int .i64 0] 156 (0, 0)) ∧ Below w.heap.size w w' := by
  have HA := Lib.hid (BF.made2 w #[.int .i64 0, .int .i64 0, .slice none 0 0, .slice none 0 0, .int .i64 0, .slice none 0 0, .int .i64 0] #[.int .i64 0, .int .i64 1, .int .i64 0, .int .i64 0] 100 156)
  have HRR := Lib.hid (HA.out.bk _ _ _ (.head _)).2
  have HSL : Hid ((Tryz.prog.info? 100).map (·.size) = some (#[.int .i64 lo, .int .i64 hi, .slice (some ⟨w.heap.size + 1, 0, none⟩) 1 1, .slice none 0 0, .int .i64 sx, .slice a n c, .int .i64 pl] : Array Value).size) := Tryz.sizeLEntry
  have HA3 := Lib.hid (HA.out.setR (.head _) #[.int .i64 lo, .int .i64 hi, .slice (some ⟨w.heap.size + 1, 0, none⟩) 1 1, .slice none 0 0, .int .i64 sx, .slice a n c, .int .i64 pl] (L' := [(w.heap.size + 1, #[.int .i64 0, .int .i64 1, .int .i64 0, .int .i64 0], 156)]) (List.forall_mem_cons.2 ⟨⟨show w.heap.size + 1 ≠ w.heap.size by omega, .tail _ (.head _)⟩, List.forall_mem_nil _⟩))
  have hrow := (HA3.out.bk w.heap.size _ _ (.head _)).2
  have HG := Lib.hid (HA3.out.bk _ _ _ (.tail _ (.head _))).2
  clear HA
  go_enter Tryz.func84, Tryz.ntmps84
  go_wp2_with (refine wpList_store_row (o := ⟨none, _, _, _, _, _⟩) rfl 100 (.tmp 10) (.tmp 20) rfl w.heap.size #[.int .i64 lo, .int .i64 hi, .slice (some ⟨w.heap.size + 1, 0, none⟩) 1 1, .slice none 0 0, .int .i64 sx, .slice a n c, .int .i64 pl] rfl rfl 100 #[.int .i64 0, .int .i64 0, .slice none 0 0, .slice none 0 0, .int .i64 0, .slice none 0 0, .int .i64 0] HRR.out HSL.out rfl (by simp [Value.oneCell']) ?_; generalize (((w.alloc (.cells #[.int .i64 0, .int .i64 0, .slice none 0 0, .slice none 0 0, .int .i64 0, .slice none 0 0, .int .i64 0] 100)).alloc (.cells #[.int .i64 0, .int .i64 1, .int .i64 0, .int .i64 0] 156)).setRow w.heap.size #[.int .i64 lo, .int .i64 hi, .slice (some ⟨w.heap.size + 1, 0, none⟩) 1 1, .slice none 0 0, .int .i64 sx, .slice a n c, .int .i64 pl]) = wz at *)
  exact bodyPost_ret (v := .agg #[.int .i64 lo, .int .i64 hi, .slice (some ⟨w.heap.size + 1, 0, none⟩) 1 1, .slice none 0 0, .int .i64 sx, .slice a n c, .int .i64 pl]) (results_cell_row rfl _ _ w.heap.size 100 #[.int .i64 lo, .int .i64 hi, .slice (some ⟨w.heap.size + 1, 0, none⟩) 1 1, .slice none 0 0, .int .i64 sx, .slice a n c, .int .i64 pl] (0, 0) _ rfl hrow Tryz.underlying100 rfl HSL.out) rfl ⟨_, rfl, Nat.lt_succ_self _, HG.out, HA3.out.fr⟩
theorem qp_of {W : World} {g : Nat} {a : Option Addr} {n c : Nat} {z : Nat → Int} {sx pl lo hi : Int} (h : W.heap[g]? = some (.cells #[.int .i64 0, .int .i64 1, .int .i64 0, .int .i64 0] 156 (0, 0))) (hz : IntsIn W (.slice a n c) n z) (hn : n ≤ 100) : QP W (.slice (some ⟨g, 0, none⟩) 1 1) (.slice none 0 0) (.slice a n c) (enT sx pl lo hi n z) :=
  ⟨.inr ⟨g, 0, 1, rfl, (Array.getElem?_eq_some_iff.1 h).1, fun j hj => by
    obtain rfl : j = 0 := by have h : j < 1 := hj; omega
    exact ⟨cell_of_row _ _ 0 _ _ _ h, cell_of_row _ _ 1 _ _ _ h, cell_of_row _ _ 2 _ _ _ h, cell_of_row _ _ 3 _ _ _ h⟩⟩, .inl ⟨rfl, rfl⟩, hz, by show (1 : Nat) ≤ 100000; omega, by show (0 : Nat) ≤ 100000; omega, by show n ≤ 100000; omega⟩
end Go.Proofs.YtgbdbikjckfgmaaGreat

namespace Go.Proofs.YtgbdbikjckfgmaaGreat
open Go.RowKit Go.Shelf

def tO (d : Int) (j : Nat) : En := if j = 0 then enT 0 1 0 1000 1 (zL [5]) else if j = 1 then enT 1 1 0 1000 2 (zL [7, 9]) else enT 0 2 d 2000 1 (zL [5])
def tN (j : Nat) : En := if j = 0 then enT 0 1 400 900 1 (zL [5]) else if j = 1 then enT 2 3 1000 1500 1 (zL [7]) else enT 0 2 100 600 2 (zL [5, 6])
def townsF (d : Int) (n : Nat) (mf mt : Nat → Int) : Fl := ⟨3, tO d, 3, tN, n, mf, mt⟩
theorem EsQ.three {W : World} {B : Nat} {E : Nat → En} {e0 e1 e2 : En} {V0 V1 V2 : Value × Value × Value} (hB : B < W.heap.size) (h0 : E 0 = e0) (h1 : E 1 = e1) (h2 : E 2 = e2) (h : ∀ i u, (e7 e0 V0 ++ e7 e1 V1 ++ e7 e2 V2)[i]? = some u → W.cell? ⟨B, i, none⟩ = some u)
    (q0 : QP W V0.1 V0.2.1 V0.2.2 e0) (q1 : QP W V1.1 V1.2.1 V1.2.2 e1) (q2 : QP W V2.1 V2.2.1 V2.2.2 e2) : EsQ QP W (.slice (some ⟨B, 0, none⟩) 3 3) 3 E := by
  subst h0 h1 h2
  refine .inr ⟨B, 0, 3, rfl, hB, fun j hj => ?_⟩
  rcases (show j = 0 ∨ j = 1 ∨ j = 2 by omega) with rfl | rfl | rfl
  · exact ⟨_, _, _, ⟨h 0 _ rfl, h 1 _ rfl, h 2 _ rfl, h 3 _ rfl, h 4 _ rfl, h 5 _ rfl, h 6 _ rfl⟩, q0⟩
  · exact ⟨_, _, _, ⟨h 7 _ rfl, h 8 _ rfl, h 9 _ rfl, h 10 _ rfl, h 11 _ rfl, h 12 _ rfl, h 13 _ rfl⟩, q1⟩
  · exact ⟨_, _, _, ⟨h 14 _ rfl, h 15 _ rfl, h 16 _ rfl, h 17 _ rfl, h 18 _ rfl, h 19 _ rfl, h 20 _ rfl⟩, q2⟩
theorem ints1_own {W : World} {b : Nat} {p : Int} (h : W.heap[b]? = some (.cells #[.int .i64 p] 3 (0, 0))) : IntsIn W (.slice (some ⟨b, 0, none⟩) 1 1) 1 (zL [p]) :=
  .inr ⟨b, 0, 1, rfl, (Array.getElem?_eq_some_iff.1 h).1, fun j hj => by
    obtain rfl : j = 0 := by omega
    exact cell_of_row _ _ 0 _ _ _ h⟩
theorem ints2_own {W : World} {b : Nat} {p q : Int} (h : W.heap[b]? = some (.cells #[.int .i64 p, .int .i64 q] 3 (0, 0))) : IntsIn W (.slice (some ⟨b, 0, none⟩) 2 2) 2 (zL [p, q]) :=
  .inr ⟨b, 0, 2, rfl, (Array.getElem?_eq_some_iff.1 h).1, fun j hj => by
    rcases (show j = 0 ∨ j = 1 by omega) with rfl | rfl
    · exact cell_of_row _ _ 0 _ _ _ h
    · exact cell_of_row _ _ 1 _ _ _ h⟩
set_option maxRecDepth 100000 in
set_option maxHeartbeats 8000000 in
theorem towns_any (d : Int) (a : Option Addr) (n c : Nat) (mf mt : Nat → Int) (w : World) (hm : RsIn w (.slice a n c) n mf mt) :
    Calls Tryz.prog 50 #[.int .i64 d, .slice a n c] w fun e w' => ∃ z : FV, e = .returned (.agg #[.slice z.oa 3 z.oc, .slice z.na 3 z.nc, .slice z.ma n z.mc]) ∧ FlQ QP w' z (townsF d n mf mt) ∧ Below w.heap.size w w' := by
  have HM := Lib.hid (fun X (hX : Below w.heap.size w X) => hm.below hX)
  clear hm
  have HA0 := Lib.hid ((BF.base w).alloc #[.slice none 0 0, .slice none 0 0, .slice none 0 0] 33)
  go_enter Tryz.func50, Tryz.ntmps50
  have hn0 := (HA0.out.lt (.head _)).2
  have HN0 := Lib.hid (HA0.out.alloc #[.int .i64 5] 3)
  rw [World.size_alloc] at HN0 hn0
  go_wp2_with fail
  refine (entry_any 0 1 0 1000 (some ⟨w.heap.size + 1, 0, none⟩) 1 1 _).mono ?_
  rintro _ w1 ⟨g0, rfl, hl, hg, hb⟩
  have hg0 : w.heap.size < g0 := Nat.lt_of_le_of_lt HN0.out.fr.size hl
  have HA1 := Lib.hid ((HN0.out.below hb).add (Nat.le_of_lt hg0) hg)
  clear hl hg hb HN0 HA0
  generalize w.heap.size + 1 = n0 at *
  have hn1 := (HA1.out.lt (.tail _ (.tail _ (.head _)))).2
  have HN1 := Lib.hid (HA1.out.alloc #[.int .i64 7, .int .i64 9] 3)
  go_wp2_with fail
  refine (entry_any 1 1 0 1000 (some ⟨w1.heap.size, 0, none⟩) 2 2 _).mono ?_
  rintro _ w2 ⟨g1, rfl, hl, hg, hb⟩
  have hg1 : w.heap.size < g1 := Nat.lt_of_le_of_lt HN1.out.fr.size hl
  have HA2 := Lib.hid ((HN1.out.below hb).add (Nat.le_of_lt hg1) hg)
  clear hl hg hb HN1 HA1
  generalize w1.heap.size = n1 at *
  have hn2 := (HA2.out.lt (.tail _ (.tail _ (.tail _ (.tail _ (.head _)))))).2
  have HN2 := Lib.hid (HA2.out.alloc #[.int .i64 5] 3)
  go_wp2_with fail
  refine (entry_any 0 2 d 2000 (some ⟨w2.heap.size, 0, none⟩) 1 1 _).mono ?_
  rintro _ w3 ⟨g2, rfl, hl, hg, hb⟩
  have hg2 : w.heap.size < g2 := Nat.lt_of_le_of_lt HN2.out.fr.size hl
  have HA3 := Lib.hid ((HN2.out.below hb).add (Nat.le_of_lt hg2) hg)
  clear hl hg hb HN2 HA2
  generalize w2.heap.size = n2 at *
  have HB3 := Lib.hid (HA3.out.alloc #[.int .i64 0, .int .i64 1000, .slice (some ⟨g0, 0, none⟩) 1 1, .slice none 0 0, .int .i64 0, .slice (some ⟨n0, 0, none⟩) 1 1, .int .i64 1, .int .i64 0, .int .i64 1000, .slice (some ⟨g1, 0, none⟩) 1 1, .slice none 0 0, .int .i64 1, .slice (some ⟨n1, 0, none⟩) 2 2, .int .i64 1, .int .i64 d, .int .i64 2000, .slice (some ⟨g2, 0, none⟩) 1 1, .slice none 0 0, .int .i64 0, .slice (some ⟨n2, 0, none⟩) 1 1, .int .i64 2] 100)
  have hB1 := (HA3.out.lt (.tail _ (.tail _ (.tail _ (.tail _ (.tail _ (.tail _ (.head _)))))))).2
  have hn3 := (HB3.out.lt (.tail _ (.tail _ (.tail _ (.tail _ (.tail _ (.tail _ (.tail _ (.head _))))))))).2
  have HN3 := Lib.hid (HB3.out.alloc #[.int .i64 5] 3)
  rw [World.size_alloc] at HN3 hn3
  go_wp2_with fail
  refine (entry_any 0 1 400 900 (some ⟨w3.heap.size + 1, 0, none⟩) 1 1 _).mono ?_
  rintro _ w4 ⟨g3, rfl, hl, hg, hb⟩
  have hg3 : w.heap.size < g3 := Nat.lt_of_le_of_lt HN3.out.fr.size hl
  have HA4 := Lib.hid ((HN3.out.below hb).add (Nat.le_of_lt hg3) hg)
  clear hl hg hb HN3 HB3
  generalize w3.heap.size + 1 = n3 at *
  generalize w3.heap.size = B1 at *
  have hn4 := (HA4.out.lt (.tail _ (.tail _ (.tail _ (.tail _ (.tail _ (.tail _ (.tail _ (.tail _ (.tail _ (.head _))))))))))).2
  have HN4 := Lib.hid (HA4.out.alloc #[.int .i64 7] 3)
  go_wp2_with fail
  refine (entry_any 2 3 1000 1500 (some ⟨w4.heap.size, 0, none⟩) 1 1 _).mono ?_
  rintro _ w5 ⟨g4, rfl, hl, hg, hb⟩
  have hg4 : w.heap.size < g4 := Nat.lt_of_le_of_lt HN4.out.fr.size hl
  have HA5 := Lib.hid ((HN4.out.below hb).add (Nat.le_of_lt hg4) hg)
  clear hl hg hb HN4 HA4
  generalize w4.heap.size = n4 at *
  have hn5 := (HA5.out.lt (.tail _ (.tail _ (.tail _ (.tail _ (.tail _ (.tail _ (.tail _ (.tail _ (.tail _ (.tail _ (.tail _ (.head _))))))))))))).2
  have HN5 := Lib.hid (HA5.out.alloc #[.int .i64 5, .int .i64 6] 3)
  go_wp2_with fail
  refine (entry_any 0 2 100 600 (some ⟨w5.heap.size, 0, none⟩) 2 2 _).mono ?_
  rintro _ w6 ⟨g5, rfl, hl, hg, hb⟩
  have hg5 : w.heap.size < g5 := Nat.lt_of_le_of_lt HN5.out.fr.size hl
  have HA6 := Lib.hid ((HN5.out.below hb).add (Nat.le_of_lt hg5) hg)
  clear hl hg hb HN5 HA5
  generalize w5.heap.size = n5 at *
  have HB6 := Lib.hid (HA6.out.alloc #[.int .i64 400, .int .i64 900, .slice (some ⟨g3, 0, none⟩) 1 1, .slice none 0 0, .int .i64 0, .slice (some ⟨n3, 0, none⟩) 1 1, .int .i64 1, .int .i64 1000, .int .i64 1500, .slice (some ⟨g4, 0, none⟩) 1 1, .slice none 0 0, .int .i64 2, .slice (some ⟨n4, 0, none⟩) 1 1, .int .i64 3, .int .i64 100, .int .i64 600, .slice (some ⟨g5, 0, none⟩) 1 1, .slice none 0 0, .int .i64 0, .slice (some ⟨n5, 0, none⟩) 2 2, .int .i64 2] 100)
  have hB2 : w.heap.size < w6.heap.size := (HA6.out.lt (.tail _ (.tail _ (.tail _ (.tail _ (.tail _ (.tail _ (.tail _ (.tail _ (.tail _ (.tail _ (.tail _ (.tail _ (.tail _ (.head _))))))))))))))).2
  clear HA6
  have HRR := Lib.hid (HB6.out.bk _ _ _ (.tail _ (.tail _ (.tail _ (.tail _ (.tail _ (.tail _ (.tail _ (.tail _ (.tail _ (.tail _ (.tail _ (.tail _ (.tail _ (.tail _ (.head _)))))))))))))))).2
  have HSL : Hid ((Tryz.prog.info? 33).map (·.size) = some (#[.slice (some ⟨B1, 0, none⟩) 3 3, .slice (some ⟨w6.heap.size, 0, none⟩) 3 3, .slice a n c] : Array Value).size) := Tryz.sizeFile
  have HF := Lib.hid (HB6.out.setR (.tail _ (.tail _ (.tail _ (.tail _ (.tail _ (.tail _ (.tail _ (.tail _ (.tail _ (.tail _ (.tail _ (.tail _ (.tail _ (.tail _ (.head _))))))))))))))) #[.slice (some ⟨B1, 0, none⟩) 3 3, .slice (some ⟨w6.heap.size, 0, none⟩) 3 3, .slice a n c] (L' := [(w6.heap.size, #[.int .i64 400, .int .i64 900, .slice (some ⟨g3, 0, none⟩) 1 1, .slice none 0 0, .int .i64 0, .slice (some ⟨n3, 0, none⟩) 1 1, .int .i64 1, .int .i64 1000, .int .i64 1500, .slice (some ⟨g4, 0, none⟩) 1 1, .slice none 0 0, .int .i64 2, .slice (some ⟨n4, 0, none⟩) 1 1, .int .i64 3, .int .i64 100, .int .i64 600, .slice (some ⟨g5, 0, none⟩) 1 1, .slice none 0 0, .int .i64 0, .slice (some ⟨n5, 0, none⟩) 2 2, .int .i64 2], 100), (g5, #[.int .i64 0, .int .i64 1, .int .i64 0, .int .i64 0], 156), (n5, #[.int .i64 5, .int .i64 6], 3), (g4, #[.int .i64 0, .int .i64 1, .int .i64 0, .int .i64 0], 156), (n4, #[.int .i64 7], 3), (g3, #[.int .i64 0, .int .i64 1, .int .i64 0, .int .i64 0], 156), (n3, #[.int .i64 5], 3), (B1, #[.int .i64 0, .int .i64 1000, .slice (some ⟨g0, 0, none⟩) 1 1, .slice none 0 0, .int .i64 0, .slice (some ⟨n0, 0, none⟩) 1 1, .int .i64 1, .int .i64 0, .int .i64 1000, .slice (some ⟨g1, 0, none⟩) 1 1, .slice none 0 0, .int .i64 1, .slice (some ⟨n1, 0, none⟩) 2 2, .int .i64 1, .int .i64 d, .int .i64 2000, .slice (some ⟨g2, 0, none⟩) 1 1, .slice none 0 0, .int .i64 0, .slice (some ⟨n2, 0, none⟩) 1 1, .int .i64 2], 100), (g2, #[.int .i64 0, .int .i64 1, .int .i64 0, .int .i64 0], 156), (n2, #[.int .i64 5], 3), (g1, #[.int .i64 0, .int .i64 1, .int .i64 0, .int .i64 0], 156), (n1, #[.int .i64 7, .int .i64 9], 3), (g0, #[.int .i64 0, .int .i64 1, .int .i64 0, .int .i64 0], 156), (n0, #[.int .i64 5], 3)]) (List.forall_mem_cons.2 ⟨⟨show w6.heap.size ≠ w.heap.size by omega, (.head _)⟩, List.forall_mem_cons.2 ⟨⟨show g5 ≠ w.heap.size by omega, (.tail _ (.head _))⟩, List.forall_mem_cons.2 ⟨⟨show n5 ≠ w.heap.size by omega, (.tail _ (.tail _ (.head _)))⟩, List.forall_mem_cons.2 ⟨⟨show g4 ≠ w.heap.size by omega, (.tail _ (.tail _ (.tail _ (.head _))))⟩, List.forall_mem_cons.2 ⟨⟨show n4 ≠ w.heap.size by omega, (.tail _ (.tail _ (.tail _ (.tail _ (.head _)))))⟩, List.forall_mem_cons.2 ⟨⟨show g3 ≠ w.heap.size by omega, (.tail _ (.tail _ (.tail _ (.tail _ (.tail _ (.head _))))))⟩, List.forall_mem_cons.2 ⟨⟨show n3 ≠ w.heap.size by omega, (.tail _ (.tail _ (.tail _ (.tail _ (.tail _ (.tail _ (.head _)))))))⟩, List.forall_mem_cons.2 ⟨⟨show B1 ≠ w.heap.size by omega, (.tail _ (.tail _ (.tail _ (.tail _ (.tail _ (.tail _ (.tail _ (.head _))))))))⟩, List.forall_mem_cons.2 ⟨⟨show g2 ≠ w.heap.size by omega, (.tail _ (.tail _ (.tail _ (.tail _ (.tail _ (.tail _ (.tail _ (.tail _ (.head _)))))))))⟩, List.forall_mem_cons.2 ⟨⟨show n2 ≠ w.heap.size by omega, (.tail _ (.tail _ (.tail _ (.tail _ (.tail _ (.tail _ (.tail _ (.tail _ (.tail _ (.head _))))))))))⟩, List.forall_mem_cons.2 ⟨⟨show g1 ≠ w.heap.size by omega, (.tail _ (.tail _ (.tail _ (.tail _ (.tail _ (.tail _ (.tail _ (.tail _ (.tail _ (.tail _ (.head _)))))))))))⟩, List.forall_mem_cons.2 ⟨⟨show n1 ≠ w.heap.size by omega, (.tail _ (.tail _ (.tail _ (.tail _ (.tail _ (.tail _ (.tail _ (.tail _ (.tail _ (.tail _ (.tail _ (.head _))))))))))))⟩, List.forall_mem_cons.2 ⟨⟨show g0 ≠ w.heap.size by omega, (.tail _ (.tail _ (.tail _ (.tail _ (.tail _ (.tail _ (.tail _ (.tail _ (.tail _ (.tail _ (.tail _ (.tail _ (.head _)))))))))))))⟩, List.forall_mem_cons.2 ⟨⟨show n0 ≠ w.heap.size by omega, (.tail _ (.tail _ (.tail _ (.tail _ (.tail _ (.tail _ (.tail _ (.tail _ (.tail _ (.tail _ (.tail _ (.tail _ (.tail _ (.head _))))))))))))))⟩, List.forall_mem_nil _⟩⟩⟩⟩⟩⟩⟩⟩⟩⟩⟩⟩⟩⟩))
  have HQ0 := Lib.hid (qp_of (sx := 0) (pl := 1) (lo := 0) (hi := 1000) (HF.out.bk _ _ _ (.tail _ (.tail _ (.tail _ (.tail _ (.tail _ (.tail _ (.tail _ (.tail _ (.tail _ (.tail _ (.tail _ (.tail _ (.tail _ (.head _))))))))))))))).2 (ints1_own (HF.out.bk _ _ _ (.tail _ (.tail _ (.tail _ (.tail _ (.tail _ (.tail _ (.tail _ (.tail _ (.tail _ (.tail _ (.tail _ (.tail _ (.tail _ (.tail _ (.head _)))))))))))))))).2) (by omega))
  have HQ1 := Lib.hid (qp_of (sx := 1) (pl := 1) (lo := 0) (hi := 1000) (HF.out.bk _ _ _ (.tail _ (.tail _ (.tail _ (.tail _ (.tail _ (.tail _ (.tail _ (.tail _ (.tail _ (.tail _ (.tail _ (.head _))))))))))))).2 (ints2_own (HF.out.bk _ _ _ (.tail _ (.tail _ (.tail _ (.tail _ (.tail _ (.tail _ (.tail _ (.tail _ (.tail _ (.tail _ (.tail _ (.tail _ (.head _)))))))))))))).2) (by omega))
  have HQ2 := Lib.hid (qp_of (sx := 0) (pl := 2) (lo := d) (hi := 2000) (HF.out.bk _ _ _ (.tail _ (.tail _ (.tail _ (.tail _ (.tail _ (.tail _ (.tail _ (.tail _ (.tail _ (.head _))))))))))).2 (ints1_own (HF.out.bk _ _ _ (.tail _ (.tail _ (.tail _ (.tail _ (.tail _ (.tail _ (.tail _ (.tail _ (.tail _ (.tail _ (.head _)))))))))))).2) (by omega))
  have HQ3 := Lib.hid (qp_of (sx := 0) (pl := 1) (lo := 400) (hi := 900) (HF.out.bk _ _ _ (.tail _ (.tail _ (.tail _ (.tail _ (.tail _ (.tail _ (.head _)))))))).2 (ints1_own (HF.out.bk _ _ _ (.tail _ (.tail _ (.tail _ (.tail _ (.tail _ (.tail _ (.tail _ (.head _))))))))).2) (by omega))
  have HQ4 := Lib.hid (qp_of (sx := 2) (pl := 3) (lo := 1000) (hi := 1500) (HF.out.bk _ _ _ (.tail _ (.tail _ (.tail _ (.tail _ (.head _)))))).2 (ints1_own (HF.out.bk _ _ _ (.tail _ (.tail _ (.tail _ (.tail _ (.tail _ (.head _))))))).2) (by omega))
  have HQ5 := Lib.hid (qp_of (sx := 0) (pl := 2) (lo := 100) (hi := 600) (HF.out.bk _ _ _ (.tail _ (.tail _ (.head _)))).2 (ints2_own (HF.out.bk _ _ _ (.tail _ (.tail _ (.tail _ (.head _))))).2) (by omega))
  have HEO := Lib.hid (EsQ.three (E := tO d) (V0 := (.slice (some ⟨g0, 0, none⟩) 1 1, .slice none 0 0, .slice (some ⟨n0, 0, none⟩) 1 1)) (V1 := (.slice (some ⟨g1, 0, none⟩) 1 1, .slice none 0 0, .slice (some ⟨n1, 0, none⟩) 2 2)) (V2 := (.slice (some ⟨g2, 0, none⟩) 1 1, .slice none 0 0, .slice (some ⟨n2, 0, none⟩) 1 1)) (HF.out.lt (.tail _ (.tail _ (.tail _ (.tail _ (.tail _ (.tail _ (.tail _ (.tail _ (.head _)))))))))).2 rfl rfl rfl (fun i u hu => (HF.out.cell (.tail _ (.tail _ (.tail _ (.tail _ (.tail _ (.tail _ (.tail _ (.tail _ (.head _))))))))) i).trans (by rw [← Array.getElem?_toList]; exact hu)) HQ0.out HQ1.out HQ2.out)
  have HEN := Lib.hid (EsQ.three (E := tN) (V0 := (.slice (some ⟨g3, 0, none⟩) 1 1, .slice none 0 0, .slice (some ⟨n3, 0, none⟩) 1 1)) (V1 := (.slice (some ⟨g4, 0, none⟩) 1 1, .slice none 0 0, .slice (some ⟨n4, 0, none⟩) 1 1)) (V2 := (.slice (some ⟨g5, 0, none⟩) 1 1, .slice none 0 0, .slice (some ⟨n5, 0, none⟩) 2 2)) (HF.out.lt (.tail _ (.head _))).2 rfl rfl rfl (fun i u hu => (HF.out.cell (.tail _ (.head _)) i).trans (by rw [← Array.getElem?_toList]; exact hu)) HQ3.out HQ4.out HQ5.out)
  have HMM := Lib.hid (HM.out _ HF.out.fr)
  have hrow := (HF.out.bk w.heap.size _ _ (.head _)).2
  have HFR := Lib.hid HF.out.fr
  clear HF HB6 HQ0 HQ1 HQ2 HQ3 HQ4 HQ5 HM
  go_wp2_with (refine wpList_store_row (o := ⟨none, _, _, _, _, _⟩) rfl 33 (.tmp 4) (.tmp 21) rfl w.heap.size #[.slice (some ⟨B1, 0, none⟩) 3 3, .slice (some ⟨w6.heap.size, 0, none⟩) 3 3, .slice a n c] rfl rfl 33 #[.slice none 0 0, .slice none 0 0, .slice none 0 0] HRR.out HSL.out rfl (by simp [Value.oneCell']) ?_; generalize (w6.alloc (.cells #[.int .i64 400, .int .i64 900, .slice (some ⟨g3, 0, none⟩) 1 1, .slice none 0 0, .int .i64 0, .slice (some ⟨n3, 0, none⟩) 1 1, .int .i64 1, .int .i64 1000, .int .i64 1500, .slice (some ⟨g4, 0, none⟩) 1 1, .slice none 0 0, .int .i64 2, .slice (some ⟨n4, 0, none⟩) 1 1, .int .i64 3, .int .i64 100, .int .i64 600, .slice (some ⟨g5, 0, none⟩) 1 1, .slice none 0 0, .int .i64 0, .slice (some ⟨n5, 0, none⟩) 2 2, .int .i64 2] 100)).setRow w.heap.size #[.slice (some ⟨B1, 0, none⟩) 3 3, .slice (some ⟨w6.heap.size, 0, none⟩) 3 3, .slice a n c] = wz at *)
  exact bodyPost_ret (v := .agg #[.slice (some ⟨B1, 0, none⟩) 3 3, .slice (some ⟨w6.heap.size, 0, none⟩) 3 3, .slice a n c]) (results_cell_row rfl _ _ w.heap.size 33 #[.slice (some ⟨B1, 0, none⟩) 3 3, .slice (some ⟨w6.heap.size, 0, none⟩) 3 3, .slice a n c] (0, 0) _ rfl hrow Tryz.underlying33 rfl HSL.out) rfl ⟨⟨some ⟨B1, 0, none⟩, 3, some ⟨w6.heap.size, 0, none⟩, 3, a, c⟩, rfl, ⟨HEO.out, HEN.out, HMM.out⟩, HFR.out⟩
end Go.Proofs.YtgbdbikjckfgmaaGreat

namespace Go.Proofs.YtgbdbikjckfgmaaGreat
open Go.RowKit Go.Shelf

def bF (j : Nat) : Int := if j < 2 then 1 else 0
def bT (j : Nat) : Int := if j = 0 then 2 else if j = 1 then 3 else 0
set_option maxHeartbeats 2000000 in
theorem both_any (w : World) : Calls Tryz.prog 51 #[] w fun e w' => ∃ b, e = .returned (.slice (some ⟨b, 0, none⟩) 2 2) ∧ RsIn w' (.slice (some ⟨b, 0, none⟩) 2 2) 2 bF bT ∧ Below w.heap.size w w' := by
  have HA := Lib.hid ((BF.base w).alloc #[.int .i64 1, .int .i64 2, .int .i64 1, .int .i64 3] 110)
  have HR : Hid (RsIn (w.alloc (.cells #[.int .i64 1, .int .i64 2, .int .i64 1, .int .i64 3] 110)) (.slice (some ⟨w.heap.size, 0, none⟩) 2 2) 2 bF bT) := .inr ⟨w.heap.size, 0, 2, rfl, (HA.out.lt (.head _)).2, fun j hj => by
    rcases (show j = 0 ∨ j = 1 by omega) with rfl | rfl
    · exact ⟨HA.out.cell (.head _) 0, HA.out.cell (.head _) 1⟩
    · exact ⟨HA.out.cell (.head _) 2, HA.out.cell (.head _) 3⟩⟩
  go_enter Tryz.func51, Tryz.ntmps51
  go_wp2_with fail
  go_ret
  exact ⟨_, rfl, HR.out, HA.out.fr⟩
theorem ex_fault : (townsF 500 2 bF bT).fault = 0 := by decide +kernel
theorem ex_fault7 : (townsF 700 2 bF bT).fault = 0 := by decide +kernel
theorem ex_fault1 : (townsF 500 1 bF bT).fault = 0 := by decide +kernel
theorem ex_pairs : chL (townsF 500 2 bF bT) pT 3 = [(0, 0), (0, 2), (1, 1), (2, 2)] := by decide +kernel
theorem ex_sure : chL (townsF 500 2 bF bT) (townsF 500 2 bF bT).sure 3 = [(0, 0), (1, 1), (2, 2)] := by decide +kernel
theorem ex_only : (townsF 700 2 bF bT).only = false := by decide +kernel
theorem ex_cost : (townsF 500 2 bF bT).costV 0 2 = (1, 0) := by decide +kernel
theorem ex_alO : pickN (townsF 500 1 bF bT).alO 3 = [0, 2] := by decide +kernel
theorem ex_alN : pickN (townsF 500 1 bF bT).alN 3 = [0, 2] := by decide +kernel
end Go.Proofs.YtgbdbikjckfgmaaGreat

namespace Go.Proofs.YtgbdbikjckfgmaaGreat
open Go.RowKit Go.Shelf

theorem aw_pairs (z : FV) (w : World) (h : FlQ QP w z (townsF 500 2 bF bT)) : Calls Tryz.prog 22 #[.agg #[.slice z.oa 3 z.oc, .slice z.na 3 z.nc, .slice z.ma 2 z.mc]] w fun e w' => ∃ a c, e = .returned (.tuple #[.slice a 4 c, .int .i64 0]) ∧ SkIn w' (.slice a 4 c) [(0, 0), (0, 2), (1, 1), (2, 2)] ∧ Below w.heap.size w w' := by
  have h1 := pairs_ok z _ w h ex_fault
  have e : chL (townsF 500 2 bF bT) pT (townsF 500 2 bF bT).no = [(0, 0), (0, 2), (1, 1), (2, 2)] := ex_pairs
  rw [e] at h1; exact h1
theorem aw_sure (z : FV) (w : World) (h : FlQ QP w z (townsF 500 2 bF bT)) : Calls Tryz.prog 37 #[.agg #[.slice z.oa 3 z.oc, .slice z.na 3 z.nc, .slice z.ma 2 z.mc]] w fun e w' => ∃ a c, e = .returned (.tuple #[.slice a 3 c, .int .i64 0]) ∧ SkIn w' (.slice a 3 c) [(0, 0), (1, 1), (2, 2)] ∧ Below w.heap.size w w' := by
  have h1 := sureF_ok z _ w h ex_fault
  have e : chL (townsF 500 2 bF bT) (townsF 500 2 bF bT).sure (townsF 500 2 bF bT).no = [(0, 0), (1, 1), (2, 2)] := ex_sure
  rw [e] at h1; exact h1
theorem aw_always (z : FV) (w : World) (h : FlQ QP w z (townsF 500 1 bF bT)) : Calls Tryz.prog 27 #[.agg #[.slice z.oa 3 z.oc, .slice z.na 3 z.nc, .slice z.ma 1 z.mc]] w fun e w' => ∃ a c b d, e = .returned (.tuple #[.slice a 2 c, .slice b 2 d, .int .i64 0]) ∧ IntsIn w' (.slice a 2 c) 2 (nz [0, 2]) ∧ IntsIn w' (.slice b 2 d) 2 (nz [0, 2]) ∧ Below w.heap.size w w' := by
  have h1 := alwaysF_ok z _ w h ex_fault1
  have e : pickN (townsF 500 1 bF bT).alO (townsF 500 1 bF bT).no = [0, 2] := ex_alO
  have e2 : pickN (townsF 500 1 bF bT).alN (townsF 500 1 bF bT).nw = [0, 2] := ex_alN
  rw [e, e2] at h1; exact h1
theorem aw_only (z : FV) (w : World) (h : FlQ QP w z (townsF 700 2 bF bT)) : Calls Tryz.prog 38 #[.agg #[.slice z.oa 3 z.oc, .slice z.na 3 z.nc, .slice z.ma 2 z.mc]] w fun e w' => e = .returned (.tuple #[.slice none 0 0, .int .i64 10]) ∧ Below w.heap.size w w' := by
  have h1 := onlyF_ok z _ w h ex_fault7
  refine Calls.mono h1 fun e w' hp => ?_
  rcases hp with ⟨hb, _⟩ | ⟨_, hp⟩
  · rw [ex_only] at hb; cases hb
  · exact hp
theorem aw_cost (z : FV) (w : World) (h : FlQ QP w z (townsF 500 2 bF bT)) : Calls Tryz.prog 31 #[.agg #[.slice z.oa 3 z.oc, .slice z.na 3 z.nc, .slice z.ma 2 z.mc], .int .i64 0, .int .i64 2] w fun e w' => e = .returned (.tuple #[.int .i64 1, .int .i64 0]) ∧ Below w.heap.size w w' := by
  have h1 := costF_ok 0 2 z _ w h ex_fault
  rw [ex_cost] at h1; exact h1
end Go.Proofs.YtgbdbikjckfgmaaGreat

namespace Go.Proofs.YtgbdbikjckfgmaaGreat
open Go.RowKit Go.Shelf

theorem pairs_lit (L : List (Int × Int)) (a b : Option Addr) (c d : Nat) (w : World) (hL : L.length ≤ 100000) (h1 : SkIn w (.slice a L.length c) L) (h2 : SkIn w (.slice b L.length d) L) : Calls Tryz.prog 26 #[.slice a L.length c, .slice b L.length d] w fun e w' => e = .returned (.bool true) ∧ Below w.heap.size w w' := by
  refine (pairs5_any a b _ _ c d _ _ _ _ w h1 h2 hL hL).mono ?_
  rintro e w' ⟨rfl, hb⟩
  exact ⟨ret_bool (by rw [decide_eq_true rfl, Bool.true_and]; exact allB_true fun j _ => by simp), hb⟩
theorem ints_lit (z : Nat → Int) (n : Nat) (a b : Option Addr) (c d : Nat) (w : World) (hn : n ≤ 100000) (h1 : IntsIn w (.slice a n c) n z) (h2 : IntsIn w (.slice b n d) n z) : Calls Tryz.prog 30 #[.slice a n c, .slice b n d] w fun e w' => e = .returned (.bool true) ∧ Below w.heap.size w w' := by
  refine (ints5_any a b _ _ c d _ _ w h1 h2 hn hn).mono ?_
  rintro e w' ⟨rfl, hb⟩
  exact ⟨ret_bool (by rw [decide_eq_true rfl, Bool.true_and]; exact allB_true fun j _ => by simp), hb⟩
theorem RsIn.one {w : World} {b : Nat} {p q : Nat → Int} (h : RsIn w (.slice (some ⟨b, 0, none⟩) 2 2) 2 p q) : RsIn w (.slice (some ⟨b, 0, none⟩) 1 2) 1 p q := by
  rcases h with ⟨_, _, _, h⟩ | ⟨b', o', c', e, hb, hz⟩
  · omega
  · cases e; exact .inr ⟨_, _, _, rfl, hb, fun j hj => hz j (by omega)⟩
set_option maxRecDepth 100000 in
set_option maxHeartbeats 8000000 in
theorem awake5_any (w : World) : Calls Tryz.prog 19 #[] w fun e w' => e = .returned (.bool true) ∧ Below w.heap.size w w' := by
  have HB0 : Hid (Below w.heap.size w w) := Below.refl _ _
  go_enter Tryz.func19, Tryz.ntmps19
  go_wp2_with fail
  refine (both_any _).mono ?_
  rintro _ w1 ⟨b0, rfl, hr0, hb⟩
  have HB1 := Lib.hid (HB0.out.trans (hb.mono HB0.out.size))
  clear hb HB0
  have HR0 := Lib.hid hr0
  clear hr0
  go_wp2_with fail
  refine (towns_any 500 (some ⟨b0, 0, none⟩) 2 2 bF bT _ HR0.out).mono ?_
  rintro _ w2 ⟨z0, rfl, hq0, hb⟩
  have HB2 := Lib.hid (HB1.out.trans (hb.mono HB1.out.size))
  clear hb HB1
  have HQ0 := Lib.hid hq0
  clear hq0 HR0
  go_wp2_with fail
  refine (aw_pairs z0 _ HQ0.out).mono ?_
  rintro _ w3 ⟨pa, pc, rfl, hp, hb⟩
  have HB3 := Lib.hid (HB2.out.trans (hb.mono HB2.out.size))
  have HP := Lib.hid hp
  clear hp
  clear hb HB2
  clear HQ0
  go_wp2_with fail
  refine (both_any _).mono ?_
  rintro _ w4 ⟨b1, rfl, hr1, hb⟩
  have HB4 := Lib.hid (HB3.out.trans (hb.mono HB3.out.size))
  have HP' := Lib.hid (HP.out.below hb)
  clear HP
  have HP := HP'
  clear HP'
  clear hb HB3
  have HR1 := Lib.hid hr1
  clear hr1
  go_wp2_with fail
  refine (towns_any 500 (some ⟨b1, 0, none⟩) 2 2 bF bT _ HR1.out).mono ?_
  rintro _ w5 ⟨z1, rfl, hq1, hb⟩
  have HB5 := Lib.hid (HB4.out.trans (hb.mono HB4.out.size))
  have HP' := Lib.hid (HP.out.below hb)
  clear HP
  have HP := HP'
  clear HP'
  clear hb HB4
  have HQ1 := Lib.hid hq1
  clear hq1 HR1
  go_wp2_with fail
  refine (aw_sure z1 _ HQ1.out).mono ?_
  rintro _ w6 ⟨sa, sc, rfl, hs, hb⟩
  have HB6 := Lib.hid (HB5.out.trans (hb.mono HB5.out.size))
  have HP' := Lib.hid (HP.out.below hb)
  clear HP
  have HP := HP'
  clear HP'
  have HS := Lib.hid hs
  clear hs
  clear hb HB5
  clear HQ1
  go_wp2_with fail
  refine (both_any _).mono ?_
  rintro _ w7 ⟨b2, rfl, hr2, hb⟩
  have HB7 := Lib.hid (HB6.out.trans (hb.mono HB6.out.size))
  have HP' := Lib.hid (HP.out.below hb)
  clear HP
  have HP := HP'
  clear HP'
  have HS' := Lib.hid (HS.out.below hb)
  clear HS
  have HS := HS'
  clear HS'
  clear hb HB6
  have HR2 := Lib.hid hr2.one
  clear hr2
  go_wp2_with fail
  refine (towns_any 500 (some ⟨b2, 0, none⟩) 1 2 bF bT _ HR2.out).mono ?_
  rintro _ w8 ⟨z2, rfl, hq2, hb⟩
  have HB8 := Lib.hid (HB7.out.trans (hb.mono HB7.out.size))
  have HP' := Lib.hid (HP.out.below hb)
  clear HP
  have HP := HP'
  clear HP'
  have HS' := Lib.hid (HS.out.below hb)
  clear HS
  have HS := HS'
  clear HS'
  clear hb HB7
  have HQ2 := Lib.hid hq2
  clear hq2 HR2
  go_wp2_with fail
  refine (aw_always z2 _ HQ2.out).mono ?_
  rintro _ w9 ⟨oa, oc, na, nc, rfl, ho, hn, hb⟩
  have HB9 := Lib.hid (HB8.out.trans (hb.mono HB8.out.size))
  have HP' := Lib.hid (HP.out.below hb)
  clear HP
  have HP := HP'
  clear HP'
  have HS' := Lib.hid (HS.out.below hb)
  clear HS
  have HS := HS'
  clear HS'
  have HO := Lib.hid ho
  clear ho
  have HN := Lib.hid hn
  clear hn
  clear hb HB8
  clear HQ2
  go_wp2_with fail
  refine (both_any _).mono ?_
  rintro _ w10 ⟨b3, rfl, hr3, hb⟩
  have HB10 := Lib.hid (HB9.out.trans (hb.mono HB9.out.size))
  have HP' := Lib.hid (HP.out.below hb)
  clear HP
  have HP := HP'
  clear HP'
  have HS' := Lib.hid (HS.out.below hb)
  clear HS
  have HS := HS'
  clear HS'
  have HO' := Lib.hid (HO.out.below hb)
  clear HO
  have HO := HO'
  clear HO'
  have HN' := Lib.hid (HN.out.below hb)
  clear HN
  have HN := HN'
  clear HN'
  clear hb HB9
  have HR3 := Lib.hid hr3
  clear hr3
  go_wp2_with fail
  refine (towns_any 700 (some ⟨b3, 0, none⟩) 2 2 bF bT _ HR3.out).mono ?_
  rintro _ w11 ⟨z3, rfl, hq3, hb⟩
  have HB11 := Lib.hid (HB10.out.trans (hb.mono HB10.out.size))
  have HP' := Lib.hid (HP.out.below hb)
  clear HP
  have HP := HP'
  clear HP'
  have HS' := Lib.hid (HS.out.below hb)
  clear HS
  have HS := HS'
  clear HS'
  have HO' := Lib.hid (HO.out.below hb)
  clear HO
  have HO := HO'
  clear HO'
  have HN' := Lib.hid (HN.out.below hb)
  clear HN
  have HN := HN'
  clear HN'
  clear hb HB10
  have HQ3 := Lib.hid hq3
  clear hq3 HR3
  go_wp2_with fail
  refine (aw_only z3 _ HQ3.out).mono ?_
  rintro _ w12 ⟨rfl, hb⟩
  have HB12 := Lib.hid (HB11.out.trans (hb.mono HB11.out.size))
  have HP' := Lib.hid (HP.out.below hb)
  clear HP
  have HP := HP'
  clear HP'
  have HS' := Lib.hid (HS.out.below hb)
  clear HS
  have HS := HS'
  clear HS'
  have HO' := Lib.hid (HO.out.below hb)
  clear HO
  have HO := HO'
  clear HO'
  have HN' := Lib.hid (HN.out.below hb)
  clear HN
  have HN := HN'
  clear HN'
  clear hb HB11
  clear HQ3
  go_wp2_with fail
  refine (both_any _).mono ?_
  rintro _ w13 ⟨b4, rfl, hr4, hb⟩
  have HB13 := Lib.hid (HB12.out.trans (hb.mono HB12.out.size))
  have HP' := Lib.hid (HP.out.below hb)
  clear HP
  have HP := HP'
  clear HP'
  have HS' := Lib.hid (HS.out.below hb)
  clear HS
  have HS := HS'
  clear HS'
  have HO' := Lib.hid (HO.out.below hb)
  clear HO
  have HO := HO'
  clear HO'
  have HN' := Lib.hid (HN.out.below hb)
  clear HN
  have HN := HN'
  clear HN'
  clear hb HB12
  have HR4 := Lib.hid hr4
  clear hr4
  go_wp2_with fail
  refine (towns_any 500 (some ⟨b4, 0, none⟩) 2 2 bF bT _ HR4.out).mono ?_
  rintro _ w14 ⟨z4, rfl, hq4, hb⟩
  have HB14 := Lib.hid (HB13.out.trans (hb.mono HB13.out.size))
  have HP' := Lib.hid (HP.out.below hb)
  clear HP
  have HP := HP'
  clear HP'
  have HS' := Lib.hid (HS.out.below hb)
  clear HS
  have HS := HS'
  clear HS'
  have HO' := Lib.hid (HO.out.below hb)
  clear HO
  have HO := HO'
  clear HO'
  have HN' := Lib.hid (HN.out.below hb)
  clear HN
  have HN := HN'
  clear HN'
  clear hb HB13
  have HQ4 := Lib.hid hq4
  clear hq4 HR4
  go_wp2_with fail
  refine (aw_cost z4 _ HQ4.out).mono ?_
  rintro _ w15 ⟨rfl, hb⟩
  have HB15 := Lib.hid (HB14.out.trans (hb.mono HB14.out.size))
  have HP' := Lib.hid (HP.out.below hb)
  clear HP
  have HP := HP'
  clear HP'
  have HS' := Lib.hid (HS.out.below hb)
  clear HS
  have HS := HS'
  clear HS'
  have HO' := Lib.hid (HO.out.below hb)
  clear HO
  have HO := HO'
  clear HO'
  have HN' := Lib.hid (HN.out.below hb)
  clear HN
  have HN := HN'
  clear HN'
  clear hb HB14
  clear HQ4
  have hbl := below_alloc w15 (.cells #[.int .i64 0, .int .i64 0, .int .i64 0, .int .i64 2, .int .i64 1, .int .i64 1, .int .i64 2, .int .i64 2] 45)
  have HL := Lib.hid (SkIn.own (l := [(0, 0), (0, 2), (1, 1), (2, 2)]) (own_new w15 45 2 4 0 #[.int .i64 0, .int .i64 0, .int .i64 0, .int .i64 2, .int .i64 1, .int .i64 1, .int .i64 2, .int .i64 2] (Nat.zero_le _) rfl (by decide)))
  have HP' := Lib.hid (HP.out.below hbl)
  clear HP
  have HP := HP'
  clear HP'
  have HS' := Lib.hid (HS.out.below hbl)
  clear HS
  have HS := HS'
  clear HS'
  have HO' := Lib.hid (HO.out.below hbl)
  clear HO
  have HO := HO'
  clear HO'
  have HN' := Lib.hid (HN.out.below hbl)
  clear HN
  have HN := HN'
  clear HN'
  have HBL := Lib.hid (HB15.out.trans (hbl.mono HB15.out.size))
  clear HB15 hbl
  have HB15 := HBL
  clear HBL
  go_wp2_with fail
  refine (pairs_lit [(0, 0), (0, 2), (1, 1), (2, 2)] _ _ _ _ _ (by decide) HP.out HL.out).mono ?_
  rintro _ w16 ⟨rfl, hb⟩
  have HB16 := Lib.hid (HB15.out.trans (hb.mono HB15.out.size))
  have HP' := Lib.hid (HP.out.below hb)
  clear HP
  have HP := HP'
  clear HP'
  have HS' := Lib.hid (HS.out.below hb)
  clear HS
  have HS := HS'
  clear HS'
  have HO' := Lib.hid (HO.out.below hb)
  clear HO
  have HO := HO'
  clear HO'
  have HN' := Lib.hid (HN.out.below hb)
  clear HN
  have HN := HN'
  clear HN'
  clear hb HB15
  clear HL
  clear HP
  have hbl := below_alloc w16 (.cells #[.int .i64 0, .int .i64 0, .int .i64 1, .int .i64 1, .int .i64 2, .int .i64 2] 45)
  have HL := Lib.hid (SkIn.own (l := [(0, 0), (1, 1), (2, 2)]) (own_new w16 45 2 3 0 #[.int .i64 0, .int .i64 0, .int .i64 1, .int .i64 1, .int .i64 2, .int .i64 2] (Nat.zero_le _) rfl (by decide)))
  have HS' := Lib.hid (HS.out.below hbl)
  clear HS
  have HS := HS'
  clear HS'
  have HO' := Lib.hid (HO.out.below hbl)
  clear HO
  have HO := HO'
  clear HO'
  have HN' := Lib.hid (HN.out.below hbl)
  clear HN
  have HN := HN'
  clear HN'
  have HBL := Lib.hid (HB16.out.trans (hbl.mono HB16.out.size))
  clear HB16 hbl
  have HB16 := HBL
  clear HBL
  go_wp2_with fail
  refine (pairs_lit [(0, 0), (1, 1), (2, 2)] _ _ _ _ _ (by decide) HS.out HL.out).mono ?_
  rintro _ w17 ⟨rfl, hb⟩
  have HB17 := Lib.hid (HB16.out.trans (hb.mono HB16.out.size))
  have HS' := Lib.hid (HS.out.below hb)
  clear HS
  have HS := HS'
  clear HS'
  have HO' := Lib.hid (HO.out.below hb)
  clear HO
  have HO := HO'
  clear HO'
  have HN' := Lib.hid (HN.out.below hb)
  clear HN
  have HN := HN'
  clear HN'
  clear hb HB16
  clear HL
  clear HS
  have hbl := below_alloc w17 (.cells #[.int .i64 0, .int .i64 2] 3)
  have HL := Lib.hid (IntsIn.own (l := [0, 2]) (own_new w17 3 1 2 0 #[.int .i64 0, .int .i64 2] (Nat.zero_le _) rfl (by decide)))
  have HO' := Lib.hid (HO.out.below hbl)
  clear HO
  have HO := HO'
  clear HO'
  have HN' := Lib.hid (HN.out.below hbl)
  clear HN
  have HN := HN'
  clear HN'
  have HBL := Lib.hid (HB17.out.trans (hbl.mono HB17.out.size))
  clear HB17 hbl
  have HB17 := HBL
  clear HBL
  go_wp2_with fail
  refine (ints_lit (nz [0, 2]) 2 _ _ _ _ _ (by decide) HO.out HL.out).mono ?_
  rintro _ w18 ⟨rfl, hb⟩
  have HB18 := Lib.hid (HB17.out.trans (hb.mono HB17.out.size))
  have HO' := Lib.hid (HO.out.below hb)
  clear HO
  have HO := HO'
  clear HO'
  have HN' := Lib.hid (HN.out.below hb)
  clear HN
  have HN := HN'
  clear HN'
  clear hb HB17
  clear HL
  clear HO
  have hbl := below_alloc w18 (.cells #[.int .i64 0, .int .i64 2] 3)
  have HL := Lib.hid (IntsIn.own (l := [0, 2]) (own_new w18 3 1 2 0 #[.int .i64 0, .int .i64 2] (Nat.zero_le _) rfl (by decide)))
  have HN' := Lib.hid (HN.out.below hbl)
  clear HN
  have HN := HN'
  clear HN'
  have HBL := Lib.hid (HB18.out.trans (hbl.mono HB18.out.size))
  clear HB18 hbl
  have HB18 := HBL
  clear HBL
  go_wp2_with fail
  refine (ints_lit (nz [0, 2]) 2 _ _ _ _ _ (by decide) HN.out HL.out).mono ?_
  rintro _ w19 ⟨rfl, hb⟩
  have HB19 := Lib.hid (HB18.out.trans (hb.mono HB18.out.size))
  have HN' := Lib.hid (HN.out.below hb)
  clear HN
  have HN := HN'
  clear HN'
  clear hb HB18
  clear HL
  go_wp2_with fail
  go_ret
  exact ⟨rfl, HB19.out⟩
end Go.Proofs.YtgbdbikjckfgmaaGreat
