/- Link: the reference's list of all entries. -/
import Derived.Test.YtgbdbikjckfgmaaGreatNB
namespace Go.Proofs.YtgbdbikjckfgmaaGreat
open Go.RowKit Go.Shelf

theorem QR.one {w : World} {rv cv nv : Value} {e : En} (h : QR w rv cv nv e) : rv.oneCell' = true ∧ cv.oneCell' = true ∧ nv.oneCell' = true := by
  obtain ⟨h1, h2, h3, _⟩ := h
  obtain ⟨_, _, rfl⟩ := h1.slice
  obtain ⟨_, _, rfl⟩ := h2.slice
  obtain ⟨_, _, rfl⟩ := h3.slice
  exact ⟨rfl, rfl, rfl⟩
theorem eF_oneR {w : World} {E : Nat → En} {V : V3} {n : Nat} (h : ∀ j, j < n → QR w (V j).1 (V j).2.1 (V j).2.2 (E j)) : ∀ u ∈ eF E V n, u.oneCell' = true := by
  intro u hu
  unfold eF at hu
  obtain ⟨j, hj, hu⟩ := List.mem_flatMap.1 hu
  obtain ⟨a, b, c⟩ := (h j (List.mem_range.1 hj)).one
  simp only [e7, List.mem_cons, List.not_mem_nil, or_false] at hu
  rcases hu with rfl | rfl | rfl | rfl | rfl | rfl | rfl
  · rfl
  · rfl
  · exact a
  · exact b
  · rfl
  · exact c
  · rfl
theorem Tryz.infoREntry : (Tryz.prog.info? 77).map (fun i => (i.zero, i.size, i.bytes)) = some (some (.agg #[.int .i64 0, .int .i64 0, .slice none 0 0, .slice none 0 0, .int .i64 0, .slice none 0 0, .int .i64 0]), 7, 104) := by kernel_rfl
def GivesEn (w : World) (n : Nat) (E : Nat → En) (e : Ending) (w' : World) : Prop := ∃ a c, e = .returned (.slice a n c) ∧ EsQ QR w' (.slice a n c) n E ∧ Below w.heap.size w w'
set_option maxRecDepth 100000 in
set_option maxHeartbeats 4000000 in
theorem refAll_any (x : FV) (f : Fl) (w : World) (h : FlQ QR w x f) (h1 : f.no ≤ 8) (h2 : f.nw ≤ 8) :
    Calls Tryz.prog 67 #[.agg #[.slice x.oa f.no x.oc, .slice x.na f.nw x.nc, .slice x.ma f.nm x.mc]] w (GivesEn w (f.no + f.nw) f.E) := by
  obtain ⟨i0, hi0, hz0, hz1, hz2⟩ := info_parts Tryz.infoREntry
  obtain ⟨VO, hO, sO⟩ := h.o.pick
  obtain ⟨VN, hN, sN⟩ := h.n.pick
  have HA0 := Lib.hid ((BF.base w).alloc #[.slice x.oa f.no x.oc, .slice x.na f.nw x.nc, .slice x.ma f.nm x.mc] 25)
  have HAX : Hid (BF w (w.alloc (.cells #[.slice x.oa f.no x.oc, .slice x.na f.nw x.nc, .slice x.ma f.nm x.mc] 25)).drew [(w.heap.size, #[.slice x.oa f.no x.oc, .slice x.na f.nw x.nc, .slice x.ma f.nm x.mc], 25)]) := HA0.out.below (Below.refl _ _).drew
  have HLO := Lib.hid sO.1
  have HSO := Lib.hid (fun X (hb : Below w.heap.size w X) => sO.below (fun p v hv => below_cell hb p v hv))
  have HSN := Lib.hid (fun X (hb : Below w.heap.size w X) => sN.below (fun p v hv => below_cell hb p v hv))
  have HUO := Lib.hid (eF_oneR hO)
  have HUN := Lib.hid (eF_oneR hN)
  have HFI : Hid (∀ W v, Below w.heap.size w W → World.ownsRow W (w.heap.size + 1) 77 7 v (f.no + f.nw) (eF f.O VO f.no ++ eF f.N VN f.nw) → GivesEn w (f.no + f.nw) f.E (.returned v) W) := fun W v hb how => by
    obtain ⟨a, c, rfl⟩ := own_slice' how
    refine ⟨a, c, rfl, ?_, hb⟩
    rw [eF_append] at how
    refine EsQ.own (V := catE VO VN f.no) how fun j hj => ?_
    by_cases c : j < f.no
    · rw [show catE VO VN f.no j = VO j from if_pos c, show f.E j = f.O j from if_pos c]; exact QR.k _ _ _ _ _ _ (hO j c) hb
    · rw [show catE VO VN f.no j = VN (j - f.no) from if_neg c, show f.E j = f.N (j - f.no) from if_neg c]; exact QR.k _ _ _ _ _ _ (hN _ (by omega)) hb
  clear h hO sO hN sN HA0
  generalize GivesEn w (f.no + f.nw) f.E = G at *
  generalize eF f.O VO f.no = xo at *
  generalize eF f.N VN f.nw = xn at *
  generalize f.no = no at *
  generalize f.nw = nw at *
  generalize f.nm = nm at *
  go_enter Tryz.func67, Tryz.ntmps67
  go_wp2_with fail
  refine wp_region_Z (S := fun X => X.cell? ⟨w.heap.size, 0, none⟩ = some (.slice x.oa no x.oc) ∧ X.cell? ⟨w.heap.size, 1, none⟩ = some (.slice x.na nw x.nc)) (by kernel_rfl) (⟨HAX.out.cell (.head _) 0, HAX.out.cell (.head _) 1⟩) (fun hS => ?_)
  generalize (w.alloc (.cells #[.slice x.oa no x.oc, .slice x.na nw x.nc, .slice x.ma nm x.mc] 25)).drew = X at *
  refine tk [1, 2, 4, 5] ?_
  repeat (refine tkZ (oi := ⟨_, _, _, _, _, _⟩) (v := ?_) rfl (by kernel_rfl) (by rfl) (fun _ _ _ h => h) hS ?_ ?_; rotate_left; (· rintro W' ⟨z0, z1⟩; go_simp; try with_reducible rfl); try simp only [Act.put, putA, putZ, putS])
  refine tk0 ?_
  refine wpAnyZ_next (rs := [0]) (by kernel_rfl) (by simp) ?_
  refine NextZ.cons (o := ⟨some 3, _, _, _, _, _⟩) rfl (fun K hK => ?_) NextZ.nil
  go_simp
  have hXs : w.heap.size < X.heap.size := (HAX.out.lt (.head _)).2
  have HE1 := Lib.hid (own_empty X 77 7 (w.heap.size + 1) hXs)
  have HA1 := Lib.hid (HAX.out.alloc #[] 77)
  refine hK.out _ _ (⟨HA1.out.cell (.tail _ (.head _)) 0, HA1.out.cell (.tail _ (.head _)) 1⟩) (fun hS => ?_)
  clear hK K
  try simp only [Act.put, putA, putZ, putS]
  have HB1 := Lib.hid HA1.out.fr
  have HA1' : Hid (BF w (X.alloc (.cells #[] 77)) [(w.heap.size, #[.slice x.oa no x.oc, .slice x.na nw x.nc, .slice x.ma nm x.mc], 25)]) := HA1.out.sub (fun p hp => .tail _ hp)
  have hXs1 : (X.alloc (.cells #[] 77)).heap.size = X.heap.size + 1 := World.size_alloc _ _
  clear HA1 HAX
  generalize X.heap.size = BE at *
  generalize X.alloc (.cells #[] 77) = X1 at *
  refine wpAnyZ_next (rs := [3]) (by kernel_rfl) (by simp) ?_
  refine NextZ.cons (o := ⟨some 6, _, _, _, _, _⟩) rfl (fun K hK => ?_) NextZ.nil
  refine step_append_src X1 (by rfl) (.tmp 3) (.tmp 5) 22 (by rfl) (w.heap.size + 1) 77 i0 (.agg #[.int .i64 0, .int .i64 0, .slice none 0 0, .slice none 0 0, .int .i64 0, .slice none 0 0, .int .i64 0]) 7 104 Tryz.underlying22 hi0 hz0 hz1 hz2 rfl (by decide) (.slice (some ⟨BE, 0, none⟩) 0 0) 0 [] (by rfl) HE1.out x.oa no x.oc xo (by rfl) (HSO.out X1 HB1.out) HUO.out ?c1 ?c2 ?c3 ?_
  case c1 => unfold maxLen; omega
  case c2 => omega
  case c3 => omega
  intro v1 X2 hown hgr hat
  have hown' := own_cast hown (Nat.zero_add _) (List.nil_append _)
  have HO2 := Lib.hid hown'
  have hX1 := HB1.out.size
  have HA2 := Lib.hid (HA1'.out.fro (Fr.grown hgr) (fun q hq e => by have := own_low HE1.out e; omega) (fun p hp e => by
    have e2 := own_low HE1.out e
    rcases List.mem_singleton.1 hp with rfl
    have e3 : w.heap.size + 1 ≤ w.heap.size := e2
    omega))
  clear hown hown' hgr hat HE1 HA1'
  refine hK.out _ _ (⟨HA2.out.cell (.head _) 0, HA2.out.cell (.head _) 1⟩) (fun hS => ?_)
  clear hK K
  try simp only [Act.put, putA, putZ, putS]
  obtain ⟨va, vc, rfl⟩ := own_slice' HO2.out
  refine wpAnyZ_next (rs := [6]) (by kernel_rfl) (by simp) ?_
  refine NextZ.cons (o := ⟨some 9, _, _, _, _, _⟩) rfl (fun K hK => ?_) NextZ.nil
  refine step_append_src X2 (by rfl) (.tmp 6) (.tmp 8) 22 (by rfl) (w.heap.size + 1) 77 i0 (.agg #[.int .i64 0, .int .i64 0, .slice none 0 0, .slice none 0 0, .int .i64 0, .slice none 0 0, .int .i64 0]) 7 104 Tryz.underlying22 hi0 hz0 hz1 hz2 rfl (by decide) (.slice va no vc) no xo (by rfl) HO2.out x.na nw x.nc xn (by rfl) (HSN.out X2 HA2.out.fr) HUN.out ?d1 ?d2 ?d3 ?_
  case d1 => unfold maxLen; omega
  case d2 => omega
  case d3 => exact (HA2.out.lt (.head _)).2
  intro v2 X3 hown hgr hat
  have HO3 := Lib.hid hown
  have HA3 := Lib.hid (HA2.out.fro (Fr.grown hgr) (fun q hq e => by have := own_low HO2.out e; omega) (fun p hp e => by
    have e2 := own_low HO2.out e
    rcases List.mem_singleton.1 hp with rfl
    have e3 : w.heap.size + 1 ≤ w.heap.size := e2
    omega))
  clear hown hgr hat
  refine hK.out _ _ (⟨HA3.out.cell (.head _) 0, HA3.out.cell (.head _) 1⟩) (fun hS => ?_)
  clear hK K
  try simp only [Act.put, putA, putZ, putS]
  refine tk [7] ?_
  repeat (refine tkZ (oi := ⟨_, _, _, _, _, _⟩) (v := ?_) rfl (by kernel_rfl) (by rfl) (fun _ _ _ h => h) hS ?_ ?_; rotate_left; (· rintro W' ⟨z0, z1⟩; go_simp; try with_reducible rfl); try simp only [Act.put, putA, putZ, putS])
  refine tk0 ?_
  refine wpAnyZ_done (by kernel_rfl) ?_ _
  go_wp2_with fail
  exact HFI.out _ _ HA3.out.fr HO3.out
end Go.Proofs.YtgbdbikjckfgmaaGreat
