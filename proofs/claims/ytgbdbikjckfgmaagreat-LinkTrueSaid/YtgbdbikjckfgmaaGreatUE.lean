/- Link: what LinkTrue needs (5 of 5). -/
import Derived.Test.YtgbdbikjckfgmaaGreatND
import Derived.Test.YtgbdbikjckfgmaaGreatUA
import Derived.Test.YtgbdbikjckfgmaaGreatUB
import Derived.Test.YtgbdbikjckfgmaaGreatUC
import Derived.Test.YtgbdbikjckfgmaaGreatUD
import Derived.BigQuiet
import Derived.Carry
import Derived.Deep.AppendLies
import Derived.Deep.DeepCutAuto
import Derived.Deep.DrawnRows
import Derived.Deep.QuietTactic
import Derived.Deep.RegionHeld3
import Derived.Deep.RegionLawGrows
import Derived.Deep.RegionWith
import Derived.Deep.Slices
import Derived.Deep.Strs
import Derived.Laws.EntriesVeiled
import Derived.Laws.Rows
import Derived.Laws.Tables
import Derived.Lib.Hide
import Derived.Lib.SliceRun
import Derived.Lib.SmallJoins
import Derived.LoopIn
import Derived.LoopNIn
import Derived.LoopTactic
import Derived.Maps.AppendAt
import Derived.Maps.Keyed
import Derived.Maps.Views
import Derived.OpenShut
import Derived.OrdersHeld
import Derived.Outline
import Derived.OwnWalkIn
import Derived.ProofKit
import Derived.RangeFuncBound
import Derived.RangeFuncCalls
import Derived.RangeFuncLeaves
import Derived.RangeFuncNested
import Derived.Shelf.Abstract
import Derived.Shelf.RegionOpen
import Derived.SizedLaws
import Derived.TacticsInMore
import Derived.WalkKit
import Derived.WalkLawsBesides
import Derived.WalkSpells
namespace Go.Proofs.YtgbdbikjckfgmaaGreat
open Go.RowKit Go.Shelf
set_option maxRecDepth 100000 in
set_option maxHeartbeats 32000000 in
theorem linkTrue_new (x : FV) (f : Fl) (wa : Option Addr) (wn wc : Nat) (wz : Nat → Int) (w : World) (h : FlQ QR w x f) (hr : f.rdy = true) (h0 : 0 < f.nw) (hz : WordsIn w (.slice wa wn wc) wn wz) (hw : 0 < wn) :
    Calls Tryz.prog 13 #[.agg #[.slice x.oa f.no x.oc, .slice x.na f.nw x.nc, .slice x.ma f.nm x.mc], .slice wa wn wc] w fun e w' => e = .returned (.bool true) ∧ Below w.heap.size w w' := by
  obtain ⟨oa, oc, na, nc, ma, mc⟩ := x
  obtain ⟨ht, hf⟩ := Fl.rdy_yes hr
  have HTH := Lib.hid (readyW ⟨oa, oc, na, nc, ma, mc⟩ f w h true hr)
  have HFI := Lib.hid (fileW ⟨oa, oc, na, nc, ma, mc⟩ f w h ht)
  have OK := Lib.hid (Fl.ok hf)
  have hno := OK.out.no
  have hnw := OK.out.nw
  have hnm := OK.out.nm
  obtain ⟨i0, hi0, hz0, hz1, hz2⟩ := info_parts Tryz.infoREntry
  obtain ⟨j0, hj0, hj1, hj2, hj3⟩ := info_parts Tryz.infoRMv
  obtain ⟨g0, hg0, hg1, hg2, hg3⟩ := info_parts Tryz.infoInt0
  have HO : Hid (EsQ QR w (.slice oa f.no oc) f.no f.O) := h.o
  have HNE : Hid (EsQ QR w (.slice na f.nw nc) f.nw f.N) := h.n
  have sM := rs_src h.m
  have HSM := Lib.hid (fun X (hb : Below w.heap.size w X) => sM.below (fun p v hv => below_cell hb p v hv))
  have HUM := Lib.hid (mvL_oneC f.mf f.mt f.nm)
  have HFO := Lib.hid (fun j (hj : j < f.no) => (OK.out.o hj).2.1)
  have HFN := Lib.hid (fun j (hj : j < f.nw) => (OK.out.n hj).2.1)
  obtain ⟨wb, wo, rfl, hwb, hwc⟩ : ∃ wb wo, wa = some ⟨wb, wo, none⟩ ∧ wb < w.heap.size ∧ ∀ j, j < wn → w.cell? ⟨wb, wo + j, none⟩ = some (.int .u16 (wz j)) ∧ 0 ≤ wz j ∧ wz j ≤ 65535 := by
    rcases hz with ⟨_, _, _, e⟩ | ⟨b, o, _, e, hb, hc⟩
    · omega
    · simp only [Value.slice.injEq] at e
      exact ⟨b, o, e.1, hb, hc⟩
  have HWC := Lib.hid hwc
  have kwn : ((wn : Int) == 0) = false := by simp; omega
  clear h hr ht hf hz hwc OK sM
  dsimp only at HTH HFI ⊢
  generalize f.mf = mf0 at *
  generalize f.mt = mt0 at *
  generalize f.O = fO at *
  generalize f.N = fN at *
  generalize f.no = no at *
  generalize f.nw = nw at *
  generalize f.nm = nm at *
  have knwz : (0 : Int) < (nw : Int) := by omega
  have HA := Lib.hid ((BF.base w).alloc #[.slice oa no oc, .slice na nw nc, .slice ma nm mc] 25)
  go_enter Tryz.func13, Tryz.ntmps13
  have c0 := HA.out.cell (.head _) 0
  have c1 := HA.out.cell (.head _) 1
  have c2 := HA.out.cell (.head _) 2
  go_wp2_with fail
  refine (HTH.out _ HA.out.fr).mono ?_
  rintro _ x1 ⟨rfl, hb⟩
  have HA1 := Lib.hid (HA.out.below hb)
  clear hb HA c0 c1 c2
  have c2 := HA1.out.cell (.head _) 2
  have hx1 := (HA1.out.lt (.head _)).2
  have HS1 := Lib.hid (HSM.out _ (HA1.out.fr.trans ((below_alloc x1 (.cells #[] 63)).mono HA1.out.fr.size)))
  have HOE := Lib.hid (own_empty x1 63 2 w.heap.size HA1.out.fr.size)
  have HAB := Lib.hid (HA1.out.below (below_alloc x1 (.cells #[] 63)))
  go_wp2_with (at_builtin; refine wpList_append_src _ rfl (.tmp 28) (.tmp 30) 23 rfl w.heap.size 63 j0 (.agg #[.int .i64 0, .int .i64 0]) 2 16 Tryz.underlying23 hj0 hj1 hj2 hj3 rfl (by decide) (.slice (some ⟨x1.heap.size, 0, none⟩) 0 0) 0 [] rfl HOE.out ma nm mc (mvL mf0 mt0 nm) rfl HS1.out HUM.out ?k1 ?k2 ?k3 ?_)
  case k1 => unfold maxLen; omega
  case k2 => omega
  case k3 => (try rw [World.size_alloc]); have := HA1.out.fr.size; omega
  intro v' Y hown hgr hat
  have hown2 : Y.ownsRow w.heap.size 63 2 v' nm (mvL mf0 mt0 nm) := own_cast hown (by omega) (by simp)
  obtain ⟨mb1, md1, rfl⟩ := own_slice' hown2
  have HY : Hid (BF w Y [(w.heap.size, #[.slice oa no oc, .slice na nw nc, .slice ma nm mc], 25)]) := HAB.out.fro (Fr.grown hgr) (fun q hq e => by have h1 := own_low HOE.out e; omega) (fun p hp e => by
    simp only [List.mem_cons, List.not_mem_nil, or_false] at hp
    subst hp
    exact own_type_ne HOE.out (HAB.out.bk _ _ _ (.head _)).2 (by decide) e)
  have HOM := Lib.hid hown2
  clear hown hown2 hgr hat HA1 HAB HOE HS1 c2 HSM HUM hx1
  go_upto_region 4 with fail
  have hpx := (HY.out.lt (.head _)).2
  have HA : Hid (TS w (Y.alloc (.cells #[.slice none 0 0, .slice none 0 0, .slice mb1 nm md1] 25)) [(Y.heap.size, #[.slice none 0 0, .slice none 0 0, .slice mb1 nm md1], 25), (w.heap.size, #[.slice oa no oc, .slice na nw nc, .slice ma nm mc], 25)] (.slice none 0 0) 0 [] (.slice none 0 0) 0 [] (.slice mb1 nm md1) nm (mvL mf0 mt0 nm) (.slice none 0 0) 0 [] (.slice none 0 0) [] (.slice none 0 0) [] nm 0 (fun _ => ⟨⟨0, 0, 0, fun _ => ⟨0, 0, 0, 0⟩, 0, fun _ => ⟨0, 0, 0⟩⟩, 0, 0, fun _ => 0, 0⟩) (fun _ => ⟨⟨0, 0, 0, fun _ => ⟨0, 0, 0, 0⟩, 0, fun _ => ⟨0, 0, 0⟩⟩, 0, 0, fun _ => 0, 0⟩) (fun _ => (undef, undef, undef)) (fun _ => (undef, undef, undef)) mf0 mt0) :=
    ⟨HY.out.alloc _ _, Two.nil, own_below HOM.out (below_alloc Y _), World.ownsRow_nil _ _ _ _, World.ownsRow_nil _ _ _ _, World.ownsRow_nil _ _ _ _, ⟨fun j hj => absurd hj (Nat.not_lt_zero j), fun j hj => absurd hj (Nat.not_lt_zero j), fun j hj => absurd hj (Nat.not_lt_zero j)⟩⟩
  generalize Y.alloc (.cells #[.slice none 0 0, .slice none 0 0, .slice mb1 nm md1] 25) = xs at *
  generalize Y.heap.size = PX at *
  have HPX := Lib.hid hpx
  clear hpx HY HOM
  go_wp2_with fail
  go_loopw [6, 7] (fun l i wr => ∃ (k : Nat) (EO NR : Nat → En) (VO VN : V3) (mf mt : Nat → Int) (va : Option Addr) (vc : Nat) (ua : Option Addr) (uc : Nat) (mb : Option Addr) (md : Nat) (lb : Option Addr) (ld : Nat), i = .int .i64 (k : Int) ∧ l = .slice lb k ld ∧ k ≤ no ∧ ∃ (va' : Value) (la' : List Rc) (vb' : Value) (lb' : List Rc) (L' : List (Nat × Array Value × TypeId)), TS w wr ((PX, #[.slice va k vc, .slice ua k uc, .slice mb (nm + k) md], 25) :: (w.heap.size, #[.slice oa no oc, .slice na nw nc, .slice ma nm mc], 25) :: L') (.slice va k vc) k (eF EO VO k) (.slice ua k uc) k (eF NR VN k) (.slice mb (nm + k) md) (nm + k) (mvL mf mt (nm + k)) (.slice lb k ld) k (iL (lkT no) k) va' la' vb' lb' nm k EO NR VO VN mf mt) (fun _ i _ => no - (intOf i).toNat)
  case atStart => exact ⟨0, _, _, _, _, _, _, none, 0, none, 0, mb1, md1, none, 0, rfl, rfl, Nat.zero_le _, _, _, _, _, [], HA.out⟩
  case round =>
    clear HA
    obtain ⟨k, EO, NR, VO, VN, mf, mt, va, vc, ua, uc, mb, md, lb, ld, rfl, rfl, hk, va', la', vb', lb', L', hts⟩ := hrel
    rename World => wx
    have HA := Lib.hid (hts.sub (L' := [(PX, #[.slice va k vc, .slice ua k uc, .slice mb (nm + k) md], 25), (w.heap.size, #[.slice oa no oc, .slice na nw nc, .slice ma nm mc], 25)]) (List.forall_mem_cons.2 ⟨.head _, List.forall_mem_cons.2 ⟨.tail _ (.head _), List.forall_mem_nil _⟩⟩))
    clear hts
    by_cases hlt : k < no
    ·
      obtain ⟨ob, oo, rv, cv, nv, rfl, hob, h7, hqe⟩ := HO.out.at hlt
      obtain ⟨ek, hek⟩ : ∃ ek, fO k = ek := ⟨_, rfl⟩
      have hf0 := HFO.out k hlt
      rw [hek] at h7 hqe hf0
      clear hek
      obtain ⟨rva, rvc, rfl⟩ := hqe.1.slice
      obtain ⟨cva, cvc, rfl⟩ := hqe.2.1.slice
      obtain ⟨nva, nvc, rfl⟩ := hqe.2.2.1.slice
      obtain ⟨e70, e71, e72, e73, e74, e75, e76⟩ := h7
      have HEC : Hid (∀ X, Below w.heap.size w X → X.cell? ⟨ob, oo + k * 7, none⟩ = some (.int .i64 ek.p.lo) ∧ X.cell? ⟨ob, oo + k * 7 + 1, none⟩ = some (.int .i64 ek.p.hi) ∧ X.cell? ⟨ob, oo + k * 7 + 2, none⟩ = some (.slice rva ek.p.nr rvc) ∧ X.cell? ⟨ob, oo + k * 7 + 3, none⟩ = some (.slice cva ek.p.nc cvc) ∧ X.cell? ⟨ob, oo + k * 7 + 4, none⟩ = some (.int .i64 ek.sex) ∧ X.cell? ⟨ob, oo + k * 7 + 5, none⟩ = some (.slice nva ek.nn nvc) ∧ X.cell? ⟨ob, oo + k * 7 + 6, none⟩ = some (.int .i64 ek.pl)) := fun X hX => ⟨kept hX hob e70, kept hX hob e71, kept hX hob e72, kept hX hob e73, kept hX hob e74, kept hX hob e75, kept hX hob e76⟩
      clear e70 e71 e72 e73 e74 e75 e76
      have HQE := Lib.hid hqe
      clear hqe
      have HF0 := Lib.hid hf0
      clear hf0
      have ki : (0 : Int) ≤ (k : Int) := by omega
      have kj : (k : Int) < (no : Int) := by omega
      have hjn0 : k % nw < nw := Nat.mod_lt _ (by omega)
      have HJT : Hid ((k : Int).tmod (nw : Int) = ((k % nw : Nat) : Int)) := by unfold Hid; rw [Int.tmod_eq_emod_of_nonneg (by omega)]; rfl
      generalize k % nw = i1 at *
      obtain ⟨nb, no2, rv1, cv1, nv1, rfl, hnb, h8, hqn⟩ := HNE.out.at hjn0
      obtain ⟨en, hen⟩ : ∃ en, fN i1 = en := ⟨_, rfl⟩
      have hf1 := HFN.out i1 hjn0
      rw [hen] at h8 hqn hf1
      clear hen
      obtain ⟨rna, rnc, rfl⟩ := hqn.1.slice
      obtain ⟨cna, cnc, rfl⟩ := hqn.2.1.slice
      obtain ⟨e80, e81, e82, e83, _⟩ := h8
      have HEC2 : Hid (∀ X, Below w.heap.size w X → X.cell? ⟨nb, no2 + i1 * 7, none⟩ = some (.int .i64 en.p.lo) ∧ X.cell? ⟨nb, no2 + i1 * 7 + 1, none⟩ = some (.int .i64 en.p.hi) ∧ X.cell? ⟨nb, no2 + i1 * 7 + 2, none⟩ = some (.slice rna en.p.nr rnc) ∧ X.cell? ⟨nb, no2 + i1 * 7 + 3, none⟩ = some (.slice cna en.p.nc cnc)) := fun X hX => ⟨kept hX hnb e80, kept hX hnb e81, kept hX hnb e82, kept hX hnb e83⟩
      clear e80 e81 e82 e83
      have HQN := Lib.hid hqn
      clear hqn
      have HF1 := Lib.hid hf1
      clear hf1
      have ii0 : (0 : Int) ≤ (i1 : Int) := by omega
      have ii1 : (i1 : Int) < (nw : Int) := by omega
      have hm0 : k % wn < wn := Nat.mod_lt _ (by omega)
      have hm1 : (k + 1) % wn < wn := Nat.mod_lt _ (by omega)
      have hm2 : (k + 2) % wn < wn := Nat.mod_lt _ (by omega)
      have HT0 : Hid ((k : Int).tmod (wn : Int) = ((k % wn : Nat) : Int) ∧ ((k : Int) + 1).tmod (wn : Int) = (((k + 1) % wn : Nat) : Int) ∧ ((k : Int) + 2).tmod (wn : Int) = (((k + 2) % wn : Nat) : Int)) := ⟨by rw [Int.tmod_eq_emod_of_nonneg (by omega)]; rfl, by rw [Int.tmod_eq_emod_of_nonneg (by omega)]; rfl, by rw [Int.tmod_eq_emod_of_nonneg (by omega)]; rfl⟩
      generalize k % wn = q0 at *
      generalize (k + 1) % wn = q1 at *
      generalize (k + 2) % wn = q2 at *
      obtain ⟨hd0, hd00⟩ := HWC.out q0 hm0
      obtain ⟨hd1, hd10⟩ := HWC.out q1 hm1
      obtain ⟨hd2, hd20⟩ := HWC.out q2 hm2
      generalize wz q0 = d0 at *
      generalize wz q1 = d1 at *
      generalize wz q2 = d2 at *
      have HWX : Hid (∀ X, Below w.heap.size w X → X.cell? ⟨wb, wo + q0, none⟩ = some (.int .u16 d0) ∧ X.cell? ⟨wb, wo + q1, none⟩ = some (.int .u16 d1) ∧ X.cell? ⟨wb, wo + q2, none⟩ = some (.int .u16 d2)) := fun X hX => ⟨kept hX hwb hd0, kept hX hwb hd1, kept hX hwb hd2⟩
      clear hd0 hd1 hd2
      have HDB := Lib.hid (And.intro hd00 (And.intro hd10 hd20))
      clear hd00 hd10 hd20
      have qi0 : (0 : Int) ≤ (q0 : Int) := by omega
      have qj0 : (q0 : Int) < (wn : Int) := by omega
      have qi1 : (0 : Int) ≤ (q1 : Int) := by omega
      have qj1 : (q1 : Int) < (wn : Int) := by omega
      have qi2 : (0 : Int) ≤ (q2 : Int) := by omega
      have qj2 : (q2 : Int) < (wn : Int) := by omega
      have kwn0 : ¬ wn = 0 := by omega
      have kk1 : IntKind.i64.wrap ((k : Int) + 1) = (k : Int) + 1 := IntWalk.i64_in _ (by omega)
      have kk2 : IntKind.i64.wrap ((k : Int) + 2) = (k : Int) + 2 := IntWalk.i64_in _ (by omega)
      have c0 := HA.out.bf.cell (.tail _ (.head _)) 0
      go_upto_region 8 with fail
      clear c0
      go_upto_region 8 with fail
      have HA' := Lib.hid (HA.out.below (Below.refl wx.heap.size wx).drew)
      clear HA
      have HA := HA'
      clear HA'
      refine wp_region_Z (S := fun X => X.cell? ⟨wb, wo + q0, none⟩ = some (.int .u16 d0) ∧ X.cell? ⟨wb, wo + q1, none⟩ = some (.int .u16 d1) ∧ X.cell? ⟨wb, wo + q2, none⟩ = some (.int .u16 d2)) (by kernel_rfl) (⟨(HWX.out _ HA.out.bf.fr).1, (HWX.out _ HA.out.bf.fr).2.1, (HWX.out _ HA.out.bf.fr).2.2⟩) (fun hS => ?_)
      generalize wx.drew = X at *
      refine tk [0, 1, 2, 3] ?_
      repeat (refine tkZ (oi := ⟨_, _, _, _, _, _⟩) (v := ?_) rfl (by kernel_rfl) (by rfl) (fun _ _ _ h => h) hS ?_ ?_; rotate_left; (· rintro W' ⟨z0, z1, z2⟩; go_simp; try with_reducible rfl); try simp only [Act.put, putA, putZ, putS])
      refine tk0 ?_
      refine wpAnyZ_take (i := 4) (oi := ⟨some 44, _, _, _, _, _⟩) (v := .int .i64 (q0 : Int)) rfl (by kernel_rfl) (by kernel_rfl) (by kernel_rfl) (fun _ _ _ h => h) (Or.inl ⟨by rfl, by rintro W' ⟨z0, z1, z2⟩; go_simp; (try rw [if_neg kwn0]); (try rw [HT0.out.1])⟩) hS ?_
      try simp only [Act.put, putA, putZ, putS]
      refine tk [5, 6, 7, 8] ?_
      repeat (refine tkZ (oi := ⟨_, _, _, _, _, _⟩) (v := ?_) rfl (by kernel_rfl) (by rfl) (fun _ _ _ h => h) hS ?_ ?_; rotate_left; (· rintro W' ⟨z0, z1, z2⟩; go_simp; try with_reducible rfl); try simp only [Act.put, putA, putZ, putS])
      refine tk0 ?_
      refine wpAnyZ_take (i := 9) (oi := ⟨some 49, _, _, _, _, _⟩) (v := .int .i64 ((k : Int) + 1)) rfl (by kernel_rfl) (by kernel_rfl) (by kernel_rfl) (fun _ _ _ h => h) (Or.inl ⟨by rfl, by rintro W' ⟨z0, z1, z2⟩; go_simp; try rw [kk1]⟩) hS ?_
      try simp only [Act.put, putA, putZ, putS]
      refine tk [10, 11] ?_
      repeat (refine tkZ (oi := ⟨_, _, _, _, _, _⟩) (v := ?_) rfl (by kernel_rfl) (by rfl) (fun _ _ _ h => h) hS ?_ ?_; rotate_left; (· rintro W' ⟨z0, z1, z2⟩; go_simp; try with_reducible rfl); try simp only [Act.put, putA, putZ, putS])
      refine tk0 ?_
      refine wpAnyZ_take (i := 12) (oi := ⟨some 52, _, _, _, _, _⟩) (v := .int .i64 (q1 : Int)) rfl (by kernel_rfl) (by kernel_rfl) (by kernel_rfl) (fun _ _ _ h => h) (Or.inl ⟨by rfl, by rintro W' ⟨z0, z1, z2⟩; go_simp; (try rw [if_neg kwn0]); (try rw [HT0.out.2.1])⟩) hS ?_
      try simp only [Act.put, putA, putZ, putS]
      refine tk [13, 14, 15, 16] ?_
      repeat (refine tkZ (oi := ⟨_, _, _, _, _, _⟩) (v := ?_) rfl (by kernel_rfl) (by rfl) (fun _ _ _ h => h) hS ?_ ?_; rotate_left; (· rintro W' ⟨z0, z1, z2⟩; go_simp; try with_reducible rfl); try simp only [Act.put, putA, putZ, putS])
      refine tk0 ?_
      refine wpAnyZ_take (i := 17) (oi := ⟨some 57, _, _, _, _, _⟩) (v := .int .i64 ((k : Int) + 2)) rfl (by kernel_rfl) (by kernel_rfl) (by kernel_rfl) (fun _ _ _ h => h) (Or.inl ⟨by rfl, by rintro W' ⟨z0, z1, z2⟩; go_simp; try rw [kk2]⟩) hS ?_
      try simp only [Act.put, putA, putZ, putS]
      refine tk [18, 19] ?_
      repeat (refine tkZ (oi := ⟨_, _, _, _, _, _⟩) (v := ?_) rfl (by kernel_rfl) (by rfl) (fun _ _ _ h => h) hS ?_ ?_; rotate_left; (· rintro W' ⟨z0, z1, z2⟩; go_simp; try with_reducible rfl); try simp only [Act.put, putA, putZ, putS])
      refine tk0 ?_
      refine wpAnyZ_take (i := 20) (oi := ⟨some 60, _, _, _, _, _⟩) (v := .int .i64 (q2 : Int)) rfl (by kernel_rfl) (by kernel_rfl) (by kernel_rfl) (fun _ _ _ h => h) (Or.inl ⟨by rfl, by rintro W' ⟨z0, z1, z2⟩; go_simp; (try rw [if_neg kwn0]); (try rw [HT0.out.2.2])⟩) hS ?_
      try simp only [Act.put, putA, putZ, putS]
      refine tk [21, 22] ?_
      repeat (refine tkZ (oi := ⟨_, _, _, _, _, _⟩) (v := ?_) rfl (by kernel_rfl) (by rfl) (fun _ _ _ h => h) hS ?_ ?_; rotate_left; (· rintro W' ⟨z0, z1, z2⟩; go_simp; try with_reducible rfl); try simp only [Act.put, putA, putZ, putS])
      refine tk0 ?_
      refine wpAnyZ_next (rs := [23]) (by kernel_rfl) (by simp) ?_
      refine NextZ.cons (o := ⟨some 63, _, _, _, _, _⟩) rfl (fun K hK => ?_) NextZ.nil
      go_simp
      have hlw := (HA.out.bf.lt (.head _)).2
      have HA' := Lib.hid (HA.out.alloc #[.int .u16 d0, .int .u16 d1, .int .u16 d2] 83)
      clear HA
      have HA := HA'
      clear HA'
      refine hK.out _ _ (⟨(HWX.out _ HA.out.bf.fr).1, (HWX.out _ HA.out.bf.fr).2.1, (HWX.out _ HA.out.bf.fr).2.2⟩) (fun hS => ?_)
      clear hK K
      try simp only [Act.put, putA, putZ, putS]
      clear hS
      generalize X.heap.size = WB at *
      generalize X.alloc (.cells #[.int .u16 d0, .int .u16 d1, .int .u16 d2] 83) = X1 at *
      have hS : (fun X : World => X.cell? ⟨wb, wo + q0, none⟩ = some (.int .u16 d0) ∧ X.cell? ⟨wb, wo + q1, none⟩ = some (.int .u16 d1) ∧ X.cell? ⟨wb, wo + q2, none⟩ = some (.int .u16 d2)) X1 := ⟨(HWX.out _ HA.out.bf.fr).1, (HWX.out _ HA.out.bf.fr).2.1, (HWX.out _ HA.out.bf.fr).2.2⟩
      refine tk [24] ?_
      repeat (refine tkZ (oi := ⟨_, _, _, _, _, _⟩) (v := ?_) rfl (by kernel_rfl) (by rfl) (fun _ _ _ h => h) hS ?_ ?_; rotate_left; (· rintro W' ⟨z0, z1, z2⟩; go_simp; try with_reducible rfl); try simp only [Act.put, putA, putZ, putS])
      refine tk0 ?_
      refine wpAnyZ_done (by kernel_rfl) ?_ _
      clear hS
      have HORD : Hid (w.heap.size < PX ∧ PX < WB) := ⟨HPX.out, hlw⟩
      clear hlw
      have HWD : Hid (∀ X, BF w X [(WB, #[.int .u16 d0, .int .u16 d1, .int .u16 d2], 83)] → WordsIn X (.slice (some ⟨WB, 0, none⟩) 3 3) 3 (w3 d0 d1 d2)) := fun X hX => words3 hX (.head _) HDB.out.1 HDB.out.2.1 HDB.out.2.2
      have c0 := HA.out.bf.cell (.tail _ (.tail _ (.head _))) 0
      have hec := HEC.out _ HA.out.bf.fr
      obtain ⟨e0, e1, e2, e3, _⟩ := hec
      have HTR := Lib.hid (truly_own (.slice rva ek.p.nr rvc) (.slice cva ek.p.nc cvc) (.slice (some ⟨WB, 0, none⟩) 3 3) ek.p 3 (w3 d0 d1 d2) X1 (HQE.out.1.below HA.out.bf.fr) (HQE.out.2.1.below HA.out.bf.fr) HF0.out (HWD.out _ (HA.out.bf.sub (List.forall_mem_cons.2 ⟨(.head _), List.forall_mem_nil _⟩))) (by decide))
      go_wp2_with fail
      refine HTR.out.mono ?_
      rintro _ X2 ⟨l1, v2a, rfl, hcr, htr, hb⟩
      obtain ⟨v2aa, v2ac, rfl⟩ := own_slice' hcr
      have HA' := Lib.hid ((HA.out.below hb).setca hcr.zero)
      clear HA
      have HA := HA'
      clear HA'
      have HTA := Lib.hid htr
      clear hcr htr hb HTR c0 e0 e1 e2 e3
      go_upto_region 10 with fail
      have hlw := (HA.out.bf.lt (.head _)).2
      have HA' := Lib.hid (HA.out.alloc #[.int .i64 ek.p.lo, .int .i64 ek.p.hi, .slice rva ek.p.nr rvc, .slice v2aa l1.length v2ac] 75)
      clear HA
      have HA := HA'
      clear HA'
      generalize X2.heap.size = PA at *
      generalize X2.alloc (.cells #[.int .i64 ek.p.lo, .int .i64 ek.p.hi, .slice rva ek.p.nr rvc, .slice v2aa l1.length v2ac] 75) = X3 at *
      have HORD' : Hid ((w.heap.size < PX ∧ PX < WB) ∧ WB < PA) := ⟨HORD.out, hlw⟩
      clear HORD hlw
      have HORD := HORD'
      clear HORD'
      have c0 := HA.out.bf.cell (.tail _ (.tail _ (.tail _ (.head _)))) 0
      obtain ⟨e0, e1, e2, e3, _⟩ := HEC.out _ HA.out.bf.fr
      go_upto_region 11 with fail
      have hlw := (HA.out.bf.lt (.head _)).2
      have HA' := Lib.hid (HA.out.alloc #[.int .i64 ek.p.lo, .int .i64 ek.p.hi, .slice rva ek.p.nr rvc, .slice cva ek.p.nc cvc] 75)
      clear HA
      have HA := HA'
      clear HA'
      generalize X3.heap.size = PB at *
      generalize X3.alloc (.cells #[.int .i64 ek.p.lo, .int .i64 ek.p.hi, .slice rva ek.p.nr rvc, .slice cva ek.p.nc cvc] 75) = X4 at *
      have HORD' : Hid (((w.heap.size < PX ∧ PX < WB) ∧ WB < PA) ∧ PA < PB) := ⟨HORD.out, hlw⟩
      clear HORD hlw
      have HORD := HORD'
      clear HORD'
      clear c0 e0 e1 e2 e3
      have c1 := HA.out.bf.cell (.tail _ (.tail _ (.tail _ (.tail _ (.head _))))) 1
      have knw0 : ¬ nw = 0 := by omega
      have knw1 : (0 : Int) < (nw : Int) := by omega
      go_upto_region 12 with fail
      clear c1
      go_upto_region 12 with fail
      have HA' := Lib.hid (HA.out.below (Below.refl X4.heap.size X4).drew)
      clear HA
      have HA := HA'
      clear HA'
      refine wp_region_Z (S := fun X => X.cell? ⟨w.heap.size, 1, none⟩ = some (.slice (some ⟨nb, no2, none⟩) nw nc) ∧ X.cell? ⟨nb, no2 + i1 * 7, none⟩ = some (.int .i64 en.p.lo) ∧ X.cell? ⟨nb, no2 + i1 * 7 + 1, none⟩ = some (.int .i64 en.p.hi) ∧ X.cell? ⟨nb, no2 + i1 * 7 + 2, none⟩ = some (.slice rna en.p.nr rnc) ∧ X.cell? ⟨nb, no2 + i1 * 7 + 3, none⟩ = some (.slice cna en.p.nc cnc)) (by kernel_rfl) (⟨HA.out.bf.cell (.tail _ (.tail _ (.tail _ (.tail _ (.head _))))) 1, (HEC2.out _ HA.out.bf.fr).1, (HEC2.out _ HA.out.bf.fr).2.1, (HEC2.out _ HA.out.bf.fr).2.2.1, (HEC2.out _ HA.out.bf.fr).2.2.2⟩) (fun hS => ?_)
      generalize X4.drew = X at *
      refine tk [0, 1, 2, 3, 4, 5] ?_
      repeat (refine tkZ (oi := ⟨_, _, _, _, _, _⟩) (v := ?_) rfl (by kernel_rfl) (by rfl) (fun _ _ _ h => h) hS ?_ ?_; rotate_left; (· rintro W' ⟨z0, z1, z2, z3, z4⟩; go_simp; try with_reducible rfl); try simp only [Act.put, putA, putZ, putS])
      refine tk0 ?_
      refine wpAnyZ_take (i := 6) (oi := ⟨some 91, _, _, _, _, _⟩) (v := .int .i64 (i1 : Int)) rfl (by kernel_rfl) (by kernel_rfl) (by kernel_rfl) (fun _ _ _ h => h) (Or.inl ⟨by rfl, by rintro W' ⟨z0, z1, z2, z3, z4⟩; go_simp; (try rw [if_neg knw0]); (try rw [HJT.out])⟩) hS ?_
      try simp only [Act.put, putA, putZ, putS]
      refine tk [7, 8, 9] ?_
      repeat (refine tkZ (oi := ⟨_, _, _, _, _, _⟩) (v := ?_) rfl (by kernel_rfl) (by rfl) (fun _ _ _ h => h) hS ?_ ?_; rotate_left; (· rintro W' ⟨z0, z1, z2, z3, z4⟩; go_simp; try with_reducible rfl); try simp only [Act.put, putA, putZ, putS])
      refine tk0 ?_
      refine wpAnyZ_next (rs := [10]) (by kernel_rfl) (by simp) ?_
      refine NextZ.cons (o := ⟨some 12, _, _, _, _, _⟩) rfl (fun K hK => ?_) NextZ.nil
      go_simp
      have hlw := (HA.out.bf.lt (.head _)).2
      have HA' := Lib.hid (HA.out.alloc #[.int .i64 0, .int .i64 0, .slice none 0 0, .slice none 0 0] 75)
      clear HA
      have HA := HA'
      clear HA'
      refine hK.out _ _ (⟨HA.out.bf.cell (.tail _ (.tail _ (.tail _ (.tail _ (.tail _ (.head _)))))) 1, (HEC2.out _ HA.out.bf.fr).1, (HEC2.out _ HA.out.bf.fr).2.1, (HEC2.out _ HA.out.bf.fr).2.2.1, (HEC2.out _ HA.out.bf.fr).2.2.2⟩) (fun hS => ?_)
      clear hK K
      try simp only [Act.put, putA, putZ, putS]
      clear hS
      generalize X.heap.size = PM at *
      generalize X.alloc (.cells #[.int .i64 0, .int .i64 0, .slice none 0 0, .slice none 0 0] 75) = X5 at *
      have HORD' : Hid ((((w.heap.size < PX ∧ PX < WB) ∧ WB < PA) ∧ PA < PB) ∧ PB < PM) := ⟨HORD.out, hlw⟩
      clear HORD hlw
      have HORD := HORD'
      clear HORD'
      refine wpAnyZ_next (rs := [11]) (by kernel_rfl) (by simp) ?_
      refine NextZ.last (o := ⟨none, _, _, _, _, _⟩) rfl (by kernel_rfl) (fun K hK => ?_)
      have u0 := HA.out.bf.cell (.head _) 0
      have f0 := HA.out.bf.thaw (.head _) 0
      have u1 := HA.out.bf.cell (.head _) 1
      have f1 := HA.out.bf.thaw (.head _) 1
      have u2 := HA.out.bf.cell (.head _) 2
      have f2 := HA.out.bf.thaw (.head _) 2
      have u3 := HA.out.bf.cell (.head _) 3
      have f3 := HA.out.bf.thaw (.head _) 3
      have HA' := Lib.hid (HA.out.set4 (.head _) (.int .i64 en.p.lo) (.int .i64 en.p.hi) (.slice rna en.p.nr rnc) (.slice cna en.p.nc cnc) (L' := [(PB, #[.int .i64 ek.p.lo, .int .i64 ek.p.hi, .slice rva ek.p.nr rvc, .slice cva ek.p.nc cvc], 75), (PA, #[.int .i64 ek.p.lo, .int .i64 ek.p.hi, .slice rva ek.p.nr rvc, .slice v2aa l1.length v2ac], 75), (WB, #[.int .u16 d0, .int .u16 d1, .int .u16 d2], 83), (PX, #[.slice va k vc, .slice ua k uc, .slice mb (nm + k) md], 25), (w.heap.size, #[.slice (some ⟨ob, oo, none⟩) no oc, .slice (some ⟨nb, no2, none⟩) nw nc, .slice ma nm mc], 25)]) (List.forall_mem_cons.2 ⟨⟨show PB ≠ PM by have := HORD.out; omega, (.tail _ (.head _))⟩, List.forall_mem_cons.2 ⟨⟨show PA ≠ PM by have := HORD.out; omega, (.tail _ (.tail _ (.head _)))⟩, List.forall_mem_cons.2 ⟨⟨show WB ≠ PM by have := HORD.out; omega, (.tail _ (.tail _ (.tail _ (.head _))))⟩, List.forall_mem_cons.2 ⟨⟨show PX ≠ PM by have := HORD.out; omega, (.tail _ (.tail _ (.tail _ (.tail _ (.head _)))))⟩, List.forall_mem_cons.2 ⟨⟨show w.heap.size ≠ PM by have := HORD.out; omega, (.tail _ (.tail _ (.tail _ (.tail _ (.tail _ (.head _))))))⟩, List.forall_mem_nil _⟩⟩⟩⟩⟩) (by decide))
      clear HA
      have HA := HA'
      clear HA'
      go_simp
      refine hK.out _ _ ?_
      clear hK K
      try simp only [Act.put, putA, putZ, putS]
      clear u0 u1 u2 u3 f0 f1 f2 f3
      refine wpAnyZ_done (by kernel_rfl) ?_ _
      generalize ((((X5.setCell ⟨PM, 0, none⟩ (.int .i64 en.p.lo)).setCell ⟨PM, 1, none⟩ (.int .i64 en.p.hi)).setCell ⟨PM, 2, none⟩ (.slice rna en.p.nr rnc)).setCell ⟨PM, 3, none⟩ (.slice cna en.p.nc cnc)) = X6 at *
      go_upto_region 13 with fail
      have HA' := Lib.hid (HA.out.below (Below.refl X6.heap.size X6).drew)
      clear HA
      have HA := HA'
      clear HA'
      refine wp_region_Z (S := fun X => X.cell? ⟨w.heap.size, 0, none⟩ = some (.slice (some ⟨ob, oo, none⟩) no oc) ∧ X.cell? ⟨ob, oo + k * 7, none⟩ = some (.int .i64 ek.p.lo) ∧ X.cell? ⟨ob, oo + k * 7 + 1, none⟩ = some (.int .i64 ek.p.hi) ∧ X.cell? ⟨PM, 2, none⟩ = some (.slice rna en.p.nr rnc) ∧ X.cell? ⟨PM, 3, none⟩ = some (.slice cna en.p.nc cnc)) (by kernel_rfl) (⟨HA.out.bf.cell (.tail _ (.tail _ (.tail _ (.tail _ (.tail _ (.head _)))))) 0, (HEC.out _ HA.out.bf.fr).1, (HEC.out _ HA.out.bf.fr).2.1, HA.out.bf.cell (.head _) 2, HA.out.bf.cell (.head _) 3⟩) (fun hS => ?_)
      generalize X6.drew = X at *
      refine tk [0, 1, 2, 3, 4, 5, 6, 7, 8, 9, 10, 11] ?_
      repeat (refine tkZ (oi := ⟨_, _, _, _, _, _⟩) (v := ?_) rfl (by kernel_rfl) (by rfl) (fun _ _ _ h => h) hS ?_ ?_; rotate_left; (· rintro W' ⟨z0, z1, z2, z3, z4⟩; go_simp; try with_reducible rfl); try simp only [Act.put, putA, putZ, putS])
      refine tk0 ?_
      refine wpAnyZ_next (rs := [12]) (by kernel_rfl) (by simp) ?_
      refine NextZ.last (o := ⟨none, _, _, _, _, _⟩) rfl (by kernel_rfl) (fun K hK => ?_)
      have u0 := HA.out.bf.cell (.tail _ (.head _)) 0
      have f0 := HA.out.bf.thaw (.tail _ (.head _)) 0
      have u1 := HA.out.bf.cell (.tail _ (.head _)) 1
      have f1 := HA.out.bf.thaw (.tail _ (.head _)) 1
      have u2 := HA.out.bf.cell (.tail _ (.head _)) 2
      have f2 := HA.out.bf.thaw (.tail _ (.head _)) 2
      have u3 := HA.out.bf.cell (.tail _ (.head _)) 3
      have f3 := HA.out.bf.thaw (.tail _ (.head _)) 3
      have HA' := Lib.hid (HA.out.set4 (.tail _ (.head _)) (.int .i64 ek.p.lo) (.int .i64 ek.p.hi) (.slice rna en.p.nr rnc) (.slice cna en.p.nc cnc) (L' := [(PM, #[.int .i64 en.p.lo, .int .i64 en.p.hi, .slice rna en.p.nr rnc, .slice cna en.p.nc cnc], 75), (PA, #[.int .i64 ek.p.lo, .int .i64 ek.p.hi, .slice rva ek.p.nr rvc, .slice v2aa l1.length v2ac], 75), (WB, #[.int .u16 d0, .int .u16 d1, .int .u16 d2], 83), (PX, #[.slice va k vc, .slice ua k uc, .slice mb (nm + k) md], 25), (w.heap.size, #[.slice (some ⟨ob, oo, none⟩) no oc, .slice (some ⟨nb, no2, none⟩) nw nc, .slice ma nm mc], 25)]) (List.forall_mem_cons.2 ⟨⟨show PM ≠ PB by have := HORD.out; omega, (.head _)⟩, List.forall_mem_cons.2 ⟨⟨show PA ≠ PB by have := HORD.out; omega, (.tail _ (.tail _ (.head _)))⟩, List.forall_mem_cons.2 ⟨⟨show WB ≠ PB by have := HORD.out; omega, (.tail _ (.tail _ (.tail _ (.head _))))⟩, List.forall_mem_cons.2 ⟨⟨show PX ≠ PB by have := HORD.out; omega, (.tail _ (.tail _ (.tail _ (.tail _ (.head _)))))⟩, List.forall_mem_cons.2 ⟨⟨show w.heap.size ≠ PB by have := HORD.out; omega, (.tail _ (.tail _ (.tail _ (.tail _ (.tail _ (.head _))))))⟩, List.forall_mem_nil _⟩⟩⟩⟩⟩) (by decide))
      clear HA
      have HA := HA'
      clear HA'
      go_simp
      refine hK.out _ _ ?_
      clear hK K
      try simp only [Act.put, putA, putZ, putS]
      clear u0 u1 u2 u3 f0 f1 f2 f3
      refine wpAnyZ_done (by kernel_rfl) ?_ _
      generalize ((((X.setCell ⟨PB, 0, none⟩ (.int .i64 ek.p.lo)).setCell ⟨PB, 1, none⟩ (.int .i64 ek.p.hi)).setCell ⟨PB, 2, none⟩ (.slice rna en.p.nr rnc)).setCell ⟨PB, 3, none⟩ (.slice cna en.p.nc cnc)) = X7 at *
      have HPB : Hid (RlsIn w (.slice rna en.p.nr rnc) (Pers.mk ek.p.lo ek.p.hi en.p.nr en.p.R en.p.nc en.p.C).nr (Pers.mk ek.p.lo ek.p.hi en.p.nr en.p.R en.p.nc en.p.C).R ∧ RcsIn w (.slice cna en.p.nc cnc) en.p.nc en.p.C ∧ (Pers.mk ek.p.lo ek.p.hi en.p.nr en.p.R en.p.nc en.p.C).fault = 0) := ⟨HQN.out.1, HQN.out.2.1, mix_fault HF0.out HF1.out⟩
      have u0 := HA.out.bf.cell (.head _) 0
      have u1 := HA.out.bf.cell (.head _) 1
      have u2 := HA.out.bf.cell (.head _) 2
      have u3 := HA.out.bf.cell (.head _) 3
      have HTR := Lib.hid (truly_own (.slice rna en.p.nr rnc) (.slice cna en.p.nc cnc) (.slice (some ⟨WB, 0, none⟩) 3 3) (Pers.mk ek.p.lo ek.p.hi en.p.nr en.p.R en.p.nc en.p.C) 3 (w3 d0 d1 d2) X7 (HPB.out.1.below HA.out.bf.fr) (HPB.out.2.1.below HA.out.bf.fr) HPB.out.2.2 (HWD.out _ (HA.out.bf.sub (List.forall_mem_cons.2 ⟨(.tail _ (.tail _ (.tail _ (.head _)))), List.forall_mem_nil _⟩))) (by decide))
      go_wp2_with fail
      refine HTR.out.mono ?_
      rintro _ X8 ⟨l2, v2b, rfl, hcr, htr, hb⟩
      obtain ⟨v2ba, v2bc, rfl⟩ := own_slice' hcr
      have HA' := Lib.hid ((HA.out.below hb).setcb hcr.zero)
      clear HA
      have HA := HA'
      clear HA'
      have HTB := Lib.hid htr
      clear hcr htr hb HTR u0 u1 u2 u3
      go_upto_region 15 with fail
      have hlw := (HA.out.bf.lt (.tail _ (.head _))).2
      have HA' := Lib.hid (HA.out.alloc #[.int .i64 ek.p.lo, .int .i64 ek.p.hi, .slice rna en.p.nr rnc, .slice v2ba l2.length v2bc] 75)
      clear HA
      have HA := HA'
      clear HA'
      generalize X8.heap.size = PD at *
      generalize X8.alloc (.cells #[.int .i64 ek.p.lo, .int .i64 ek.p.hi, .slice rna en.p.nr rnc, .slice v2ba l2.length v2bc] 75) = X9 at *
      have HORD' : Hid (((((w.heap.size < PX ∧ PX < WB) ∧ WB < PA) ∧ PA < PB) ∧ PB < PM) ∧ PM < PD) := ⟨HORD.out, hlw⟩
      clear HORD hlw
      have HORD := HORD'
      clear HORD'
      have HDAY : Hid (∃ d, hasR (trP ek.p l1).born d = true ∧ hasR (trP (Pers.mk ek.p.lo ek.p.hi en.p.nr en.p.R en.p.nc en.p.C) l2).born d = true) := ⟨_, HTA.out.2.2.2, HTB.out.2.2.2⟩
      have HSZ : Hid (l1.length ≤ maxLen ∧ (Pers.mk ek.p.lo ek.p.hi en.p.nr en.p.R en.p.nc en.p.C).nr ≤ maxLen ∧ l2.length ≤ maxLen) := by
        have a1 := Pers.ok_facts HTA.out.1
        have a2 := Pers.ok_facts HTB.out.1
        have b1 : l1.length ≤ 8 := a1.2.1
        have b2 : l2.length ≤ 8 := a2.2.1
        have b3 : (Pers.mk ek.p.lo ek.p.hi en.p.nr en.p.R en.p.nc en.p.C).nr ≤ 4 := a2.1
        unfold Hid maxLen; omega
      clear HTA HTB
      have HA' := Lib.hid (HA.out.sub (L' := [(PD, #[.int .i64 ek.p.lo, .int .i64 ek.p.hi, .slice rna en.p.nr rnc, .slice v2ba l2.length v2bc], 75), (PA, #[.int .i64 ek.p.lo, .int .i64 ek.p.hi, .slice rva ek.p.nr rvc, .slice v2aa l1.length v2ac], 75), (WB, #[.int .u16 d0, .int .u16 d1, .int .u16 d2], 83), (PX, #[.slice va k vc, .slice ua k uc, .slice mb (nm + k) md], 25), (w.heap.size, #[.slice (some ⟨ob, oo, none⟩) no oc, .slice (some ⟨nb, no2, none⟩) nw nc, .slice ma nm mc], 25)]) (List.forall_mem_cons.2 ⟨(.head _), List.forall_mem_cons.2 ⟨(.tail _ (.tail _ (.tail _ (.head _)))), List.forall_mem_cons.2 ⟨(.tail _ (.tail _ (.tail _ (.tail _ (.head _))))), List.forall_mem_cons.2 ⟨(.tail _ (.tail _ (.tail _ (.tail _ (.tail _ (.head _)))))), List.forall_mem_cons.2 ⟨(.tail _ (.tail _ (.tail _ (.tail _ (.tail _ (.tail _ (.head _))))))), List.forall_mem_nil _⟩⟩⟩⟩⟩))
      clear HA
      have HA := HA'
      clear HA'
      go_upto_region 15 with fail
      have HA' := Lib.hid (HA.out.below (Below.refl X9.heap.size X9).drew)
      clear HA
      have HA := HA'
      clear HA'
      refine wp_region_Z (S := fun X => X.cell? ⟨w.heap.size, 0, none⟩ = some (.slice (some ⟨ob, oo, none⟩) no oc) ∧ X.cell? ⟨ob, oo + k * 7, none⟩ = some (.int .i64 ek.p.lo) ∧ X.cell? ⟨ob, oo + k * 7 + 1, none⟩ = some (.int .i64 ek.p.hi) ∧ X.cell? ⟨ob, oo + k * 7 + 2, none⟩ = some (.slice rva ek.p.nr rvc) ∧ X.cell? ⟨ob, oo + k * 7 + 3, none⟩ = some (.slice cva ek.p.nc cvc) ∧ X.cell? ⟨ob, oo + k * 7 + 4, none⟩ = some (.int .i64 ek.sex) ∧ X.cell? ⟨ob, oo + k * 7 + 5, none⟩ = some (.slice nva ek.nn nvc) ∧ X.cell? ⟨ob, oo + k * 7 + 6, none⟩ = some (.int .i64 ek.pl)) (by kernel_rfl) (⟨HA.out.bf.cell (.tail _ (.tail _ (.tail _ (.tail _ (.head _))))) 0, HEC.out _ HA.out.bf.fr⟩) (fun hS => ?_)
      generalize X9.drew = X at *
      refine tk [0, 1, 2, 3, 4, 5, 6, 7, 8, 9] ?_
      repeat (refine tkZ (oi := ⟨_, _, _, _, _, _⟩) (v := ?_) rfl (by kernel_rfl) (by rfl) (fun _ _ _ h => h) hS ?_ ?_; rotate_left; (· rintro W' ⟨z0, z1, z2, z3, z4, z5, z6, z7⟩; go_simp; try with_reducible rfl); try simp only [Act.put, putA, putZ, putS])
      refine tk0 ?_
      apply joinB
      · intro REST
        refine wpAnyZ_next (rs := [10, 11]) (by kernel_rfl) (by simp) ?_
        refine NextZ.cons (o := ⟨some 15, _, _, _, _, _⟩) rfl (fun K hK => ?_) ?_
        ·
          have HA := HA
          go_simp
          have hl0 := (HA.out.bf.lt (.head _)).2
          have hr1 : ∀ g, (Value.slice va k vc).ownBlock = some g → g < X.heap.size := fun g e => own_lt HA.out.tw.o1 e
          have hr2 : ∀ g, (Value.slice ua k uc).ownBlock = some g → g < X.heap.size := fun g e => own_lt HA.out.tw.o2 e
          have HR1 := Lib.hid hr1
          have HR2 := Lib.hid hr2
          clear hr1 hr2
          have HA' := Lib.hid (HA.out.alloc #[.int .i64 0, .int .i64 0, .slice none 0 0, .slice none 0 0, .int .i64 0, .slice none 0 0, .int .i64 0] 77)
          clear HA
          have HA := HA'
          clear HA'
          refine hK.out _ _ (⟨HA.out.bf.cell (.tail _ (.tail _ (.tail _ (.tail _ (.tail _ (.head _)))))) 0, HEC.out _ HA.out.bf.fr⟩) (fun hS => ?_)
          clear hK K
          try simp only [Act.put, putA, putZ, putS]
          clear hS
          generalize X.heap.size = PO at *
          generalize X.alloc (.cells #[.int .i64 0, .int .i64 0, .slice none 0 0, .slice none 0 0, .int .i64 0, .slice none 0 0, .int .i64 0] 77) = X10 at *
          refine wpAnyZ_next (rs := [11]) (by kernel_rfl) (by simp) ?_
          refine NextZ.cons (o := ⟨some 16, _, _, _, _, _⟩) rfl (fun K hK => ?_) NextZ.nil
          go_simp
          have hl1 := (HA.out.bf.lt (.head _)).2
          have HA' := Lib.hid (HA.out.alloc #[.int .i64 0, .int .i64 0, .slice none 0 0, .slice none 0 0, .int .i64 0, .slice none 0 0, .int .i64 0] 77)
          clear HA
          have HA := HA'
          clear HA'
          refine hK.out _ _ (⟨HA.out.bf.cell (.tail _ (.tail _ (.tail _ (.tail _ (.tail _ (.tail _ (.head _))))))) 0, HEC.out _ HA.out.bf.fr⟩) (fun hS => ?_)
          clear hK K
          try simp only [Act.put, putA, putZ, putS]
          clear hS
          generalize X10.heap.size = PN at *
          generalize X10.alloc (.cells #[.int .i64 0, .int .i64 0, .slice none 0 0, .slice none 0 0, .int .i64 0, .slice none 0 0, .int .i64 0] 77) = X11 at *
          have HA' := Lib.hid (HA.out.sub (L' := [(PO, #[.int .i64 0, .int .i64 0, .slice none 0 0, .slice none 0 0, .int .i64 0, .slice none 0 0, .int .i64 0], 77), (PN, #[.int .i64 0, .int .i64 0, .slice none 0 0, .slice none 0 0, .int .i64 0, .slice none 0 0, .int .i64 0], 77), (PD, #[.int .i64 ek.p.lo, .int .i64 ek.p.hi, .slice rna en.p.nr rnc, .slice v2ba l2.length v2bc], 75), (PA, #[.int .i64 ek.p.lo, .int .i64 ek.p.hi, .slice rva ek.p.nr rvc, .slice v2aa l1.length v2ac], 75), (WB, #[.int .u16 d0, .int .u16 d1, .int .u16 d2], 83), (PX, #[.slice va k vc, .slice ua k uc, .slice mb (nm + k) md], 25), (w.heap.size, #[.slice (some ⟨ob, oo, none⟩) no oc, .slice (some ⟨nb, no2, none⟩) nw nc, .slice ma nm mc], 25)]) (List.forall_mem_cons.2 ⟨(.tail _ (.head _)), List.forall_mem_cons.2 ⟨(.head _), List.forall_mem_cons.2 ⟨(.tail _ (.tail _ (.head _))), List.forall_mem_cons.2 ⟨(.tail _ (.tail _ (.tail _ (.head _)))), List.forall_mem_cons.2 ⟨(.tail _ (.tail _ (.tail _ (.tail _ (.head _))))), List.forall_mem_cons.2 ⟨(.tail _ (.tail _ (.tail _ (.tail _ (.tail _ (.head _)))))), List.forall_mem_cons.2 ⟨(.tail _ (.tail _ (.tail _ (.tail _ (.tail _ (.tail _ (.head _))))))), List.forall_mem_nil _⟩⟩⟩⟩⟩⟩⟩))
          clear HA
          have HA := HA'
          clear HA'
          have HLO : Hid ((∀ g, (Value.slice va k vc).ownBlock = some g → g < PO ∧ g < PN) ∧ ∀ g, (Value.slice ua k uc).ownBlock = some g → g < PO ∧ g < PN) := ⟨fun g e => by have := HR1.out g e; omega, fun g e => by have := HR2.out g e; omega⟩
          have HORD' : Hid ((((((w.heap.size < PX ∧ PX < WB) ∧ WB < PA) ∧ PA < PB) ∧ PB < PM) ∧ PM < PD) ∧ PD < PO ∧ PD < PN ∧ PO ≠ PN) := ⟨HORD.out, by omega, by omega, by omega⟩
          clear HR1 HR2 hl0 hl1
          revert HORD'; revert HLO; revert HA; revert PN; revert PO; revert X11
          exact REST.out
        refine NextZ.cons (o := ⟨some 16, _, _, _, _, _⟩) rfl (fun K hK => ?_) ?_
        ·
          have HA := HA
          go_simp
          have hl0 := (HA.out.bf.lt (.head _)).2
          have hr1 : ∀ g, (Value.slice va k vc).ownBlock = some g → g < X.heap.size := fun g e => own_lt HA.out.tw.o1 e
          have hr2 : ∀ g, (Value.slice ua k uc).ownBlock = some g → g < X.heap.size := fun g e => own_lt HA.out.tw.o2 e
          have HR1 := Lib.hid hr1
          have HR2 := Lib.hid hr2
          clear hr1 hr2
          have HA' := Lib.hid (HA.out.alloc #[.int .i64 0, .int .i64 0, .slice none 0 0, .slice none 0 0, .int .i64 0, .slice none 0 0, .int .i64 0] 77)
          clear HA
          have HA := HA'
          clear HA'
          refine hK.out _ _ (⟨HA.out.bf.cell (.tail _ (.tail _ (.tail _ (.tail _ (.tail _ (.head _)))))) 0, HEC.out _ HA.out.bf.fr⟩) (fun hS => ?_)
          clear hK K
          try simp only [Act.put, putA, putZ, putS]
          clear hS
          generalize X.heap.size = PN at *
          generalize X.alloc (.cells #[.int .i64 0, .int .i64 0, .slice none 0 0, .slice none 0 0, .int .i64 0, .slice none 0 0, .int .i64 0] 77) = X10 at *
          refine wpAnyZ_next (rs := [10]) (by kernel_rfl) (by simp) ?_
          refine NextZ.cons (o := ⟨some 15, _, _, _, _, _⟩) rfl (fun K hK => ?_) NextZ.nil
          go_simp
          have hl1 := (HA.out.bf.lt (.head _)).2
          have HA' := Lib.hid (HA.out.alloc #[.int .i64 0, .int .i64 0, .slice none 0 0, .slice none 0 0, .int .i64 0, .slice none 0 0, .int .i64 0] 77)
          clear HA
          have HA := HA'
          clear HA'
          refine hK.out _ _ (⟨HA.out.bf.cell (.tail _ (.tail _ (.tail _ (.tail _ (.tail _ (.tail _ (.head _))))))) 0, HEC.out _ HA.out.bf.fr⟩) (fun hS => ?_)
          clear hK K
          try simp only [Act.put, putA, putZ, putS]
          clear hS
          generalize X10.heap.size = PO at *
          generalize X10.alloc (.cells #[.int .i64 0, .int .i64 0, .slice none 0 0, .slice none 0 0, .int .i64 0, .slice none 0 0, .int .i64 0] 77) = X11 at *
          have HA' := Lib.hid (HA.out.sub (L' := [(PO, #[.int .i64 0, .int .i64 0, .slice none 0 0, .slice none 0 0, .int .i64 0, .slice none 0 0, .int .i64 0], 77), (PN, #[.int .i64 0, .int .i64 0, .slice none 0 0, .slice none 0 0, .int .i64 0, .slice none 0 0, .int .i64 0], 77), (PD, #[.int .i64 ek.p.lo, .int .i64 ek.p.hi, .slice rna en.p.nr rnc, .slice v2ba l2.length v2bc], 75), (PA, #[.int .i64 ek.p.lo, .int .i64 ek.p.hi, .slice rva ek.p.nr rvc, .slice v2aa l1.length v2ac], 75), (WB, #[.int .u16 d0, .int .u16 d1, .int .u16 d2], 83), (PX, #[.slice va k vc, .slice ua k uc, .slice mb (nm + k) md], 25), (w.heap.size, #[.slice (some ⟨ob, oo, none⟩) no oc, .slice (some ⟨nb, no2, none⟩) nw nc, .slice ma nm mc], 25)]) (List.forall_mem_cons.2 ⟨(.head _), List.forall_mem_cons.2 ⟨(.tail _ (.head _)), List.forall_mem_cons.2 ⟨(.tail _ (.tail _ (.head _))), List.forall_mem_cons.2 ⟨(.tail _ (.tail _ (.tail _ (.head _)))), List.forall_mem_cons.2 ⟨(.tail _ (.tail _ (.tail _ (.tail _ (.head _))))), List.forall_mem_cons.2 ⟨(.tail _ (.tail _ (.tail _ (.tail _ (.tail _ (.head _)))))), List.forall_mem_cons.2 ⟨(.tail _ (.tail _ (.tail _ (.tail _ (.tail _ (.tail _ (.head _))))))), List.forall_mem_nil _⟩⟩⟩⟩⟩⟩⟩))
          clear HA
          have HA := HA'
          clear HA'
          have HLO : Hid ((∀ g, (Value.slice va k vc).ownBlock = some g → g < PO ∧ g < PN) ∧ ∀ g, (Value.slice ua k uc).ownBlock = some g → g < PO ∧ g < PN) := ⟨fun g e => by have := HR1.out g e; omega, fun g e => by have := HR2.out g e; omega⟩
          have HORD' : Hid ((((((w.heap.size < PX ∧ PX < WB) ∧ WB < PA) ∧ PA < PB) ∧ PB < PM) ∧ PM < PD) ∧ PD < PO ∧ PD < PN ∧ PO ≠ PN) := ⟨HORD.out, by omega, by omega, by omega⟩
          clear HR1 HR2 hl0 hl1
          revert HORD'; revert HLO; revert HA; revert PN; revert PO; revert X11
          exact REST.out
        exact NextZ.nil
      ·
        intro X PO PN HA HLO HORD
        have hS : (fun X : World => X.cell? ⟨w.heap.size, 0, none⟩ = some (.slice (some ⟨ob, oo, none⟩) no oc) ∧ X.cell? ⟨ob, oo + k * 7, none⟩ = some (.int .i64 ek.p.lo) ∧ X.cell? ⟨ob, oo + k * 7 + 1, none⟩ = some (.int .i64 ek.p.hi) ∧ X.cell? ⟨ob, oo + k * 7 + 2, none⟩ = some (.slice rva ek.p.nr rvc) ∧ X.cell? ⟨ob, oo + k * 7 + 3, none⟩ = some (.slice cva ek.p.nc cvc) ∧ X.cell? ⟨ob, oo + k * 7 + 4, none⟩ = some (.int .i64 ek.sex) ∧ X.cell? ⟨ob, oo + k * 7 + 5, none⟩ = some (.slice nva ek.nn nvc) ∧ X.cell? ⟨ob, oo + k * 7 + 6, none⟩ = some (.int .i64 ek.pl)) X := ⟨HA.out.bf.cell (.tail _ (.tail _ (.tail _ (.tail _ (.tail _ (.tail _ (.head _))))))) 0, HEC.out _ HA.out.bf.fr⟩
        refine wpAnyZ_next (rs := [12]) (by kernel_rfl) (by simp) ?_
        refine NextZ.cons (o := ⟨none, _, _, _, _, _⟩) rfl (fun K hK => ?_) NextZ.nil
        have u0 := HA.out.bf.cell (.head _) 0
        have f0 := HA.out.bf.thaw (.head _) 0
        have u1 := HA.out.bf.cell (.head _) 1
        have f1 := HA.out.bf.thaw (.head _) 1
        have u2 := HA.out.bf.cell (.head _) 2
        have f2 := HA.out.bf.thaw (.head _) 2
        have u3 := HA.out.bf.cell (.head _) 3
        have f3 := HA.out.bf.thaw (.head _) 3
        have u4 := HA.out.bf.cell (.head _) 4
        have f4 := HA.out.bf.thaw (.head _) 4
        have u5 := HA.out.bf.cell (.head _) 5
        have f5 := HA.out.bf.thaw (.head _) 5
        have u6 := HA.out.bf.cell (.head _) 6
        have f6 := HA.out.bf.thaw (.head _) 6
        have HA' := Lib.hid (HA.out.setE7 (.head _) (.int .i64 ek.p.lo) (.int .i64 ek.p.hi) (.slice rva ek.p.nr rvc) (.slice cva ek.p.nc cvc) (.int .i64 ek.sex) (.slice nva ek.nn nvc) (.int .i64 ek.pl) (L' := [(PN, #[.int .i64 0, .int .i64 0, .slice none 0 0, .slice none 0 0, .int .i64 0, .slice none 0 0, .int .i64 0], 77), (PD, #[.int .i64 ek.p.lo, .int .i64 ek.p.hi, .slice rna en.p.nr rnc, .slice v2ba l2.length v2bc], 75), (PA, #[.int .i64 ek.p.lo, .int .i64 ek.p.hi, .slice rva ek.p.nr rvc, .slice v2aa l1.length v2ac], 75), (WB, #[.int .u16 d0, .int .u16 d1, .int .u16 d2], 83), (PX, #[.slice va k vc, .slice ua k uc, .slice mb (nm + k) md], 25), (w.heap.size, #[.slice (some ⟨ob, oo, none⟩) no oc, .slice (some ⟨nb, no2, none⟩) nw nc, .slice ma nm mc], 25)]) (List.forall_mem_cons.2 ⟨⟨show PN ≠ PO by have := HORD.out; omega, (.tail _ (.head _))⟩, List.forall_mem_cons.2 ⟨⟨show PD ≠ PO by have := HORD.out; omega, (.tail _ (.tail _ (.head _)))⟩, List.forall_mem_cons.2 ⟨⟨show PA ≠ PO by have := HORD.out; omega, (.tail _ (.tail _ (.tail _ (.head _))))⟩, List.forall_mem_cons.2 ⟨⟨show WB ≠ PO by have := HORD.out; omega, (.tail _ (.tail _ (.tail _ (.tail _ (.head _)))))⟩, List.forall_mem_cons.2 ⟨⟨show PX ≠ PO by have := HORD.out; omega, (.tail _ (.tail _ (.tail _ (.tail _ (.tail _ (.head _))))))⟩, List.forall_mem_cons.2 ⟨⟨show w.heap.size ≠ PO by have := HORD.out; omega, (.tail _ (.tail _ (.tail _ (.tail _ (.tail _ (.tail _ (.head _)))))))⟩, List.forall_mem_nil _⟩⟩⟩⟩⟩⟩) (fun g e => by have := (HLO.out.1 g e); omega) (fun g e => by have := (HLO.out.2 g e); omega))
        clear HA
        have HA := HA'
        clear HA'
        go_simp
        refine hK.out _ _ (⟨HA.out.bf.cell (.tail _ (.tail _ (.tail _ (.tail _ (.tail _ (.tail _ (.head _))))))) 0, HEC.out _ HA.out.bf.fr⟩) (fun hS => ?_)
        clear hK K
        try simp only [Act.put, putA, putZ, putS]
        clear u0 u1 u2 u3 u4 u5 u6 f0 f1 f2 f3 f4 f5 f6 hS
        generalize (((((((X.setCell ⟨PO, 0, none⟩ (.int .i64 ek.p.lo)).setCell ⟨PO, 1, none⟩ (.int .i64 ek.p.hi)).setCell ⟨PO, 2, none⟩ (.slice rva ek.p.nr rvc)).setCell ⟨PO, 3, none⟩ (.slice cva ek.p.nc cvc)).setCell ⟨PO, 4, none⟩ (.int .i64 ek.sex)).setCell ⟨PO, 5, none⟩ (.slice nva ek.nn nvc)).setCell ⟨PO, 6, none⟩ (.int .i64 ek.pl)) = X12 at *
        have hS : (fun X : World => X.cell? ⟨w.heap.size, 0, none⟩ = some (.slice (some ⟨ob, oo, none⟩) no oc) ∧ X.cell? ⟨ob, oo + k * 7, none⟩ = some (.int .i64 ek.p.lo) ∧ X.cell? ⟨ob, oo + k * 7 + 1, none⟩ = some (.int .i64 ek.p.hi) ∧ X.cell? ⟨ob, oo + k * 7 + 2, none⟩ = some (.slice rva ek.p.nr rvc) ∧ X.cell? ⟨ob, oo + k * 7 + 3, none⟩ = some (.slice cva ek.p.nc cvc) ∧ X.cell? ⟨ob, oo + k * 7 + 4, none⟩ = some (.int .i64 ek.sex) ∧ X.cell? ⟨ob, oo + k * 7 + 5, none⟩ = some (.slice nva ek.nn nvc) ∧ X.cell? ⟨ob, oo + k * 7 + 6, none⟩ = some (.int .i64 ek.pl)) X12 := ⟨HA.out.bf.cell (.tail _ (.tail _ (.tail _ (.tail _ (.tail _ (.tail _ (.head _))))))) 0, HEC.out _ HA.out.bf.fr⟩
        refine wpAnyZ_next (rs := [13]) (by kernel_rfl) (by simp) ?_
        refine NextZ.last (o := ⟨none, _, _, _, _, _⟩) rfl (by kernel_rfl) (fun K hK => ?_)
        have u0 := HA.out.bf.cell (.tail _ (.head _)) 0
        have f0 := HA.out.bf.thaw (.tail _ (.head _)) 0
        have u1 := HA.out.bf.cell (.tail _ (.head _)) 1
        have f1 := HA.out.bf.thaw (.tail _ (.head _)) 1
        have u2 := HA.out.bf.cell (.tail _ (.head _)) 2
        have f2 := HA.out.bf.thaw (.tail _ (.head _)) 2
        have u3 := HA.out.bf.cell (.tail _ (.head _)) 3
        have f3 := HA.out.bf.thaw (.tail _ (.head _)) 3
        have u4 := HA.out.bf.cell (.tail _ (.head _)) 4
        have f4 := HA.out.bf.thaw (.tail _ (.head _)) 4
        have u5 := HA.out.bf.cell (.tail _ (.head _)) 5
        have f5 := HA.out.bf.thaw (.tail _ (.head _)) 5
        have u6 := HA.out.bf.cell (.tail _ (.head _)) 6
        have f6 := HA.out.bf.thaw (.tail _ (.head _)) 6
        have HA' := Lib.hid (HA.out.setE7 (.tail _ (.head _)) (.int .i64 ek.p.lo) (.int .i64 ek.p.hi) (.slice rva ek.p.nr rvc) (.slice cva ek.p.nc cvc) (.int .i64 ek.sex) (.slice nva ek.nn nvc) (.int .i64 ek.pl) (L' := [(PO, #[.int .i64 ek.p.lo, .int .i64 ek.p.hi, .slice rva ek.p.nr rvc, .slice cva ek.p.nc cvc, .int .i64 ek.sex, .slice nva ek.nn nvc, .int .i64 ek.pl], 77), (PD, #[.int .i64 ek.p.lo, .int .i64 ek.p.hi, .slice rna en.p.nr rnc, .slice v2ba l2.length v2bc], 75), (PA, #[.int .i64 ek.p.lo, .int .i64 ek.p.hi, .slice rva ek.p.nr rvc, .slice v2aa l1.length v2ac], 75), (WB, #[.int .u16 d0, .int .u16 d1, .int .u16 d2], 83), (PX, #[.slice va k vc, .slice ua k uc, .slice mb (nm + k) md], 25), (w.heap.size, #[.slice (some ⟨ob, oo, none⟩) no oc, .slice (some ⟨nb, no2, none⟩) nw nc, .slice ma nm mc], 25)]) (List.forall_mem_cons.2 ⟨⟨show PO ≠ PN by have := HORD.out; omega, (.head _)⟩, List.forall_mem_cons.2 ⟨⟨show PD ≠ PN by have := HORD.out; omega, (.tail _ (.tail _ (.head _)))⟩, List.forall_mem_cons.2 ⟨⟨show PA ≠ PN by have := HORD.out; omega, (.tail _ (.tail _ (.tail _ (.head _))))⟩, List.forall_mem_cons.2 ⟨⟨show WB ≠ PN by have := HORD.out; omega, (.tail _ (.tail _ (.tail _ (.tail _ (.head _)))))⟩, List.forall_mem_cons.2 ⟨⟨show PX ≠ PN by have := HORD.out; omega, (.tail _ (.tail _ (.tail _ (.tail _ (.tail _ (.head _))))))⟩, List.forall_mem_cons.2 ⟨⟨show w.heap.size ≠ PN by have := HORD.out; omega, (.tail _ (.tail _ (.tail _ (.tail _ (.tail _ (.tail _ (.head _)))))))⟩, List.forall_mem_nil _⟩⟩⟩⟩⟩⟩) (fun g e => by have := (HLO.out.1 g e); omega) (fun g e => by have := (HLO.out.2 g e); omega))
        clear HA
        have HA := HA'
        clear HA'
        go_simp
        refine hK.out _ _ ?_
        clear hK K
        try simp only [Act.put, putA, putZ, putS]
        clear u0 u1 u2 u3 u4 u5 u6 f0 f1 f2 f3 f4 f5 f6
        refine wpAnyZ_done (by kernel_rfl) ?_ _
        generalize (((((((X12.setCell ⟨PN, 0, none⟩ (.int .i64 ek.p.lo)).setCell ⟨PN, 1, none⟩ (.int .i64 ek.p.hi)).setCell ⟨PN, 2, none⟩ (.slice rva ek.p.nr rvc)).setCell ⟨PN, 3, none⟩ (.slice cva ek.p.nc cvc)).setCell ⟨PN, 4, none⟩ (.int .i64 ek.sex)).setCell ⟨PN, 5, none⟩ (.slice nva ek.nn nvc)).setCell ⟨PN, 6, none⟩ (.int .i64 ek.pl)) = X13 at *
        go_upto_region 16 with fail
        have HA' := Lib.hid (HA.out.below (Below.refl X13.heap.size X13).drew)
        clear HA
        have HA := HA'
        clear HA'
        refine wp_region_Z (S := fun X => X.cell? ⟨PA, 0, none⟩ = some (.int .i64 ek.p.lo) ∧ X.cell? ⟨PA, 1, none⟩ = some (.int .i64 ek.p.hi) ∧ X.cell? ⟨PA, 2, none⟩ = some (.slice rva ek.p.nr rvc) ∧ X.cell? ⟨PA, 3, none⟩ = some (.slice v2aa l1.length v2ac) ∧ X.cell? ⟨PD, 0, none⟩ = some (.int .i64 ek.p.lo) ∧ X.cell? ⟨PD, 1, none⟩ = some (.int .i64 ek.p.hi) ∧ X.cell? ⟨PD, 2, none⟩ = some (.slice rna en.p.nr rnc) ∧ X.cell? ⟨PD, 3, none⟩ = some (.slice v2ba l2.length v2bc)) (by kernel_rfl) (⟨HA.out.bf.cell (.tail _ (.tail _ (.tail _ (.head _)))) 0, HA.out.bf.cell (.tail _ (.tail _ (.tail _ (.head _)))) 1, HA.out.bf.cell (.tail _ (.tail _ (.tail _ (.head _)))) 2, HA.out.bf.cell (.tail _ (.tail _ (.tail _ (.head _)))) 3, HA.out.bf.cell (.tail _ (.tail _ (.head _))) 0, HA.out.bf.cell (.tail _ (.tail _ (.head _))) 1, HA.out.bf.cell (.tail _ (.tail _ (.head _))) 2, HA.out.bf.cell (.tail _ (.tail _ (.head _))) 3⟩) (fun hS => ?_)
        generalize X13.drew = X at *
        refine tk [0, 1, 2] ?_
        repeat (refine tkZ (oi := ⟨_, _, _, _, _, _⟩) (v := ?_) rfl (by kernel_rfl) (by rfl) (fun _ _ _ h => h) hS ?_ ?_; rotate_left; (· rintro W' ⟨z0, z1, z2, z3, z4, z5, z6, z7⟩; go_simp; try with_reducible rfl); try simp only [Act.put, putA, putZ, putS])
        refine tk0 ?_
        refine wpAnyZ_next (rs := [3]) (by kernel_rfl) (by simp) ?_
        refine NextZ.cons (o := ⟨none, _, _, _, _, _⟩) rfl (fun K hK => ?_) NextZ.nil
        have u0 := HA.out.bf.cell (.tail _ (.head _)) 0
        have f0 := HA.out.bf.thaw (.tail _ (.head _)) 0
        have u1 := HA.out.bf.cell (.tail _ (.head _)) 1
        have f1 := HA.out.bf.thaw (.tail _ (.head _)) 1
        have u2 := HA.out.bf.cell (.tail _ (.head _)) 2
        have f2 := HA.out.bf.thaw (.tail _ (.head _)) 2
        have u3 := HA.out.bf.cell (.tail _ (.head _)) 3
        have f3 := HA.out.bf.thaw (.tail _ (.head _)) 3
        have HA' := Lib.hid (HA.out.setE4 (.tail _ (.head _)) (.int .i64 ek.p.lo) (.int .i64 ek.p.hi) (.slice rva ek.p.nr rvc) (.slice v2aa l1.length v2ac) (L' := [(PN, #[.int .i64 ek.p.lo, .int .i64 ek.p.hi, .slice rva ek.p.nr rvc, .slice cva ek.p.nc cvc, .int .i64 ek.sex, .slice nva ek.nn nvc, .int .i64 ek.pl], 77), (PD, #[.int .i64 ek.p.lo, .int .i64 ek.p.hi, .slice rna en.p.nr rnc, .slice v2ba l2.length v2bc], 75), (PA, #[.int .i64 ek.p.lo, .int .i64 ek.p.hi, .slice rva ek.p.nr rvc, .slice v2aa l1.length v2ac], 75), (WB, #[.int .u16 d0, .int .u16 d1, .int .u16 d2], 83), (PX, #[.slice va k vc, .slice ua k uc, .slice mb (nm + k) md], 25), (w.heap.size, #[.slice (some ⟨ob, oo, none⟩) no oc, .slice (some ⟨nb, no2, none⟩) nw nc, .slice ma nm mc], 25)]) (List.forall_mem_cons.2 ⟨⟨show PN ≠ PO by have := HORD.out; omega, (.head _)⟩, List.forall_mem_cons.2 ⟨⟨show PD ≠ PO by have := HORD.out; omega, (.tail _ (.tail _ (.head _)))⟩, List.forall_mem_cons.2 ⟨⟨show PA ≠ PO by have := HORD.out; omega, (.tail _ (.tail _ (.tail _ (.head _))))⟩, List.forall_mem_cons.2 ⟨⟨show WB ≠ PO by have := HORD.out; omega, (.tail _ (.tail _ (.tail _ (.tail _ (.head _)))))⟩, List.forall_mem_cons.2 ⟨⟨show PX ≠ PO by have := HORD.out; omega, (.tail _ (.tail _ (.tail _ (.tail _ (.tail _ (.head _))))))⟩, List.forall_mem_cons.2 ⟨⟨show w.heap.size ≠ PO by have := HORD.out; omega, (.tail _ (.tail _ (.tail _ (.tail _ (.tail _ (.tail _ (.head _)))))))⟩, List.forall_mem_nil _⟩⟩⟩⟩⟩⟩) (fun g e => by have := (HLO.out.1 g e); omega) (fun g e => by have := (HLO.out.2 g e); omega))
        clear HA
        have HA := HA'
        clear HA'
        go_simp
        refine hK.out _ _ (⟨HA.out.bf.cell (.tail _ (.tail _ (.tail _ (.head _)))) 0, HA.out.bf.cell (.tail _ (.tail _ (.tail _ (.head _)))) 1, HA.out.bf.cell (.tail _ (.tail _ (.tail _ (.head _)))) 2, HA.out.bf.cell (.tail _ (.tail _ (.tail _ (.head _)))) 3, HA.out.bf.cell (.tail _ (.tail _ (.head _))) 0, HA.out.bf.cell (.tail _ (.tail _ (.head _))) 1, HA.out.bf.cell (.tail _ (.tail _ (.head _))) 2, HA.out.bf.cell (.tail _ (.tail _ (.head _))) 3⟩) (fun hS => ?_)
        clear hK K
        try simp only [Act.put, putA, putZ, putS]
        clear u0 u1 u2 u3 f0 f1 f2 f3 hS
        generalize ((((X.setCell ⟨PO, 0, none⟩ (.int .i64 ek.p.lo)).setCell ⟨PO, 1, none⟩ (.int .i64 ek.p.hi)).setCell ⟨PO, 2, none⟩ (.slice rva ek.p.nr rvc)).setCell ⟨PO, 3, none⟩ (.slice v2aa l1.length v2ac)) = X14 at *
        have hS : (fun X : World => X.cell? ⟨PA, 0, none⟩ = some (.int .i64 ek.p.lo) ∧ X.cell? ⟨PA, 1, none⟩ = some (.int .i64 ek.p.hi) ∧ X.cell? ⟨PA, 2, none⟩ = some (.slice rva ek.p.nr rvc) ∧ X.cell? ⟨PA, 3, none⟩ = some (.slice v2aa l1.length v2ac) ∧ X.cell? ⟨PD, 0, none⟩ = some (.int .i64 ek.p.lo) ∧ X.cell? ⟨PD, 1, none⟩ = some (.int .i64 ek.p.hi) ∧ X.cell? ⟨PD, 2, none⟩ = some (.slice rna en.p.nr rnc) ∧ X.cell? ⟨PD, 3, none⟩ = some (.slice v2ba l2.length v2bc)) X14 := ⟨HA.out.bf.cell (.tail _ (.tail _ (.tail _ (.head _)))) 0, HA.out.bf.cell (.tail _ (.tail _ (.tail _ (.head _)))) 1, HA.out.bf.cell (.tail _ (.tail _ (.tail _ (.head _)))) 2, HA.out.bf.cell (.tail _ (.tail _ (.tail _ (.head _)))) 3, HA.out.bf.cell (.tail _ (.tail _ (.head _))) 0, HA.out.bf.cell (.tail _ (.tail _ (.head _))) 1, HA.out.bf.cell (.tail _ (.tail _ (.head _))) 2, HA.out.bf.cell (.tail _ (.tail _ (.head _))) 3⟩
        refine tk [4] ?_
        repeat (refine tkZ (oi := ⟨_, _, _, _, _, _⟩) (v := ?_) rfl (by kernel_rfl) (by rfl) (fun _ _ _ h => h) hS ?_ ?_; rotate_left; (· rintro W' ⟨z0, z1, z2, z3, z4, z5, z6, z7⟩; go_simp; try with_reducible rfl); try simp only [Act.put, putA, putZ, putS])
        refine tk0 ?_
        refine wpAnyZ_next (rs := [5]) (by kernel_rfl) (by simp) ?_
        refine NextZ.last (o := ⟨none, _, _, _, _, _⟩) rfl (by kernel_rfl) (fun K hK => ?_)
        have u0 := HA.out.bf.cell (.tail _ (.head _)) 0
        have f0 := HA.out.bf.thaw (.tail _ (.head _)) 0
        have u1 := HA.out.bf.cell (.tail _ (.head _)) 1
        have f1 := HA.out.bf.thaw (.tail _ (.head _)) 1
        have u2 := HA.out.bf.cell (.tail _ (.head _)) 2
        have f2 := HA.out.bf.thaw (.tail _ (.head _)) 2
        have u3 := HA.out.bf.cell (.tail _ (.head _)) 3
        have f3 := HA.out.bf.thaw (.tail _ (.head _)) 3
        have HA' := Lib.hid (HA.out.setE4 (.tail _ (.head _)) (.int .i64 ek.p.lo) (.int .i64 ek.p.hi) (.slice rna en.p.nr rnc) (.slice v2ba l2.length v2bc) (L' := [(PO, #[.int .i64 ek.p.lo, .int .i64 ek.p.hi, .slice rva ek.p.nr rvc, .slice v2aa l1.length v2ac, .int .i64 ek.sex, .slice nva ek.nn nvc, .int .i64 ek.pl], 77), (PD, #[.int .i64 ek.p.lo, .int .i64 ek.p.hi, .slice rna en.p.nr rnc, .slice v2ba l2.length v2bc], 75), (PA, #[.int .i64 ek.p.lo, .int .i64 ek.p.hi, .slice rva ek.p.nr rvc, .slice v2aa l1.length v2ac], 75), (WB, #[.int .u16 d0, .int .u16 d1, .int .u16 d2], 83), (PX, #[.slice va k vc, .slice ua k uc, .slice mb (nm + k) md], 25), (w.heap.size, #[.slice (some ⟨ob, oo, none⟩) no oc, .slice (some ⟨nb, no2, none⟩) nw nc, .slice ma nm mc], 25)]) (List.forall_mem_cons.2 ⟨⟨show PO ≠ PN by have := HORD.out; omega, (.head _)⟩, List.forall_mem_cons.2 ⟨⟨show PD ≠ PN by have := HORD.out; omega, (.tail _ (.tail _ (.head _)))⟩, List.forall_mem_cons.2 ⟨⟨show PA ≠ PN by have := HORD.out; omega, (.tail _ (.tail _ (.tail _ (.head _))))⟩, List.forall_mem_cons.2 ⟨⟨show WB ≠ PN by have := HORD.out; omega, (.tail _ (.tail _ (.tail _ (.tail _ (.head _)))))⟩, List.forall_mem_cons.2 ⟨⟨show PX ≠ PN by have := HORD.out; omega, (.tail _ (.tail _ (.tail _ (.tail _ (.tail _ (.head _))))))⟩, List.forall_mem_cons.2 ⟨⟨show w.heap.size ≠ PN by have := HORD.out; omega, (.tail _ (.tail _ (.tail _ (.tail _ (.tail _ (.tail _ (.head _)))))))⟩, List.forall_mem_nil _⟩⟩⟩⟩⟩⟩) (fun g e => by have := (HLO.out.1 g e); omega) (fun g e => by have := (HLO.out.2 g e); omega))
        clear HA
        have HA := HA'
        clear HA'
        go_simp
        refine hK.out _ _ ?_
        clear hK K
        try simp only [Act.put, putA, putZ, putS]
        clear u0 u1 u2 u3 f0 f1 f2 f3
        refine wpAnyZ_done (by kernel_rfl) ?_ _
        generalize ((((X14.setCell ⟨PN, 0, none⟩ (.int .i64 ek.p.lo)).setCell ⟨PN, 1, none⟩ (.int .i64 ek.p.hi)).setCell ⟨PN, 2, none⟩ (.slice rna en.p.nr rnc)).setCell ⟨PN, 3, none⟩ (.slice v2ba l2.length v2bc)) = X15 at *
        have HA' := Lib.hid (HA.out.sub (L' := [(PN, #[.int .i64 ek.p.lo, .int .i64 ek.p.hi, .slice rna en.p.nr rnc, .slice v2ba l2.length v2bc, .int .i64 ek.sex, .slice nva ek.nn nvc, .int .i64 ek.pl], 77), (PO, #[.int .i64 ek.p.lo, .int .i64 ek.p.hi, .slice rva ek.p.nr rvc, .slice v2aa l1.length v2ac, .int .i64 ek.sex, .slice nva ek.nn nvc, .int .i64 ek.pl], 77), (WB, #[.int .u16 d0, .int .u16 d1, .int .u16 d2], 83), (PX, #[.slice va k vc, .slice ua k uc, .slice mb (nm + k) md], 25), (w.heap.size, #[.slice (some ⟨ob, oo, none⟩) no oc, .slice (some ⟨nb, no2, none⟩) nw nc, .slice ma nm mc], 25)]) (List.forall_mem_cons.2 ⟨(.head _), List.forall_mem_cons.2 ⟨(.tail _ (.head _)), List.forall_mem_cons.2 ⟨(.tail _ (.tail _ (.tail _ (.tail _ (.head _))))), List.forall_mem_cons.2 ⟨(.tail _ (.tail _ (.tail _ (.tail _ (.tail _ (.head _)))))), List.forall_mem_cons.2 ⟨(.tail _ (.tail _ (.tail _ (.tail _ (.tail _ (.tail _ (.head _))))))), List.forall_mem_nil _⟩⟩⟩⟩⟩))
        clear HA
        have HA := HA'
        clear HA'
        have u0 := HA.out.bf.cell (.tail _ (.tail _ (.head _))) 0
        have HONN := Lib.hid (eF_oneR (fun j hj => (HA.out.ti.qn j hj).qr HA.out.bf.fr))
        obtain ⟨d10, hd10⟩ : ∃ d10, d1.tmod 10 = d10 := ⟨_, rfl⟩
        have hdb := HDB.out
        have hd0b : 0 ≤ d0 ∧ d0 ≤ 65535 := hdb.1
        have hd1b : 0 ≤ d1 ∧ d1 ≤ 65535 := hdb.2.1
        clear hdb
        have kd1 : IntKind.i64.wrap d1 = d1 := IntWalk.i64_in _ (by omega)
        have kd2 : IntKind.i64.wrap (d1.tmod 10) = d1.tmod 10 := IntWalk.i64_in _ (by rw [Int.tmod_eq_emod_of_nonneg (by omega)]; omega)
        obtain ⟨d3, hd3⟩ : ∃ d3, d0.tmod 3 = d3 := ⟨_, rfl⟩
        have kd3 : IntKind.u16.wrap (d0.tmod 3) = d3 := by rw [← hd3]; exact IntWalk.u16_in _ (by rw [Int.tmod_eq_emod_of_nonneg (by omega)]; omega)
        by_cases hz3 : d3 = 0
        ·
          have kd4 : (d3 == 0) = true := by simp [hz3]
          go_upto_region 18 with fail
          clear u0
          have e4 := HA.out.bf.cell (.head _) 4
          have f4 := HA.out.bf.thaw (.head _) 4
          have HA' := Lib.hid (TS.setE (i := 4) (cs' := #[.int .i64 ek.p.lo, .int .i64 ek.p.hi, .slice rna en.p.nr rnc, .slice v2ba l2.length v2bc, .int .i64 2, .slice nva ek.nn nvc, .int .i64 ek.pl]) HA.out (.head _) (.int .i64 2) (by simp) rfl (L' := [(PO, #[.int .i64 ek.p.lo, .int .i64 ek.p.hi, .slice rva ek.p.nr rvc, .slice v2aa l1.length v2ac, .int .i64 ek.sex, .slice nva ek.nn nvc, .int .i64 ek.pl], 77), (WB, #[.int .u16 d0, .int .u16 d1, .int .u16 d2], 83), (PX, #[.slice va k vc, .slice ua k uc, .slice mb (nm + k) md], 25), (w.heap.size, #[.slice (some ⟨ob, oo, none⟩) no oc, .slice (some ⟨nb, no2, none⟩) nw nc, .slice ma nm mc], 25)]) (List.forall_mem_cons.2 ⟨⟨show PO ≠ PN by have := HORD.out; omega, (.tail _ (.head _))⟩, List.forall_mem_cons.2 ⟨⟨show WB ≠ PN by have := HORD.out; omega, (.tail _ (.tail _ (.head _)))⟩, List.forall_mem_cons.2 ⟨⟨show PX ≠ PN by have := HORD.out; omega, (.tail _ (.tail _ (.tail _ (.head _))))⟩, List.forall_mem_cons.2 ⟨⟨show w.heap.size ≠ PN by have := HORD.out; omega, (.tail _ (.tail _ (.tail _ (.tail _ (.head _)))))⟩, List.forall_mem_nil _⟩⟩⟩⟩) (fun g e => by have := (HLO.out.1 g e); omega) (fun g e => by have := (HLO.out.2 g e); omega))
          clear HA
          have HA := HA'
          clear HA'
          go_upto_region 19 with fail
          clear e4 f4
          generalize (X15.setCell ⟨PN, 4, none⟩ (.int .i64 2)) = X16 at *
          have HEO : Hid (eF EO VO k ++ [.int .i64 ek.p.lo, .int .i64 ek.p.hi, .slice rva ek.p.nr rvc, .slice v2aa l1.length v2ac, .int .i64 ek.sex, .slice nva ek.nn nvc, .int .i64 ek.pl] = eF (addE EO k (⟨trP ek.p l1, ek.sex, ek.nn, ek.z, ek.pl⟩ : En)) (addV VO k (.slice rva ek.p.nr rvc, .slice v2aa l1.length v2ac, .slice nva ek.nn nvc)) (k + 1)) := eF_snoc EO VO k (⟨trP ek.p l1, ek.sex, ek.nn, ek.z, ek.pl⟩ : En) (.slice rva ek.p.nr rvc, .slice v2aa l1.length v2ac, .slice nva ek.nn nvc)
          have HEN : Hid ((.int .i64 ek.p.lo : Value) :: (.int .i64 ek.p.hi : Value) :: (.slice rna en.p.nr rnc : Value) :: (.slice v2ba l2.length v2bc : Value) :: (.int .i64 2 : Value) :: (.slice nva ek.nn nvc : Value) :: .int .i64 d10 :: eF NR VN k = eF (catE (fun _ => (⟨trP (Pers.mk ek.p.lo ek.p.hi en.p.nr en.p.R en.p.nc en.p.C) l2, 2, ek.nn, ek.z, d10⟩ : En)) NR 1) (catE (fun _ => (.slice rna en.p.nr rnc, .slice v2ba l2.length v2bc, .slice nva ek.nn nvc)) VN 1) (1 + k)) := by
            have h := eF_append (fun _ => (⟨trP (Pers.mk ek.p.lo ek.p.hi en.p.nr en.p.R en.p.nc en.p.C) l2, 2, ek.nn, ek.z, d10⟩ : En)) NR (fun _ => (.slice rna en.p.nr rnc, .slice v2ba l2.length v2bc, .slice nva ek.nn nvc)) VN 1 k
            rw [eF_single] at h
            exact h
          have HLK : Hid ((no : Int) - 1 - (k : Int) = lkT no k) := by unfold Hid lkT; omega
          have HEK : Hid (RlsIn w (.slice rva ek.p.nr rvc) ek.p.nr ek.p.R ∧ IntsIn w (.slice nva ek.nn nvc) ek.nn ek.z ∧ ek.p.nr ≤ maxLen ∧ ek.nn ≤ maxLen) := ⟨HQE.out.1, HQE.out.2.2.1, HQE.out.2.2.2.1, HQE.out.2.2.2.2.2⟩
          have u1 := HA.out.bf.cell (.tail _ (.tail _ (.head _))) 1
          have e6 := HA.out.bf.cell (.head _) 6
          have f6 := HA.out.bf.thaw (.head _) 6
          have HA' := Lib.hid (TS.setE (i := 6) (cs' := #[.int .i64 ek.p.lo, .int .i64 ek.p.hi, .slice rna en.p.nr rnc, .slice v2ba l2.length v2bc, .int .i64 2, .slice nva ek.nn nvc, .int .i64 d10]) HA.out (.head _) (.int .i64 d10) (by simp) rfl (L' := [(PO, #[.int .i64 ek.p.lo, .int .i64 ek.p.hi, .slice rva ek.p.nr rvc, .slice v2aa l1.length v2ac, .int .i64 ek.sex, .slice nva ek.nn nvc, .int .i64 ek.pl], 77), (WB, #[.int .u16 d0, .int .u16 d1, .int .u16 d2], 83), (PX, #[.slice va k vc, .slice ua k uc, .slice mb (nm + k) md], 25), (w.heap.size, #[.slice (some ⟨ob, oo, none⟩) no oc, .slice (some ⟨nb, no2, none⟩) nw nc, .slice ma nm mc], 25)]) (List.forall_mem_cons.2 ⟨⟨show PO ≠ PN by have := HORD.out; omega, (.tail _ (.head _))⟩, List.forall_mem_cons.2 ⟨⟨show WB ≠ PN by have := HORD.out; omega, (.tail _ (.tail _ (.head _)))⟩, List.forall_mem_cons.2 ⟨⟨show PX ≠ PN by have := HORD.out; omega, (.tail _ (.tail _ (.tail _ (.head _))))⟩, List.forall_mem_cons.2 ⟨⟨show w.heap.size ≠ PN by have := HORD.out; omega, (.tail _ (.tail _ (.tail _ (.tail _ (.head _)))))⟩, List.forall_mem_nil _⟩⟩⟩⟩) (fun g e => by have := (HLO.out.1 g e); omega) (fun g e => by have := (HLO.out.2 g e); omega))
          clear HA
          have HA := HA'
          clear HA'
          go_upto_region 20 with fail
          clear u1 e6 f6
          generalize (X16.setCell ⟨PN, 6, none⟩ (.int .i64 d10)) = X20 at *
          have a0 := HA.out.bf.cell (.tail _ (.head _)) 0
          have a1 := HA.out.bf.cell (.tail _ (.head _)) 1
          have a2 := HA.out.bf.cell (.tail _ (.head _)) 2
          have a3 := HA.out.bf.cell (.tail _ (.head _)) 3
          have a4 := HA.out.bf.cell (.tail _ (.head _)) 4
          have a5 := HA.out.bf.cell (.tail _ (.head _)) 5
          have a6 := HA.out.bf.cell (.tail _ (.head _)) 6
          have x0 := HA.out.bf.cell (.tail _ (.tail _ (.tail _ (.head _)))) 0
          have HN := Lib.hid (World.news_of_block (heap_alloc_new X20 (.cells #[.int .i64 ek.p.lo, .int .i64 ek.p.hi, .slice rva ek.p.nr rvc, .slice v2aa l1.length v2ac, .int .i64 ek.sex, .slice nva ek.nn nvc, .int .i64 ek.pl] 77)))
          have HAB := Lib.hid (HA.out.below (below_alloc X20 (.cells #[.int .i64 ek.p.lo, .int .i64 ek.p.hi, .slice rva ek.p.nr rvc, .slice v2aa l1.length v2ac, .int .i64 ek.sex, .slice nva ek.nn nvc, .int .i64 ek.pl] 77)))
          have hxs := HA.out.bf.fr.size
          have hsl := HLO.out
          clear HA
          go_wp2_with (at_builtin; refine wpList_append_src _ rfl (.tmp 140) (.tmp 142) 22 rfl w.heap.size 77 i0 (.agg #[.int .i64 0, .int .i64 0, .slice none 0 0, .slice none 0 0, .int .i64 0, .slice none 0 0, .int .i64 0]) 7 104 Tryz.underlying22 hi0 hz0 hz1 hz2 rfl (by decide) (.slice va k vc) k (eF EO VO k) rfl HAB.out.tw.o1 (some ⟨X20.heap.size, 0, none⟩) 1 1 [.int .i64 ek.p.lo, .int .i64 ek.p.hi, .slice rva ek.p.nr rvc, .slice v2aa l1.length v2ac, .int .i64 ek.sex, .slice nva ek.nn nvc, .int .i64 ek.pl] rfl ⟨rfl, fun q u hu => ⟨_, rfl, HN.out q u hu⟩⟩ ?c0 ?c1 ?c2 ?c3 ?_)
          case c0 => simp [Value.oneCell']
          case c1 => unfold maxLen; omega
          case c2 => omega
          case c3 => (try rw [World.size_alloc]); omega
          intro v' Y hown hgr hat
          have HA := Lib.hid (HAB.out.growO hown hgr (by rw [World.size_alloc]; exact hat) (fun p hp e => by
            simp only [List.mem_cons, List.not_mem_nil, or_false] at hp
            rcases hp with rfl | rfl | rfl | rfl | rfl
            · have := (hsl.1 _ e); omega
            · have := (hsl.1 _ e); omega
            · exact own_type_ne HAB.out.tw.o1 (HAB.out.bf.bk _ _ _ (.tail _ (.tail _ (.head _)))).2 (by decide) e
            · exact own_type_ne HAB.out.tw.o1 (HAB.out.bf.bk _ _ _ (.tail _ (.tail _ (.tail _ (.head _))))).2 (by decide) e
            · exact own_type_ne HAB.out.tw.o1 (HAB.out.bf.bk _ _ _ (.tail _ (.tail _ (.tail _ (.tail _ (.head _)))))).2 (by decide) e))
          obtain ⟨va2, vc2, rfl⟩ := own_slice' hown
          clear hown hgr hat HAB HN hsl a0 a1 a2 a3 a4 a5 a6 x0
          have x0 := HA.out.bf.cell (.tail _ (.tail _ (.tail _ (.head _)))) 0
          have fx := HA.out.bf.thaw (.tail _ (.tail _ (.tail _ (.head _)))) 0
          have HA' := Lib.hid (TS.set1 (i := 0) (cs' := #[.slice va2 (k + 1) vc2, .slice ua k uc, .slice mb (nm + k) md]) HA.out (.tail _ (.tail _ (.tail _ (.head _)))) (.slice va2 (k + 1) vc2) (by simp) rfl (L' := [(PN, #[.int .i64 ek.p.lo, .int .i64 ek.p.hi, .slice rna en.p.nr rnc, .slice v2ba l2.length v2bc, .int .i64 2, .slice nva ek.nn nvc, .int .i64 d10], 77), (PO, #[.int .i64 ek.p.lo, .int .i64 ek.p.hi, .slice rva ek.p.nr rvc, .slice v2aa l1.length v2ac, .int .i64 ek.sex, .slice nva ek.nn nvc, .int .i64 ek.pl], 77), (WB, #[.int .u16 d0, .int .u16 d1, .int .u16 d2], 83), (w.heap.size, #[.slice (some ⟨ob, oo, none⟩) no oc, .slice (some ⟨nb, no2, none⟩) nw nc, .slice ma nm mc], 25)]) (List.forall_mem_cons.2 ⟨⟨show PN ≠ PX by have := HORD.out; omega, (.head _)⟩, List.forall_mem_cons.2 ⟨⟨show PO ≠ PX by have := HORD.out; omega, (.tail _ (.head _))⟩, List.forall_mem_cons.2 ⟨⟨show WB ≠ PX by have := HORD.out; omega, (.tail _ (.tail _ (.head _)))⟩, List.forall_mem_cons.2 ⟨⟨show w.heap.size ≠ PX by have := HORD.out; omega, (.tail _ (.tail _ (.tail _ (.tail _ (.head _)))))⟩, List.forall_mem_nil _⟩⟩⟩⟩) (by decide))
          clear HA
          have HA := HA'
          clear HA'
          go_upto_region 21 with fail
          clear x0 fx
          generalize (Y.setCell ⟨PX, 0, none⟩ (.slice va2 (k + 1) vc2)) = X21 at *
          have a0 := HA.out.bf.cell (.tail _ (.head _)) 0
          have a1 := HA.out.bf.cell (.tail _ (.head _)) 1
          have a2 := HA.out.bf.cell (.tail _ (.head _)) 2
          have a3 := HA.out.bf.cell (.tail _ (.head _)) 3
          have a4 := HA.out.bf.cell (.tail _ (.head _)) 4
          have a5 := HA.out.bf.cell (.tail _ (.head _)) 5
          have a6 := HA.out.bf.cell (.tail _ (.head _)) 6
          have x1 := HA.out.bf.cell (.head _) 1
          have hpl1 := (HA.out.bf.lt (.head _)).2
          obtain ⟨ua0, uc0, hu0, hsrc⟩ := HA.out.srcN
          simp only [Value.slice.injEq] at hu0
          obtain ⟨hu1, _, hu2⟩ := hu0
          subst hu1 hu2
          have HSR := Lib.hid (hsrc.below (fun p v hv => below_cell (below_alloc X21 (.cells #[.int .i64 ek.p.lo, .int .i64 ek.p.hi, .slice rna en.p.nr rnc, .slice v2ba l2.length v2bc, .int .i64 2, .slice nva ek.nn nvc, .int .i64 d10] 77)) p v hv))
          have HAB := Lib.hid (HA.out.buildN #[.int .i64 ek.p.lo, .int .i64 ek.p.hi, .slice rna en.p.nr rnc, .slice v2ba l2.length v2bc, .int .i64 2, .slice nva ek.nn nvc, .int .i64 d10] rfl)
          have hxs := HA.out.bf.fr.size
          have HNL : Hid (∀ g, (some X21.heap.size : Option Nat) = some g → PX < g ∧ WB < g ∧ w.heap.size < g ∧ PN < g ∧ PO < g) := fun g e => by
            injection e with e
            have h1 := (HA.out.bf.lt (.head _)).2
            have h2 := (HA.out.bf.lt (.tail _ (.tail _ (.tail _ (.head _))))).2
            have h3 := (HA.out.bf.lt (.tail _ (.tail _ (.tail _ (.tail _ (.head _)))))).2
            have h4 := (HA.out.bf.lt (.tail _ (.head _))).2
            have h5 := (HA.out.bf.lt (.tail _ (.tail _ (.head _)))).2
            omega
          clear HA hsrc
          go_wp2_with (at_builtin; refine wpList_append_src _ rfl (.tmp 146) (.tmp 148) 22 rfl w.heap.size 77 i0 (.agg #[.int .i64 0, .int .i64 0, .slice none 0 0, .slice none 0 0, .int .i64 0, .slice none 0 0, .int .i64 0]) 7 104 Tryz.underlying22 hi0 hz0 hz1 hz2 rfl (by decide) (.slice (some ⟨X21.heap.size, 0, none⟩) 1 1) 1 [.int .i64 ek.p.lo, .int .i64 ek.p.hi, .slice rna en.p.nr rnc, .slice v2ba l2.length v2bc, .int .i64 2, .slice nva ek.nn nvc, .int .i64 d10] rfl HAB.out.tw.o2 ua k uc (eF NR VN k) rfl HSR.out ?d0 ?d1 ?d2 ?d3 ?_)
          case d0 => exact HONN.out
          case d1 => unfold maxLen; omega
          case d2 => omega
          case d3 => (try rw [World.size_alloc]); omega
          intro v' Y hown hgr hat
          have HA := Lib.hid (HAB.out.growN hown hgr (by rw [World.size_alloc]; exact hat) (fun p hp e => by
            simp only [List.mem_cons, List.not_mem_nil, or_false] at hp
            have hnl := HNL.out _ e
            rcases hp with rfl | rfl | rfl | rfl | rfl
            · omega
            · omega
            · omega
            · omega
            · omega))
          obtain ⟨ua2, uc2, rfl⟩ := own_slice' hown
          clear hpl1 hown hgr hat HAB HNL HSR a0 a1 a2 a3 a4 a5 a6 x1
          have x1 := HA.out.bf.cell (.head _) 1
          have fx := HA.out.bf.thaw (.head _) 1
          have HA' := Lib.hid (TS.set1 (i := 1) (cs' := #[.slice va2 (k + 1) vc2, .slice ua2 (1 + k) uc2, .slice mb (nm + k) md]) HA.out (.head _) (.slice ua2 (1 + k) uc2) (by simp) rfl (L' := [(PN, #[.int .i64 ek.p.lo, .int .i64 ek.p.hi, .slice rna en.p.nr rnc, .slice v2ba l2.length v2bc, .int .i64 2, .slice nva ek.nn nvc, .int .i64 d10], 77), (PO, #[.int .i64 ek.p.lo, .int .i64 ek.p.hi, .slice rva ek.p.nr rvc, .slice v2aa l1.length v2ac, .int .i64 ek.sex, .slice nva ek.nn nvc, .int .i64 ek.pl], 77), (WB, #[.int .u16 d0, .int .u16 d1, .int .u16 d2], 83), (w.heap.size, #[.slice (some ⟨ob, oo, none⟩) no oc, .slice (some ⟨nb, no2, none⟩) nw nc, .slice ma nm mc], 25)]) (List.forall_mem_cons.2 ⟨⟨show PN ≠ PX by have := HORD.out; omega, (.tail _ (.head _))⟩, List.forall_mem_cons.2 ⟨⟨show PO ≠ PX by have := HORD.out; omega, (.tail _ (.tail _ (.head _)))⟩, List.forall_mem_cons.2 ⟨⟨show WB ≠ PX by have := HORD.out; omega, (.tail _ (.tail _ (.tail _ (.head _))))⟩, List.forall_mem_cons.2 ⟨⟨show w.heap.size ≠ PX by have := HORD.out; omega, (.tail _ (.tail _ (.tail _ (.tail _ (.head _)))))⟩, List.forall_mem_nil _⟩⟩⟩⟩) (by decide))
          clear HA
          have HA := HA'
          clear HA'
          go_upto_region 22 with fail
          clear x1 fx
          generalize (Y.setCell ⟨PX, 1, none⟩ (.slice ua2 (1 + k) uc2)) = X22 at *
          have x2 := HA.out.bf.cell (.head _) 2
          have o6 := HA.out.bf.cell (.tail _ (.tail _ (.head _))) 6
          have n6 := HA.out.bf.cell (.tail _ (.head _)) 6
          have HN := Lib.hid (World.news_of_block (heap_alloc_new X22 (.cells #[.int .i64 ek.pl, .int .i64 d10] 63)))
          have HAB := Lib.hid (HA.out.below (below_alloc X22 (.cells #[.int .i64 ek.pl, .int .i64 d10] 63)))
          have hxs := HA.out.bf.fr.size
          clear HA
          go_wp2_with (at_builtin; refine wpList_append_src _ rfl (.tmp 152) (.tmp 158) 23 rfl w.heap.size 63 j0 (.agg #[.int .i64 0, .int .i64 0]) 2 16 Tryz.underlying23 hj0 hj1 hj2 hj3 rfl (by decide) (.slice mb (nm + k) md) (nm + k) (mvL mf mt (nm + k)) rfl HAB.out.mv (some ⟨X22.heap.size, 0, none⟩) 1 1 [.int .i64 ek.pl, .int .i64 d10] rfl ⟨rfl, fun q u hu => ⟨_, rfl, HN.out q u hu⟩⟩ ?e0 ?e1 ?e2 ?e3 ?_)
          case e0 => simp [Value.oneCell']
          case e1 => unfold maxLen; omega
          case e2 => omega
          case e3 => (try rw [World.size_alloc]); omega
          intro v' Y hown hgr hat
          have HA := Lib.hid (HAB.out.growM hown hgr (fun p hp => by
            simp only [List.mem_cons, List.not_mem_nil, or_false] at hp
            rcases hp with rfl | rfl | rfl | rfl | rfl
            · exact (by decide : (25 : TypeId) ≠ 63)
            · exact (by decide : (77 : TypeId) ≠ 63)
            · exact (by decide : (77 : TypeId) ≠ 63)
            · exact (by decide : (83 : TypeId) ≠ 63)
            · exact (by decide : (25 : TypeId) ≠ 63)))
          obtain ⟨mb2, md2, rfl⟩ := own_slice' hown
          clear hown hgr hat HAB HN x2 o6 n6
          have x2 := HA.out.bf.cell (.head _) 2
          have fx := HA.out.bf.thaw (.head _) 2
          have HA' := Lib.hid (TS.set1 (i := 2) (cs' := #[.slice va2 (k + 1) vc2, .slice ua2 (1 + k) uc2, .slice mb2 (nm + k + 1) md2]) HA.out (.head _) (.slice mb2 (nm + k + 1) md2) (by simp) rfl (L' := [(PN, #[.int .i64 ek.p.lo, .int .i64 ek.p.hi, .slice rna en.p.nr rnc, .slice v2ba l2.length v2bc, .int .i64 2, .slice nva ek.nn nvc, .int .i64 d10], 77), (PO, #[.int .i64 ek.p.lo, .int .i64 ek.p.hi, .slice rva ek.p.nr rvc, .slice v2aa l1.length v2ac, .int .i64 ek.sex, .slice nva ek.nn nvc, .int .i64 ek.pl], 77), (WB, #[.int .u16 d0, .int .u16 d1, .int .u16 d2], 83), (w.heap.size, #[.slice (some ⟨ob, oo, none⟩) no oc, .slice (some ⟨nb, no2, none⟩) nw nc, .slice ma nm mc], 25)]) (List.forall_mem_cons.2 ⟨⟨show PN ≠ PX by have := HORD.out; omega, (.tail _ (.head _))⟩, List.forall_mem_cons.2 ⟨⟨show PO ≠ PX by have := HORD.out; omega, (.tail _ (.tail _ (.head _)))⟩, List.forall_mem_cons.2 ⟨⟨show WB ≠ PX by have := HORD.out; omega, (.tail _ (.tail _ (.tail _ (.head _))))⟩, List.forall_mem_cons.2 ⟨⟨show w.heap.size ≠ PX by have := HORD.out; omega, (.tail _ (.tail _ (.tail _ (.tail _ (.head _)))))⟩, List.forall_mem_nil _⟩⟩⟩⟩) (by decide))
          clear HA
          have HA := HA'
          clear HA'
          go_upto_region 23 with fail
          clear x2 fx
          generalize (Y.setCell ⟨PX, 2, none⟩ (.slice mb2 (nm + k + 1) md2)) = X23 at *
          have c0 := HA.out.bf.cell (.tail _ (.tail _ (.tail _ (.tail _ (.head _))))) 0
          have HN := Lib.hid (World.news_of_block (heap_alloc_new X23 (.cells #[.int .i64 ((no : Int) - 1 - (k : Int))] 3)))
          have HAB := Lib.hid (HA.out.below (below_alloc X23 (.cells #[.int .i64 ((no : Int) - 1 - (k : Int))] 3)))
          have hxs := HA.out.bf.fr.size
          clear HA
          go_wp2_with (at_builtin; refine wpList_append_src _ rfl (.tmp 161) (.tmp 168) 47 rfl w.heap.size 3 g0 (.int .i64 0) 1 8 Tryz.underlying47 hg0 hg1 hg2 hg3 rfl (by decide) (.slice lb k ld) k (iL (lkT no) k) rfl HAB.out.lk (some ⟨X23.heap.size, 0, none⟩) 1 1 [.int .i64 ((no : Int) - 1 - (k : Int))] rfl ⟨rfl, fun q u hu => ⟨_, rfl, HN.out q u hu⟩⟩ ?h0 ?h1 ?h2 ?h3 ?_)
          case h0 => simp [Value.oneCell']
          case h1 => unfold maxLen; omega
          case h2 => omega
          case h3 => (try rw [World.size_alloc]); omega
          intro v' Y hown hgr hat
          have HA := Lib.hid (HAB.out.growL hown hgr (fun p hp => by
            simp only [List.mem_cons, List.not_mem_nil, or_false] at hp
            rcases hp with rfl | rfl | rfl | rfl | rfl
            · exact (by decide : (25 : TypeId) ≠ 3)
            · exact (by decide : (77 : TypeId) ≠ 3)
            · exact (by decide : (77 : TypeId) ≠ 3)
            · exact (by decide : (83 : TypeId) ≠ 3)
            · exact (by decide : (25 : TypeId) ≠ 3)))
          obtain ⟨lb2, ld2, rfl⟩ := own_slice' hown
          clear hown hgr hat HAB HN c0
          go_wp2_with fail
          go_roundw
          case rel =>
            have ha : QX w Y (.slice rva ek.p.nr rvc, .slice v2aa l1.length v2ac, .slice nva ek.nn nvc) ⟨trP ek.p l1, ek.sex, ek.nn, ek.z, ek.pl⟩ := ⟨HEK.out.1, ⟨ek.p, l1, rfl, HA.out.ca⟩, HEK.out.2.1, HEK.out.2.2.1, HSZ.out.1, HEK.out.2.2.2⟩
            have hb : QX w Y (.slice rna en.p.nr rnc, .slice v2ba l2.length v2bc, .slice nva ek.nn nvc) ⟨trP (Pers.mk ek.p.lo ek.p.hi en.p.nr en.p.R en.p.nc en.p.C) l2, 2, ek.nn, ek.z, d10⟩ := ⟨HPB.out.1, ⟨(Pers.mk ek.p.lo ek.p.hi en.p.nr en.p.R en.p.nc en.p.C), l2, rfl, HA.out.cb⟩, HEK.out.2.1, HSZ.out.2.1, HSZ.out.2.2, HEK.out.2.2.2⟩
            have ht : TrE ⟨trP ek.p l1, ek.sex, ek.nn, ek.z, ek.pl⟩ ⟨trP (Pers.mk ek.p.lo ek.p.hi en.p.nr en.p.R en.p.nc en.p.C) l2, 2, ek.nn, ek.z, d10⟩ := ⟨.inr rfl, rfl, rfl, HDAY.out⟩
            have hn := HA.out.next ha hb ht
            rw [HEO.out, HEN.out, mvL_one, HLK.out, iL_snoc, Nat.add_comm 1 k] at hn
            exact ⟨k + 1, _, _, _, _, _, _, va2, vc2, ua2, uc2, mb2, md2, lb2, ld2, by go_num, rfl, by omega, _, _, _, _, [], hn.sub (List.forall_mem_cons.2 ⟨(.head _), List.forall_mem_cons.2 ⟨(.tail _ (.tail _ (.tail _ (.tail _ (.head _))))), List.forall_mem_nil _⟩⟩)⟩
          case measure => simp [intOf]; omega
        ·
          have kd4 : (d3 == 0) = false := by simp [hz3]
          go_upto_region 19 with fail
          clear u0
          have HEO : Hid (eF EO VO k ++ [.int .i64 ek.p.lo, .int .i64 ek.p.hi, .slice rva ek.p.nr rvc, .slice v2aa l1.length v2ac, .int .i64 ek.sex, .slice nva ek.nn nvc, .int .i64 ek.pl] = eF (addE EO k (⟨trP ek.p l1, ek.sex, ek.nn, ek.z, ek.pl⟩ : En)) (addV VO k (.slice rva ek.p.nr rvc, .slice v2aa l1.length v2ac, .slice nva ek.nn nvc)) (k + 1)) := eF_snoc EO VO k (⟨trP ek.p l1, ek.sex, ek.nn, ek.z, ek.pl⟩ : En) (.slice rva ek.p.nr rvc, .slice v2aa l1.length v2ac, .slice nva ek.nn nvc)
          have HEN : Hid ((.int .i64 ek.p.lo : Value) :: (.int .i64 ek.p.hi : Value) :: (.slice rna en.p.nr rnc : Value) :: (.slice v2ba l2.length v2bc : Value) :: (.int .i64 ek.sex : Value) :: (.slice nva ek.nn nvc : Value) :: .int .i64 d10 :: eF NR VN k = eF (catE (fun _ => (⟨trP (Pers.mk ek.p.lo ek.p.hi en.p.nr en.p.R en.p.nc en.p.C) l2, ek.sex, ek.nn, ek.z, d10⟩ : En)) NR 1) (catE (fun _ => (.slice rna en.p.nr rnc, .slice v2ba l2.length v2bc, .slice nva ek.nn nvc)) VN 1) (1 + k)) := by
            have h := eF_append (fun _ => (⟨trP (Pers.mk ek.p.lo ek.p.hi en.p.nr en.p.R en.p.nc en.p.C) l2, ek.sex, ek.nn, ek.z, d10⟩ : En)) NR (fun _ => (.slice rna en.p.nr rnc, .slice v2ba l2.length v2bc, .slice nva ek.nn nvc)) VN 1 k
            rw [eF_single] at h
            exact h
          have HLK : Hid ((no : Int) - 1 - (k : Int) = lkT no k) := by unfold Hid lkT; omega
          have HEK : Hid (RlsIn w (.slice rva ek.p.nr rvc) ek.p.nr ek.p.R ∧ IntsIn w (.slice nva ek.nn nvc) ek.nn ek.z ∧ ek.p.nr ≤ maxLen ∧ ek.nn ≤ maxLen) := ⟨HQE.out.1, HQE.out.2.2.1, HQE.out.2.2.2.1, HQE.out.2.2.2.2.2⟩
          have u1 := HA.out.bf.cell (.tail _ (.tail _ (.head _))) 1
          have e6 := HA.out.bf.cell (.head _) 6
          have f6 := HA.out.bf.thaw (.head _) 6
          have HA' := Lib.hid (TS.setE (i := 6) (cs' := #[.int .i64 ek.p.lo, .int .i64 ek.p.hi, .slice rna en.p.nr rnc, .slice v2ba l2.length v2bc, .int .i64 ek.sex, .slice nva ek.nn nvc, .int .i64 d10]) HA.out (.head _) (.int .i64 d10) (by simp) rfl (L' := [(PO, #[.int .i64 ek.p.lo, .int .i64 ek.p.hi, .slice rva ek.p.nr rvc, .slice v2aa l1.length v2ac, .int .i64 ek.sex, .slice nva ek.nn nvc, .int .i64 ek.pl], 77), (WB, #[.int .u16 d0, .int .u16 d1, .int .u16 d2], 83), (PX, #[.slice va k vc, .slice ua k uc, .slice mb (nm + k) md], 25), (w.heap.size, #[.slice (some ⟨ob, oo, none⟩) no oc, .slice (some ⟨nb, no2, none⟩) nw nc, .slice ma nm mc], 25)]) (List.forall_mem_cons.2 ⟨⟨show PO ≠ PN by have := HORD.out; omega, (.tail _ (.head _))⟩, List.forall_mem_cons.2 ⟨⟨show WB ≠ PN by have := HORD.out; omega, (.tail _ (.tail _ (.head _)))⟩, List.forall_mem_cons.2 ⟨⟨show PX ≠ PN by have := HORD.out; omega, (.tail _ (.tail _ (.tail _ (.head _))))⟩, List.forall_mem_cons.2 ⟨⟨show w.heap.size ≠ PN by have := HORD.out; omega, (.tail _ (.tail _ (.tail _ (.tail _ (.head _)))))⟩, List.forall_mem_nil _⟩⟩⟩⟩) (fun g e => by have := (HLO.out.1 g e); omega) (fun g e => by have := (HLO.out.2 g e); omega))
          clear HA
          have HA := HA'
          clear HA'
          go_upto_region 20 with fail
          clear u1 e6 f6
          generalize (X15.setCell ⟨PN, 6, none⟩ (.int .i64 d10)) = X20 at *
          have a0 := HA.out.bf.cell (.tail _ (.head _)) 0
          have a1 := HA.out.bf.cell (.tail _ (.head _)) 1
          have a2 := HA.out.bf.cell (.tail _ (.head _)) 2
          have a3 := HA.out.bf.cell (.tail _ (.head _)) 3
          have a4 := HA.out.bf.cell (.tail _ (.head _)) 4
          have a5 := HA.out.bf.cell (.tail _ (.head _)) 5
          have a6 := HA.out.bf.cell (.tail _ (.head _)) 6
          have x0 := HA.out.bf.cell (.tail _ (.tail _ (.tail _ (.head _)))) 0
          have HN := Lib.hid (World.news_of_block (heap_alloc_new X20 (.cells #[.int .i64 ek.p.lo, .int .i64 ek.p.hi, .slice rva ek.p.nr rvc, .slice v2aa l1.length v2ac, .int .i64 ek.sex, .slice nva ek.nn nvc, .int .i64 ek.pl] 77)))
          have HAB := Lib.hid (HA.out.below (below_alloc X20 (.cells #[.int .i64 ek.p.lo, .int .i64 ek.p.hi, .slice rva ek.p.nr rvc, .slice v2aa l1.length v2ac, .int .i64 ek.sex, .slice nva ek.nn nvc, .int .i64 ek.pl] 77)))
          have hxs := HA.out.bf.fr.size
          have hsl := HLO.out
          clear HA
          go_wp2_with (at_builtin; refine wpList_append_src _ rfl (.tmp 140) (.tmp 142) 22 rfl w.heap.size 77 i0 (.agg #[.int .i64 0, .int .i64 0, .slice none 0 0, .slice none 0 0, .int .i64 0, .slice none 0 0, .int .i64 0]) 7 104 Tryz.underlying22 hi0 hz0 hz1 hz2 rfl (by decide) (.slice va k vc) k (eF EO VO k) rfl HAB.out.tw.o1 (some ⟨X20.heap.size, 0, none⟩) 1 1 [.int .i64 ek.p.lo, .int .i64 ek.p.hi, .slice rva ek.p.nr rvc, .slice v2aa l1.length v2ac, .int .i64 ek.sex, .slice nva ek.nn nvc, .int .i64 ek.pl] rfl ⟨rfl, fun q u hu => ⟨_, rfl, HN.out q u hu⟩⟩ ?c0 ?c1 ?c2 ?c3 ?_)
          case c0 => simp [Value.oneCell']
          case c1 => unfold maxLen; omega
          case c2 => omega
          case c3 => (try rw [World.size_alloc]); omega
          intro v' Y hown hgr hat
          have HA := Lib.hid (HAB.out.growO hown hgr (by rw [World.size_alloc]; exact hat) (fun p hp e => by
            simp only [List.mem_cons, List.not_mem_nil, or_false] at hp
            rcases hp with rfl | rfl | rfl | rfl | rfl
            · have := (hsl.1 _ e); omega
            · have := (hsl.1 _ e); omega
            · exact own_type_ne HAB.out.tw.o1 (HAB.out.bf.bk _ _ _ (.tail _ (.tail _ (.head _)))).2 (by decide) e
            · exact own_type_ne HAB.out.tw.o1 (HAB.out.bf.bk _ _ _ (.tail _ (.tail _ (.tail _ (.head _))))).2 (by decide) e
            · exact own_type_ne HAB.out.tw.o1 (HAB.out.bf.bk _ _ _ (.tail _ (.tail _ (.tail _ (.tail _ (.head _)))))).2 (by decide) e))
          obtain ⟨va2, vc2, rfl⟩ := own_slice' hown
          clear hown hgr hat HAB HN hsl a0 a1 a2 a3 a4 a5 a6 x0
          have x0 := HA.out.bf.cell (.tail _ (.tail _ (.tail _ (.head _)))) 0
          have fx := HA.out.bf.thaw (.tail _ (.tail _ (.tail _ (.head _)))) 0
          have HA' := Lib.hid (TS.set1 (i := 0) (cs' := #[.slice va2 (k + 1) vc2, .slice ua k uc, .slice mb (nm + k) md]) HA.out (.tail _ (.tail _ (.tail _ (.head _)))) (.slice va2 (k + 1) vc2) (by simp) rfl (L' := [(PN, #[.int .i64 ek.p.lo, .int .i64 ek.p.hi, .slice rna en.p.nr rnc, .slice v2ba l2.length v2bc, .int .i64 ek.sex, .slice nva ek.nn nvc, .int .i64 d10], 77), (PO, #[.int .i64 ek.p.lo, .int .i64 ek.p.hi, .slice rva ek.p.nr rvc, .slice v2aa l1.length v2ac, .int .i64 ek.sex, .slice nva ek.nn nvc, .int .i64 ek.pl], 77), (WB, #[.int .u16 d0, .int .u16 d1, .int .u16 d2], 83), (w.heap.size, #[.slice (some ⟨ob, oo, none⟩) no oc, .slice (some ⟨nb, no2, none⟩) nw nc, .slice ma nm mc], 25)]) (List.forall_mem_cons.2 ⟨⟨show PN ≠ PX by have := HORD.out; omega, (.head _)⟩, List.forall_mem_cons.2 ⟨⟨show PO ≠ PX by have := HORD.out; omega, (.tail _ (.head _))⟩, List.forall_mem_cons.2 ⟨⟨show WB ≠ PX by have := HORD.out; omega, (.tail _ (.tail _ (.head _)))⟩, List.forall_mem_cons.2 ⟨⟨show w.heap.size ≠ PX by have := HORD.out; omega, (.tail _ (.tail _ (.tail _ (.tail _ (.head _)))))⟩, List.forall_mem_nil _⟩⟩⟩⟩) (by decide))
          clear HA
          have HA := HA'
          clear HA'
          go_upto_region 21 with fail
          clear x0 fx
          generalize (Y.setCell ⟨PX, 0, none⟩ (.slice va2 (k + 1) vc2)) = X21 at *
          have a0 := HA.out.bf.cell (.tail _ (.head _)) 0
          have a1 := HA.out.bf.cell (.tail _ (.head _)) 1
          have a2 := HA.out.bf.cell (.tail _ (.head _)) 2
          have a3 := HA.out.bf.cell (.tail _ (.head _)) 3
          have a4 := HA.out.bf.cell (.tail _ (.head _)) 4
          have a5 := HA.out.bf.cell (.tail _ (.head _)) 5
          have a6 := HA.out.bf.cell (.tail _ (.head _)) 6
          have x1 := HA.out.bf.cell (.head _) 1
          have hpl1 := (HA.out.bf.lt (.head _)).2
          obtain ⟨ua0, uc0, hu0, hsrc⟩ := HA.out.srcN
          simp only [Value.slice.injEq] at hu0
          obtain ⟨hu1, _, hu2⟩ := hu0
          subst hu1 hu2
          have HSR := Lib.hid (hsrc.below (fun p v hv => below_cell (below_alloc X21 (.cells #[.int .i64 ek.p.lo, .int .i64 ek.p.hi, .slice rna en.p.nr rnc, .slice v2ba l2.length v2bc, .int .i64 ek.sex, .slice nva ek.nn nvc, .int .i64 d10] 77)) p v hv))
          have HAB := Lib.hid (HA.out.buildN #[.int .i64 ek.p.lo, .int .i64 ek.p.hi, .slice rna en.p.nr rnc, .slice v2ba l2.length v2bc, .int .i64 ek.sex, .slice nva ek.nn nvc, .int .i64 d10] rfl)
          have hxs := HA.out.bf.fr.size
          have HNL : Hid (∀ g, (some X21.heap.size : Option Nat) = some g → PX < g ∧ WB < g ∧ w.heap.size < g ∧ PN < g ∧ PO < g) := fun g e => by
            injection e with e
            have h1 := (HA.out.bf.lt (.head _)).2
            have h2 := (HA.out.bf.lt (.tail _ (.tail _ (.tail _ (.head _))))).2
            have h3 := (HA.out.bf.lt (.tail _ (.tail _ (.tail _ (.tail _ (.head _)))))).2
            have h4 := (HA.out.bf.lt (.tail _ (.head _))).2
            have h5 := (HA.out.bf.lt (.tail _ (.tail _ (.head _)))).2
            omega
          clear HA hsrc
          go_wp2_with (at_builtin; refine wpList_append_src _ rfl (.tmp 146) (.tmp 148) 22 rfl w.heap.size 77 i0 (.agg #[.int .i64 0, .int .i64 0, .slice none 0 0, .slice none 0 0, .int .i64 0, .slice none 0 0, .int .i64 0]) 7 104 Tryz.underlying22 hi0 hz0 hz1 hz2 rfl (by decide) (.slice (some ⟨X21.heap.size, 0, none⟩) 1 1) 1 [.int .i64 ek.p.lo, .int .i64 ek.p.hi, .slice rna en.p.nr rnc, .slice v2ba l2.length v2bc, .int .i64 ek.sex, .slice nva ek.nn nvc, .int .i64 d10] rfl HAB.out.tw.o2 ua k uc (eF NR VN k) rfl HSR.out ?d0 ?d1 ?d2 ?d3 ?_)
          case d0 => exact HONN.out
          case d1 => unfold maxLen; omega
          case d2 => omega
          case d3 => (try rw [World.size_alloc]); omega
          intro v' Y hown hgr hat
          have HA := Lib.hid (HAB.out.growN hown hgr (by rw [World.size_alloc]; exact hat) (fun p hp e => by
            simp only [List.mem_cons, List.not_mem_nil, or_false] at hp
            have hnl := HNL.out _ e
            rcases hp with rfl | rfl | rfl | rfl | rfl
            · omega
            · omega
            · omega
            · omega
            · omega))
          obtain ⟨ua2, uc2, rfl⟩ := own_slice' hown
          clear hpl1 hown hgr hat HAB HNL HSR a0 a1 a2 a3 a4 a5 a6 x1
          have x1 := HA.out.bf.cell (.head _) 1
          have fx := HA.out.bf.thaw (.head _) 1
          have HA' := Lib.hid (TS.set1 (i := 1) (cs' := #[.slice va2 (k + 1) vc2, .slice ua2 (1 + k) uc2, .slice mb (nm + k) md]) HA.out (.head _) (.slice ua2 (1 + k) uc2) (by simp) rfl (L' := [(PN, #[.int .i64 ek.p.lo, .int .i64 ek.p.hi, .slice rna en.p.nr rnc, .slice v2ba l2.length v2bc, .int .i64 ek.sex, .slice nva ek.nn nvc, .int .i64 d10], 77), (PO, #[.int .i64 ek.p.lo, .int .i64 ek.p.hi, .slice rva ek.p.nr rvc, .slice v2aa l1.length v2ac, .int .i64 ek.sex, .slice nva ek.nn nvc, .int .i64 ek.pl], 77), (WB, #[.int .u16 d0, .int .u16 d1, .int .u16 d2], 83), (w.heap.size, #[.slice (some ⟨ob, oo, none⟩) no oc, .slice (some ⟨nb, no2, none⟩) nw nc, .slice ma nm mc], 25)]) (List.forall_mem_cons.2 ⟨⟨show PN ≠ PX by have := HORD.out; omega, (.tail _ (.head _))⟩, List.forall_mem_cons.2 ⟨⟨show PO ≠ PX by have := HORD.out; omega, (.tail _ (.tail _ (.head _)))⟩, List.forall_mem_cons.2 ⟨⟨show WB ≠ PX by have := HORD.out; omega, (.tail _ (.tail _ (.tail _ (.head _))))⟩, List.forall_mem_cons.2 ⟨⟨show w.heap.size ≠ PX by have := HORD.out; omega, (.tail _ (.tail _ (.tail _ (.tail _ (.head _)))))⟩, List.forall_mem_nil _⟩⟩⟩⟩) (by decide))
          clear HA
          have HA := HA'
          clear HA'
          go_upto_region 22 with fail
          clear x1 fx
          generalize (Y.setCell ⟨PX, 1, none⟩ (.slice ua2 (1 + k) uc2)) = X22 at *
          have x2 := HA.out.bf.cell (.head _) 2
          have o6 := HA.out.bf.cell (.tail _ (.tail _ (.head _))) 6
          have n6 := HA.out.bf.cell (.tail _ (.head _)) 6
          have HN := Lib.hid (World.news_of_block (heap_alloc_new X22 (.cells #[.int .i64 ek.pl, .int .i64 d10] 63)))
          have HAB := Lib.hid (HA.out.below (below_alloc X22 (.cells #[.int .i64 ek.pl, .int .i64 d10] 63)))
          have hxs := HA.out.bf.fr.size
          clear HA
          go_wp2_with (at_builtin; refine wpList_append_src _ rfl (.tmp 152) (.tmp 158) 23 rfl w.heap.size 63 j0 (.agg #[.int .i64 0, .int .i64 0]) 2 16 Tryz.underlying23 hj0 hj1 hj2 hj3 rfl (by decide) (.slice mb (nm + k) md) (nm + k) (mvL mf mt (nm + k)) rfl HAB.out.mv (some ⟨X22.heap.size, 0, none⟩) 1 1 [.int .i64 ek.pl, .int .i64 d10] rfl ⟨rfl, fun q u hu => ⟨_, rfl, HN.out q u hu⟩⟩ ?e0 ?e1 ?e2 ?e3 ?_)
          case e0 => simp [Value.oneCell']
          case e1 => unfold maxLen; omega
          case e2 => omega
          case e3 => (try rw [World.size_alloc]); omega
          intro v' Y hown hgr hat
          have HA := Lib.hid (HAB.out.growM hown hgr (fun p hp => by
            simp only [List.mem_cons, List.not_mem_nil, or_false] at hp
            rcases hp with rfl | rfl | rfl | rfl | rfl
            · exact (by decide : (25 : TypeId) ≠ 63)
            · exact (by decide : (77 : TypeId) ≠ 63)
            · exact (by decide : (77 : TypeId) ≠ 63)
            · exact (by decide : (83 : TypeId) ≠ 63)
            · exact (by decide : (25 : TypeId) ≠ 63)))
          obtain ⟨mb2, md2, rfl⟩ := own_slice' hown
          clear hown hgr hat HAB HN x2 o6 n6
          have x2 := HA.out.bf.cell (.head _) 2
          have fx := HA.out.bf.thaw (.head _) 2
          have HA' := Lib.hid (TS.set1 (i := 2) (cs' := #[.slice va2 (k + 1) vc2, .slice ua2 (1 + k) uc2, .slice mb2 (nm + k + 1) md2]) HA.out (.head _) (.slice mb2 (nm + k + 1) md2) (by simp) rfl (L' := [(PN, #[.int .i64 ek.p.lo, .int .i64 ek.p.hi, .slice rna en.p.nr rnc, .slice v2ba l2.length v2bc, .int .i64 ek.sex, .slice nva ek.nn nvc, .int .i64 d10], 77), (PO, #[.int .i64 ek.p.lo, .int .i64 ek.p.hi, .slice rva ek.p.nr rvc, .slice v2aa l1.length v2ac, .int .i64 ek.sex, .slice nva ek.nn nvc, .int .i64 ek.pl], 77), (WB, #[.int .u16 d0, .int .u16 d1, .int .u16 d2], 83), (w.heap.size, #[.slice (some ⟨ob, oo, none⟩) no oc, .slice (some ⟨nb, no2, none⟩) nw nc, .slice ma nm mc], 25)]) (List.forall_mem_cons.2 ⟨⟨show PN ≠ PX by have := HORD.out; omega, (.tail _ (.head _))⟩, List.forall_mem_cons.2 ⟨⟨show PO ≠ PX by have := HORD.out; omega, (.tail _ (.tail _ (.head _)))⟩, List.forall_mem_cons.2 ⟨⟨show WB ≠ PX by have := HORD.out; omega, (.tail _ (.tail _ (.tail _ (.head _))))⟩, List.forall_mem_cons.2 ⟨⟨show w.heap.size ≠ PX by have := HORD.out; omega, (.tail _ (.tail _ (.tail _ (.tail _ (.head _)))))⟩, List.forall_mem_nil _⟩⟩⟩⟩) (by decide))
          clear HA
          have HA := HA'
          clear HA'
          go_upto_region 23 with fail
          clear x2 fx
          generalize (Y.setCell ⟨PX, 2, none⟩ (.slice mb2 (nm + k + 1) md2)) = X23 at *
          have c0 := HA.out.bf.cell (.tail _ (.tail _ (.tail _ (.tail _ (.head _))))) 0
          have HN := Lib.hid (World.news_of_block (heap_alloc_new X23 (.cells #[.int .i64 ((no : Int) - 1 - (k : Int))] 3)))
          have HAB := Lib.hid (HA.out.below (below_alloc X23 (.cells #[.int .i64 ((no : Int) - 1 - (k : Int))] 3)))
          have hxs := HA.out.bf.fr.size
          clear HA
          go_wp2_with (at_builtin; refine wpList_append_src _ rfl (.tmp 161) (.tmp 168) 47 rfl w.heap.size 3 g0 (.int .i64 0) 1 8 Tryz.underlying47 hg0 hg1 hg2 hg3 rfl (by decide) (.slice lb k ld) k (iL (lkT no) k) rfl HAB.out.lk (some ⟨X23.heap.size, 0, none⟩) 1 1 [.int .i64 ((no : Int) - 1 - (k : Int))] rfl ⟨rfl, fun q u hu => ⟨_, rfl, HN.out q u hu⟩⟩ ?h0 ?h1 ?h2 ?h3 ?_)
          case h0 => simp [Value.oneCell']
          case h1 => unfold maxLen; omega
          case h2 => omega
          case h3 => (try rw [World.size_alloc]); omega
          intro v' Y hown hgr hat
          have HA := Lib.hid (HAB.out.growL hown hgr (fun p hp => by
            simp only [List.mem_cons, List.not_mem_nil, or_false] at hp
            rcases hp with rfl | rfl | rfl | rfl | rfl
            · exact (by decide : (25 : TypeId) ≠ 3)
            · exact (by decide : (77 : TypeId) ≠ 3)
            · exact (by decide : (77 : TypeId) ≠ 3)
            · exact (by decide : (83 : TypeId) ≠ 3)
            · exact (by decide : (25 : TypeId) ≠ 3)))
          obtain ⟨lb2, ld2, rfl⟩ := own_slice' hown
          clear hown hgr hat HAB HN c0
          go_wp2_with fail
          go_roundw
          case rel =>
            have ha : QX w Y (.slice rva ek.p.nr rvc, .slice v2aa l1.length v2ac, .slice nva ek.nn nvc) ⟨trP ek.p l1, ek.sex, ek.nn, ek.z, ek.pl⟩ := ⟨HEK.out.1, ⟨ek.p, l1, rfl, HA.out.ca⟩, HEK.out.2.1, HEK.out.2.2.1, HSZ.out.1, HEK.out.2.2.2⟩
            have hb : QX w Y (.slice rna en.p.nr rnc, .slice v2ba l2.length v2bc, .slice nva ek.nn nvc) ⟨trP (Pers.mk ek.p.lo ek.p.hi en.p.nr en.p.R en.p.nc en.p.C) l2, ek.sex, ek.nn, ek.z, d10⟩ := ⟨HPB.out.1, ⟨(Pers.mk ek.p.lo ek.p.hi en.p.nr en.p.R en.p.nc en.p.C), l2, rfl, HA.out.cb⟩, HEK.out.2.1, HSZ.out.2.1, HSZ.out.2.2, HEK.out.2.2.2⟩
            have ht : TrE ⟨trP ek.p l1, ek.sex, ek.nn, ek.z, ek.pl⟩ ⟨trP (Pers.mk ek.p.lo ek.p.hi en.p.nr en.p.R en.p.nc en.p.C) l2, ek.sex, ek.nn, ek.z, d10⟩ := ⟨.inl rfl, rfl, rfl, HDAY.out⟩
            have hn := HA.out.next ha hb ht
            rw [HEO.out, HEN.out, mvL_one, HLK.out, iL_snoc, Nat.add_comm 1 k] at hn
            exact ⟨k + 1, _, _, _, _, _, _, va2, vc2, ua2, uc2, mb2, md2, lb2, ld2, by go_num, rfl, by omega, _, _, _, _, [], hn.sub (List.forall_mem_cons.2 ⟨(.head _), List.forall_mem_cons.2 ⟨(.tail _ (.tail _ (.tail _ (.tail _ (.head _))))), List.forall_mem_nil _⟩⟩)⟩
          case measure => simp [intOf]; omega
    ·
      obtain rfl : k = no := by omega
      have hq : FlQ QR wx ⟨va, vc, ua, uc, mb, md⟩ (Fl.mk k EO k NR (nm + k) mf mt) := ⟨EsQ.own HA.out.tw.o1 (fun j hj => (HA.out.ti.qo j hj).qr HA.out.bf.fr), EsQ.own HA.out.tw.o2 (fun j hj => (HA.out.ti.qn j hj).qr HA.out.bf.fr), mvL_own HA.out.mv⟩
      have hiz : IntsIn wx (.slice lb k ld) k (lkT k) := IntsIn.ofRow HA.out.lk
      have HIZ := Lib.hid (listW lb k ld (lkT k) wx (by omega) hiz)
      have HFT : Hid (∀ X, Below wx.heap.size wx X → Calls Tryz.prog 23 #[.agg #[.slice va k vc, .slice ua k uc, .slice mb (nm + k) md]] X fun e w' => e = .returned (.int .i64 (Fl.mk k EO k NR (nm + k) mf mt).fault) ∧ Below X.heap.size X w') := faultW ⟨va, vc, ua, uc, mb, md⟩ (Fl.mk k EO k NR (nm + k) mf mt) wx hq _ rfl
      have HLW : Hid ((Fl.mk k EO k NR (nm + k) mf mt).fault = 0 → ((Fl.mk k EO k NR (nm + k) mf mt).isM k (lkT k) = true ∧ cntM (lkT k) k = k ∧ (Fl.mk k EO k NR (nm + k) mf mt).most = k)) := fun e => HA.out.ti.law (Fl.ok e)
      have HFX : Hid ((Fl.mk k EO k NR (nm + k) mf mt).fault = 0 → ∀ Y, Below wx.heap.size wx Y → Calls Tryz.prog 21 #[.agg #[.slice va k vc, .slice ua k uc, .slice mb (nm + k) md]] Y fun e w' => ∃ z : FV, e = .returned (.agg #[.slice z.oa k z.oc, .slice z.na k z.nc, .slice z.ma (nm + k) z.mc]) ∧ FlQ QP w' z (Fl.mk k EO k NR (nm + k) mf mt) ∧ Below Y.heap.size Y w') := fun e Y hY => by
        have ok := Fl.ok e
        have b1 : k ≤ 8 := ok.no
        have b3 : nm + k ≤ 16 := ok.nm
        exact file5_any ⟨va, vc, ua, uc, mb, md⟩ (Fl.mk k EO k NR (nm + k) mf mt) Y (hq.below QR.k hY) (show k ≤ 100 by omega) (show k ≤ 100 by omega) (show nm + k ≤ 100 by omega) (fun j hj => by have h1 := ok.o hj; have h2 := Pers.ok_facts h1.2.1; omega) (fun j hj => by have h1 := ok.n hj; have h2 := Pers.ok_facts h1.2.1; omega)
      have HMO : Hid ((Fl.mk k EO k NR (nm + k) mf mt).fault = 0 → ∀ (z : FV) X, FlQ QP X z (Fl.mk k EO k NR (nm + k) mf mt) → Calls Tryz.prog 42 #[.agg #[.slice z.oa k z.oc, .slice z.na k z.nc, .slice z.ma (nm + k) z.mc]] X fun e w' => e = .returned (.tuple #[.int .i64 (k : Int), .int .i64 0]) ∧ Below X.heap.size X w') := fun e z X hq => by
        have h1 := mostF_ok z (Fl.mk k EO k NR (nm + k) mf mt) X hq e
        rw [(HLW.out e).2.2] at h1
        exact h1
      have HPM : Hid ((Fl.mk k EO k NR (nm + k) mf mt).fault = 0 → ∀ (z : FV) X a c, FlQ QP X z (Fl.mk k EO k NR (nm + k) mf mt) → IntsIn X (.slice a k c) k (lkT k) → Calls Tryz.prog 48 #[.agg #[.slice z.oa k z.oc, .slice z.na k z.nc, .slice z.ma (nm + k) z.mc], .slice a k c, .int .i64 (k : Int)] X fun e w' => e = .returned (.bool true) ∧ Below X.heap.size X w') := fun e z X a c hq hl => by
        have h1 := provM_ok z (Fl.mk k EO k NR (nm + k) mf mt) a k c (lkT k) (k : Int) X hq e hl (fun j _ => lkT_rng k j (by omega)) (by omega)
        rw [(HLW.out e).1, (HLW.out e).2.1] at h1
        simpa using h1
      obtain ⟨fx, hfx⟩ : ∃ fx, (Fl.mk k EO k NR (nm + k) mf mt).fault = fx := ⟨_, rfl⟩
      rw [hfx] at HFT HFX HMO HPM
      clear hq hiz HLW hfx
      generalize (Fl.mk k EO k NR (nm + k) mf mt) = xf at *
      have c0 := HA.out.bf.cell (.tail _ (.head _)) 0
      have x0 := HA.out.bf.cell (.head _) 0
      have x1 := HA.out.bf.cell (.head _) 1
      have x2 := HA.out.bf.cell (.head _) 2
      go_wp2_with fail
      refine (HFT.out _ (Below.refl _ _)).mono ?_
      rintro _ y1 ⟨rfl, hb⟩
      have HA' := Lib.hid (HA.out.below hb)
      clear HA
      have HA := HA'
      clear HA'
      have HBB : Hid (Below wx.heap.size wx y1) := hb
      clear hb HFT c0 x0 x1 x2
      by_cases hf0 : fx = 0
      ·
        subst hf0
        have HFX2 := Lib.hid (HFX.out rfl)
        have HMO2 := Lib.hid (HMO.out rfl)
        have HPM2 := Lib.hid (HPM.out rfl)
        clear HFX HMO HPM
        have x0 := HA.out.bf.cell (.head _) 0
        have x1 := HA.out.bf.cell (.head _) 1
        have x2 := HA.out.bf.cell (.head _) 2
        go_wp2_with fail
        refine (HFX2.out _ HBB.out).mono ?_
        rintro _ y2 ⟨z, rfl, hq, hb⟩
        have HA' := Lib.hid (HA.out.below hb)
        clear HA
        have HA := HA'
        clear HA'
        have HBB' := Lib.hid (HBB.out.trans (hb.mono HBB.out.size))
        clear HBB
        have HBB := HBB'
        clear HBB'
        have HQ := Lib.hid hq
        clear hq
        clear hb x0 x1 x2
        go_wp2_with fail
        refine (HMO2.out z _ HQ.out).mono ?_
        rintro _ y3 ⟨rfl, hb⟩
        have HA' := Lib.hid (HA.out.below hb)
        clear HA
        have HA := HA'
        clear HA'
        have HBB' := Lib.hid (HBB.out.trans (hb.mono HBB.out.size))
        clear HBB
        have HBB := HBB'
        clear HBB'
        clear HQ
        clear hb
        have x0 := HA.out.bf.cell (.head _) 0
        have x1 := HA.out.bf.cell (.head _) 1
        have x2 := HA.out.bf.cell (.head _) 2
        go_wp2_with fail
        refine (HFX2.out _ HBB.out).mono ?_
        rintro _ y4 ⟨z, rfl, hq, hb⟩
        have HA' := Lib.hid (HA.out.below hb)
        clear HA
        have HA := HA'
        clear HA'
        have HBB' := Lib.hid (HBB.out.trans (hb.mono HBB.out.size))
        clear HBB
        have HBB := HBB'
        clear HBB'
        have HQ := Lib.hid hq
        clear hq
        clear hb x0 x1 x2
        go_wp2_with fail
        refine (HIZ.out _ HBB.out).mono ?_
        rintro _ y5 ⟨b5, c5, rfl, hl, hb⟩
        have HA' := Lib.hid (HA.out.below hb)
        clear HA
        have HA := HA'
        clear HA'
        have HBB' := Lib.hid (HBB.out.trans (hb.mono HBB.out.size))
        clear HBB
        have HBB := HBB'
        clear HBB'
        have HQ' := Lib.hid (HQ.out.below QP.k hb)
        clear HQ
        have HQ := HQ'
        clear HQ'
        have HL := Lib.hid hl
        clear hl
        clear hb
        go_wp2_with fail
        refine (HPM2.out z _ _ _ HQ.out HL.out).mono ?_
        rintro _ y6 ⟨rfl, hb⟩
        have HA' := Lib.hid (HA.out.below hb)
        clear HA
        have HA := HA'
        clear HA'
        have HBB' := Lib.hid (HBB.out.trans (hb.mono HBB.out.size))
        clear HBB
        have HBB := HBB'
        clear HBB'
        clear HQ HL
        clear hb
        go_wp2_with fail
        refine (awake5_any _).mono ?_
        rintro _ y7 ⟨rfl, hb⟩
        have HA' := Lib.hid (HA.out.below hb)
        clear HA
        have HA := HA'
        clear HA'
        have HBB' := Lib.hid (HBB.out.trans (hb.mono HBB.out.size))
        clear HBB
        have HBB := HBB'
        clear HBB'
        clear hb
        go_wp2_with fail
        go_ret
        exact ⟨rfl, HA.out.bf.fr⟩
      ·
        have kf : (fx != 0) = true := by simp [hf0]
        go_wp2_with fail
        refine (awake5_any _).mono ?_
        rintro _ y2 ⟨rfl, hb⟩
        have HA' := Lib.hid (HA.out.below hb)
        clear HA
        have HA := HA'
        clear HA'
        clear hb
        go_wp2_with fail
        go_ret
        exact ⟨rfl, HA.out.bf.fr⟩
theorem linkTrue_walk (x : FV) (f : Fl) (wa : Option Addr) (wn wc : Nat) (wz : Nat → Int) (w : World) (h : FlLaw w x f) (hz : WordsIn w (.slice wa wn wc) wn wz) : Calls Tryz.prog 13 #[.agg #[.slice x.oa f.no x.oc, .slice x.na f.nw x.nc, .slice x.ma f.nm x.mc], .slice wa wn wc] w fun e w' => e = .returned (.bool true) ∧ Below w.heap.size w w' := by
  cases hr : f.rdy
  · exact linkTrue_thick x f wa wn wc w h.l hr
  · rcases Nat.eq_zero_or_pos wn with rfl | hw
    · exact linkTrue_none x f wa wc w h.l hr
    · rcases Nat.eq_zero_or_pos f.nw with h0 | h0
      · exact linkTrue_old x f wa wn wc wz w h.l hr h0 hz hw
      · exact linkTrue_new x f wa wn wc wz w h.l hr h0 hz hw
end Go.Proofs.YtgbdbikjckfgmaaGreat
namespace Go.Proofs.YtgbdbikjckfgmaaGreat
open Go.ChangeShapes Go.WideShapes Go.ChangeAt Go.RowKit
set_option maxRecDepth 100000 in
theorem linkTrue_lifted (os : Os) (started : os.Started) (H : Type) (enc : TypeId × Value → H) :
    ReturnsInHanded {} Tryz.checked os 13 .any (Rows.linkTrueSpec.pre6 enc Tryz.prog Tryz.f13 Rows.linkTrueRow.domain false) (Rows.linkTrueSpec.post enc Tryz.prog Tryz.f13 false true false false) := by
  refine returnsInHanded_of_change (C := Tryz.checked) Tryz.own started (by kernel_rfl) Tryz.func13
    (ChangeSpec.witness6 (enc := enc) (C := Tryz.checked) false ⟨#[], #[.agg #[.slice none 0 0, .slice none 0 0, .slice none 0 0], .slice none 0 0], []⟩ 8 (by kernel_rfl) (by kernel_rfl) (by kernel_rfl) (by kernel_rfl)) ?_
  intro W base args ds gs before hval0 hW hcnd _
  have hval : ∀ (j : Nat) t v, Tryz.f13.params[j]? = some t → args[j]? = some v → Value.okWide Tryz.prog W .any base t v := hval0
  have hW' := hW
  obtain ⟨p, q, hA0, hV, hpq, hfz, hnd⟩ := hW
  have hA : DataW.TrodAll enc Tryz.prog W 0 (fun _ => true) true Tryz.f13.params.toList args.toList ds p := hA0
  rw [Tryz.params13] at hA hval
  obtain ⟨v0, v1, d0, d1, p0, p1, rfl, rfl, rfl, h0, h1⟩ := trodAll_two hA
  obtain ⟨u0, f0, rfl, hm0⟩ := open_file (hval 0 25 v0 rfl rfl) h0
  obtain ⟨n1, z1, hz1, hn1⟩ := open_wordsIn (hval 1 82 v1 rfl rfl) h1
  obtain ⟨a1, c1, rfl⟩ := hz1.len
  refine (linkTrue_walk u0 f0 a1 n1 c1 z1 W hm0 hz1).mono fun e W' ⟨he, hb⟩ => ?_
  subst he
  exact ⟨_, rfl, law_post rfl rfl (by rw [Tryz.params13]; simp only [List.mem_cons, List.not_mem_nil, or_false]; rintro t (rfl | rfl) <;> exact ⟨by kernel_rfl, of_decide_eq_true (by kernel_rfl)⟩) (fun _ => rfl) hW' hb⟩
theorem linkTrue_holds : Rows.LinkTrueSaid :=
  OpenClaim.holds_of_wide 13 Tryz.f13 rfl rfl rfl rfl rfl rfl rfl ⟨rfl, rfl, rfl, rfl, rfl⟩ rfl rfl rfl rfl rfl (by kernel_rfl) Tryz.func13 (by kernel_rfl)
    (of_decide_eq_true (by kernel_rfl)) (by unfold Func.isWrapper; first | (rw [if_pos (by decide +kernel)]; kernel_rfl) | (rw [if_neg (by decide +kernel)]; exact ⟨rfl, rfl⟩))
    (fun os started H enc _ => linkTrue_lifted os started H enc)
end Go.Proofs.YtgbdbikjckfgmaaGreat
