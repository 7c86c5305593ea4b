/- Age: persons, births, Same; the reference (turned from the Age seat) (4 of 8). -/
import Derived.Test.YtgbdbikjckfgmaaGreatWG
import Derived.Test.YtgbdbikjckfgmaaGreatPA
import Derived.Test.YtgbdbikjckfgmaaGreatPB
import Derived.Test.YtgbdbikjckfgmaaGreatPC
import Derived.BigQuiet
import Derived.Carry
import Derived.Deep.AppendLies
import Derived.Deep.DeepCutAuto
import Derived.Deep.DrawnRows
import Derived.Deep.MidRow
import Derived.Deep.QuietTactic
import Derived.Deep.RegionHeld3
import Derived.Deep.RegionLaw
import Derived.Deep.RegionLawGrows
import Derived.Deep.RegionWith
import Derived.Deep.Slices
import Derived.Deep.Strs
import Derived.Laws.EntriesVeiled
import Derived.Laws.Rows
import Derived.Laws.Tables
import Derived.Lib.Hide
import Derived.Lib.SliceRun
import Derived.Lib.SmallJoins
import Derived.LoopIn
import Derived.LoopNIn
import Derived.LoopTactic
import Derived.Maps.AppendAt
import Derived.OpenShut
import Derived.OrdersHeld
import Derived.OrdersIn
import Derived.Outline
import Derived.OwnWalkIn
import Derived.ProofKit
import Derived.RangeFuncBound
import Derived.RangeFuncCalls
import Derived.RangeFuncLeaves
import Derived.RangeFuncNested
import Derived.Shelf.Abstract
import Derived.Shelf.RegionOpen
import Derived.TacticsInMore
import Derived.WalkKit
import Derived.WalkLawsBesides
import Derived.WalkSpells
namespace Go.Proofs.YtgbdbikjckfgmaaGreat
open Go.RowKit Go.Shelf
attribute [local go_sem] Oper.semAt_some
attribute [local go_sem ↓] Go.wp_at_zero Go.wp_at_succ
set_option maxRecDepth 100000 in
set_option maxHeartbeats 4000000 in
theorem file_some (p : Pers) (rv : Value) (a : Option Addr) (cap : Nat) (w : World) (hR : RlsAt w rv p.nr p.R) (hC : RcsAt w (.slice a p.nc cap) p.nc p.C) (hok : p.fault = 0) :
    Calls Tryz.prog 158 #[.agg #[.int .i64 p.lo, .int .i64 p.hi, rv, .slice a p.nc cap]] w (GivesFile w p) := by
  obtain ⟨n4, n8, n0, _, _, _, _, _, okR, okC⟩ := Pers.ok_facts hok
  have HR := Lib.hid hR; have HC := Lib.hid hC; have OKR := Lib.hid okR; have OKC := Lib.hid okC
  clear hR hC okR okC hok
  have h0 : FI w p rv (.slice a p.nc cap) 0 [] ((w.alloc (.cells #[.int .i64 p.lo, .int .i64 p.hi, rv, .slice a p.nc cap] 98)).alloc (.cells #[.int .i64 p.lo, .int .i64 p.hi, rv, .slice a p.nc cap, .slice none 0 0] 221)) := by
    refine ⟨((Below.refl _ _).alloc (Nat.le_refl _) _).alloc (by simp) _, ?_, trivial, .slice none 0 0, fun _ => .slice none 0 0, ?_, World.ownsRow_nil _ _ _ _, fun j hj => absurd hj (Nat.not_lt_zero _)⟩
    · exact (Below.heap_alloc _ _ _ (by simp)).trans (heap_alloc_new w _)
    · have := heap_alloc_new (w.alloc (.cells #[.int .i64 p.lo, .int .i64 p.hi, rv, .slice a p.nc cap] 98)) (.cells #[.int .i64 p.lo, .int .i64 p.hi, rv, .slice a p.nc cap, .slice none 0 0] 221)
      rw [World.size_alloc] at this; exact this
  have H0 := Lib.hid h0; clear h0
  refine callsIn_wide.1 (callsIn_of_wp_marks (n := 0) Tryz.func158 rfl trivial ?_ rfl)
  simp only [Tryz.ntmps158, List.size_toArray, List.length_cons, List.length_nil, Nat.reduceAdd, Nat.reduceSub, Array.replicate_succ, Array.replicate_zero, List.push_toArray, List.append_toArray, List.nil_append, List.cons_append]
  refine wpIn_wide.2 ?_
  go_wp2
  refine wp_loop (fun a' W' => ∃ (k : Nat) (u5 u6 u15 u16 u17 u18 u19 u20 u37 u38 u39 u40 u41 u42 u43 u44 u45 u46 u47 : Value) (ds : List Deferred), (k ≤ p.nc ∧ FI w p rv (.slice a p.nc cap) k ds W') ∧ a' = { tmps := #[.agg #[.int .i64 p.lo, .int .i64 p.hi, rv, .slice a p.nc cap], .pointer (some ⟨w.heap.size, 0, none⟩), .pointer none, .pointer (some ⟨w.heap.size + 1, 0, none⟩), undef, u5, u6, undef, .agg #[.int .i64 p.lo, .int .i64 p.hi, rv, .slice a p.nc cap], .agg #[.int .i64 p.lo, .int .i64 p.hi, rv, .slice a p.nc cap, .slice none 0 0], .pointer (some ⟨w.heap.size + 1, 0, none⟩), .pointer (some ⟨w.heap.size, 3, none⟩), .slice a p.nc cap, .int .i64 p.nc, .int .i64 k, u15, u16, u17, u18, u19, u20, undef, undef, undef, undef, undef, undef, undef, undef, undef, undef, undef, undef, undef, undef, undef, undef, u37, u38, u39, u40, u41, u42, u43, u44, u45, u46, u47, undef], defers := ds }) (fun a' _ => p.nc - (intOf (a'.tmps.getD 14 undef)).toNat) ?start ?round
  case start => exact ⟨0, _, _, _, _, _, _, _, _, _, _, _, _, _, _, _, _, _, _, _, [], ⟨Nat.zero_le _, H0.out⟩, rfl⟩
  case round =>
    clear H0
    rintro _ W ⟨k, u5, u6, u15, u16, u17, u18, u19, u20, u37, u38, u39, u40, u41, u42, u43, u44, u45, u46, u47, ds, ⟨hk, hfi⟩, rfl⟩
    dsimp only
    by_cases hlt : k < p.nc
    · obtain ⟨rd1, rd2, rr1, rr2, rn1, rn2⟩ := Rc.ok_facts (OKC.out k hlt)
      obtain ⟨q, hq⟩ : ∃ q : Nat, (p.C k).rule = (q : Int) := ⟨(p.C k).rule.toNat, by omega⟩
      have hqn : q < p.nr := by omega
      obtain ⟨b, off, rfl, hb, c0, c1, c2⟩ : ∃ b off, a = some ⟨b, off, none⟩ ∧ b < w.heap.size ∧ w.cell? ⟨b, off + k * 3, none⟩ = some (.int .i64 (p.C k).day) ∧ w.cell? ⟨b, off + k * 3 + 1, none⟩ = some (.int .i64 (p.C k).rule) ∧ w.cell? ⟨b, off + k * 3 + 2, none⟩ = some (.int .i64 (p.C k).num) := by
        rcases HC.out with ⟨_, h⟩ | ⟨b, off, cap', e, hb, hz⟩
        · omega
        · cases e; exact ⟨b, off, rfl, hb, hz k hlt⟩
      obtain ⟨rb, ro, rc, rfl, hrb, r0, r1, r2, r3⟩ : ∃ rb ro rc, rv = .slice (some ⟨rb, ro, none⟩) p.nr rc ∧ rb < w.heap.size ∧ w.cell? ⟨rb, ro + q * 4, none⟩ = some (.int .i64 (p.R q).f) ∧ w.cell? ⟨rb, ro + q * 4 + 1, none⟩ = some (.int .i64 (p.R q).b) ∧ w.cell? ⟨rb, ro + q * 4 + 2, none⟩ = some (.int .i64 (p.R q).m) ∧ w.cell? ⟨rb, ro + q * 4 + 3, none⟩ = some (.int .i64 (p.R q).e) := by
        rcases HR.out with ⟨_, h⟩ | ⟨b, off, cap', e, hb, hz⟩
        · omega
        · cases e; exact ⟨b, off, cap', rfl, hb, hz q hqn⟩
      have okq := OKR.out q hqn
      have hrl : p.rl k = p.R q := by unfold Pers.rl; rw [hq]; rfl
      rw [hq] at c1
      have hall : p.allow k = foldR (p.C k).day (yearsL (ageRs (p.R q).f (p.R q).b (p.R q).m (p.R q).e (p.C k).num)) := by unfold Pers.allow; rw [hrl]
      have HALL := Lib.hid hall; clear hall hrl hq
      generalize (p.C k).day = day at *
      generalize (p.C k).num = num at *
      generalize p.R q = rl at *
      have hF := hfi
      obtain ⟨f1, f2, f3, av, svs, f4, f5, f6⟩ := hF
      have d0 : W.cell? ⟨b, off + k * 3, none⟩ = some (.int .i64 day) := (f1.cell (p := ⟨b, _, none⟩) hb).trans c0
      have d1 : W.cell? ⟨b, off + k * 3 + 1, none⟩ = some (.int .i64 (q : Int)) := (f1.cell (p := ⟨b, _, none⟩) hb).trans c1
      have d2 : W.cell? ⟨b, off + k * 3 + 2, none⟩ = some (.int .i64 num) := (f1.cell (p := ⟨b, _, none⟩) hb).trans c2
      have e0 : W.cell? ⟨rb, ro + q * 4, none⟩ = some (.int .i64 rl.f) := (f1.cell (p := ⟨rb, _, none⟩) hrb).trans r0
      have e1 : W.cell? ⟨rb, ro + q * 4 + 1, none⟩ = some (.int .i64 rl.b) := (f1.cell (p := ⟨rb, _, none⟩) hrb).trans r1
      have e2 : W.cell? ⟨rb, ro + q * 4 + 2, none⟩ = some (.int .i64 rl.m) := (f1.cell (p := ⟨rb, _, none⟩) hrb).trans r2
      have e3 : W.cell? ⟨rb, ro + q * 4 + 3, none⟩ = some (.int .i64 rl.e) := (f1.cell (p := ⟨rb, _, none⟩) hrb).trans r3
      have g0 : W.cell? ⟨w.heap.size, 0, none⟩ = some (.int .i64 p.lo) := cell_of_row _ _ 0 _ _ _ f2
      have g1 : W.cell? ⟨w.heap.size, 1, none⟩ = some (.int .i64 p.hi) := cell_of_row _ _ 1 _ _ _ f2
      have g2 : W.cell? ⟨w.heap.size, 2, none⟩ = some (.slice (some ⟨rb, ro, none⟩) p.nr rc) := cell_of_row _ _ 2 _ _ _ f2
      have g3 : W.cell? ⟨w.heap.size, 3, none⟩ = some (.slice (some ⟨b, off, none⟩) p.nc cap) := cell_of_row _ _ 3 _ _ _ f2
      have E0 := Lib.hid e0; have E1 := Lib.hid e1; have E2 := Lib.hid e2; have E3 := Lib.hid e3
      have hs : w.heap.size + 1 < W.heap.size := (Array.getElem?_eq_some_iff.1 f4).1
      have hs0 : w.heap.size < W.heap.size := by omega
      have hs1 : w.heap.size < W.heap.size + 1 := by omega
      have F1 := Lib.hid f1; have F2 := Lib.hid f2; have F3 := Lib.hid f3; have F4 := Lib.hid f4; have F5 := Lib.hid f5; have F6 := Lib.hid f6
      clear c0 c1 c2 r0 r1 r2 r3 f1 f2 f3 f4 f5 f6 e0 e1 e2 e3 hfi
      go_wp2_with (go_at_call 161; refine (years_any _ _ _ _ _ _ _ _).mono ?_; rintro e w' ⟨rfl, rfl⟩)
      obtain ⟨hz, hbl, b1, b2, b3, b4⟩ := alloc4 W (.cells #[.int .i64 day, .int .i64 (q : Int), .int .i64 num] 159) (.cells #[.slice none 0 0] 210) (.cells #[.int .i64 p.lo, .int .i64 p.hi, .slice (some ⟨rb, ro, none⟩) p.nr rc, .slice (some ⟨b, off, none⟩) p.nc cap] 98) (.cells #[.int .i64 day, .int .i64 (q : Int), .int .i64 num] 159)
      generalize ((((W.alloc (.cells #[.int .i64 day, .int .i64 (q : Int), .int .i64 num] 159)).alloc (.cells #[.slice none 0 0] 210)).alloc (.cells #[.int .i64 p.lo, .int .i64 p.hi, .slice (some ⟨rb, ro, none⟩) p.nr rc, .slice (some ⟨b, off, none⟩) p.nc cap] 98)).alloc (.cells #[.int .i64 day, .int .i64 (q : Int), .int .i64 num] 159)) = Wb at *
      have hob : ownB Wb (W.heap.size + 1) = none := ownB_of b2
      have hrbW : rb < W.heap.size := by omega
      have hyears := years_all (W.heap.size + 1) (W.heap.size + 1 + 1) (W.heap.size + 1 + 1 + 1) rb ro p.nr rc q num rl.f rl.b rl.m rl.e Wb (by omega) (fun x hx => by rw [hob] at hx; cases hx)
        (cell_of_row _ _ 2 _ _ _ b3) (cell_of_row _ _ 1 _ _ _ b4) (cell_of_row _ _ 2 _ _ _ b4) (by omega) (by omega) (by omega) hqn
        ((hbl.cell (p := ⟨rb, _, none⟩) hrbW).trans E0.out) ((hbl.cell (p := ⟨rb, _, none⟩) hrbW).trans E1.out) ((hbl.cell (p := ⟨rb, _, none⟩) hrbW).trans E2.out) ((hbl.cell (p := ⟨rb, _, none⟩) hrbW).trans E3.out) okq
      refine wpIn_wide.1 (wide_range (n := 0) (gf := 164) (lb := #[.pointer (some ⟨W.heap.size + 1 + 1, 0, none⟩), .pointer (some ⟨W.heap.size + 1 + 1 + 1, 0, none⟩)]) rfl (enters_of Tryz.func164 (by kernel_rfl) rfl)
        hyears (fun _ => rfl) Kp.trans (Kp.b (by omega)) (YI (W.heap.size + 1) day Wb) (YI.own _ _ _) ⟨_, b2, World.ownsRow_nil _ _ _ _, Fr.refl _ _⟩
        (fun pre x a' W' => YI (W.heap.size + 1) day Wb pre W' ∧ ∃ Bx, W'.heap[Bx]? = some (.cells #[.int .i64 x.1.1, .int .i64 x.1.2] 94 (0, 0)) ∧ a' = { tmps := #[.agg #[.int .i64 p.lo, .int .i64 p.hi, .slice (some ⟨rb, ro, none⟩) p.nr rc, .slice (some ⟨b, off, none⟩) p.nc cap], .pointer (some ⟨w.heap.size, 0, none⟩), .pointer none, .pointer (some ⟨w.heap.size + 1, 0, none⟩), undef, .pointer (some ⟨W.heap.size, 0, none⟩), .pointer (some ⟨W.heap.size + 1, 0, none⟩), .pointer (some ⟨Bx, 0, none⟩), .agg #[.int .i64 p.lo, .int .i64 p.hi, .slice (some ⟨rb, ro, none⟩) p.nr rc, .slice (some ⟨b, off, none⟩) p.nc cap], .agg #[.int .i64 p.lo, .int .i64 p.hi, .slice (some ⟨rb, ro, none⟩) p.nr rc, .slice (some ⟨b, off, none⟩) p.nc cap, .slice none 0 0], .pointer (some ⟨w.heap.size + 1, 0, none⟩), .pointer (some ⟨w.heap.size, 3, none⟩), .slice (some ⟨b, off, none⟩) p.nc cap, .int .i64 p.nc, .int .i64 k, .bool true, .pointer (some ⟨b, off + k * 3, none⟩), .agg #[.int .i64 day, .int .i64 (q : Int), .int .i64 num], .agg #[.int .i64 p.lo, .int .i64 p.hi, .slice (some ⟨rb, ro, none⟩) p.nr rc, .slice (some ⟨b, off, none⟩) p.nc cap], .agg #[.int .i64 day, .int .i64 (q : Int), .int .i64 num], .func (.func 164) #[] #[.pointer (some ⟨W.heap.size + 1 + 1, 0, none⟩), .pointer (some ⟨W.heap.size + 1 + 1 + 1, 0, none⟩)], .agg #[.int .i64 x.1.1, .int .i64 x.1.2], undef, undef, undef, undef, undef, undef, undef, undef, undef, undef, undef, undef, undef, undef, undef, u37, u38, u39, u40, u41, u42, u43, u44, u45, u46, u47, undef], defers := [] })
        ?hA ?assign ?body ?done)
      case hA =>
        rintro pre x a' s X Y row ⟨hs, Bx, hbx, rfl⟩ hg hr
        refine ⟨YI.own _ _ _ _ X Y row hs hg hr, Bx, ?_, rfl⟩
        rw [hg.block _ (Array.getElem?_eq_some_iff.1 hbx).1 (fun e => by obtain ⟨_, o, ho, hc⟩ := hr _ e.symm; rw [hbx] at ho; cases ho; cases hc)]
        exact hbx
      case assign =>
        rintro l1 pre x W1 hy hlen
        have HY := Lib.hid hy
        have hW1 : W.heap.size + 1 < W1.heap.size := by obtain ⟨_, h, _⟩ := hy; exact (Array.getElem?_eq_some_iff.1 h).1
        clear hy
        simp only [encY]
        gi_wp2
        exact ⟨Kp.alloc hW1 _, KeepsOthers.alloc _ _, OwnFrom.alloc (YI.own _ _ _) _ HY.out, W1.heap.size, heap_alloc_new _ _, rfl⟩
      case body =>
        rintro l1 pre x a' W1 hl ⟨r, hr⟩ ⟨⟨lv, y1, y2, y3⟩, Bx, hbx, rfl⟩ hlen
        obtain ⟨la, lc, rfl⟩ := y2.slice
        have x0 : W1.cell? ⟨Bx, 0, none⟩ = some (.int .i64 x.1.1) := cell_of_row _ _ 0 _ _ _ hbx
        have x1 : W1.cell? ⟨Bx, 1, none⟩ = some (.int .i64 x.1.2) := cell_of_row _ _ 1 _ _ _ hbx
        have z0 : W1.cell? ⟨W.heap.size + 1, 0, none⟩ = some (.slice la (foldR day pre).length lc) := cell_of_row _ _ 0 _ _ _ y1
        have z1 : W1.cell? ⟨W.heap.size, 0, none⟩ = some (.int .i64 day) := cell_of_row _ _ 0 _ _ _ ((y3.block _ (by omega) (by omega)).trans b1)
        have hfold := foldR_facts day rd1 rd2 pre.length pre rfl
        have hW1 := (Array.getElem?_eq_some_iff.1 y1).1
        have hWs := y3.size
        have hx := x.2
        have HX := Lib.hid (fun lo hi => extended_grow Wb.heap.size (.slice la (foldR day pre).length lc) (foldR day pre) lo hi W1 y2 (by omega) hWs (fun r hr => by have := hfold.2 r hr; omega))
        obtain ⟨hx1, hx2, hx3, hx4⟩ := hx
        have hst : ∀ (W2 : World) (v' : Value), RS W2 Wb.heap.size v' (ext (foldR day pre) (day - 365 * x.1.2 - 364) (day - 365 * x.1.1)) → W1.grownBy W2 (Value.slice la (foldR day pre).length lc).ownBlock → (v'.ownBlock = (Value.slice la (foldR day pre).length lc).ownBlock ∨ ∀ k, v'.ownBlock = some k → W1.heap.size ≤ k) → _ := fun W2 v' g1 g2 g3 => YI.step (by omega) y1 y2 y3 g1 g2 g3
        have HST := Lib.hid hst
        have hfz : ∀ W2 : World, W1.grownBy W2 (Value.slice la (foldR day pre).length lc).ownBlock → W2.heap[W.heap.size + 1]? = some (.cells #[.slice la (foldR day pre).length lc] 210 (0, 0)) := fun W2 hg => (hg.block _ hW1 (fun e => by have := (y2.own _ e.symm).1; omega)).trans y1
        have HFZ := Lib.hid hfz
        clear hfz hst y1 y2 y3 hfold hbx
        gi_wp2_with fail
        refine ⟨trivial, rfl, ?_⟩
        refine CallsIn.mono (CallsIn.inRound l1 (callsIn_wide.2 (HX.out _ _))) ?_
        rintro e W2 ⟨v', rfl, g1, g2, g3⟩
        have hgW := g2.size
        have hk2 := HFZ.out W2 g2
        have hc2 : W2.cell? ⟨W.heap.size + 1, 0, none⟩ = some (.slice la (foldR day pre).length lc) := cell_of_row _ _ 0 _ _ _ hk2
        have hfr2 : W2.frozen? ⟨W.heap.size + 1, 0, none⟩ = false := frozen_of_row _ _ 0 _ _ hk2
        have HGS := Lib.hid (HST.out W2 v' g1 g2 g3)
        obtain ⟨la', lc', rfl⟩ := g1.slice
        clear g1 g2 g3 hk2
        gi_wp2
        exact HGS.out
      case done =>
        rintro D xs W5 hD rfl ⟨lv, y1, y2, y3⟩ hK
        obtain ⟨la, lc, hlv⟩ := y2.slice
        generalize hn : (foldR day (yearsL (ageRs rl.f rl.b rl.m rl.e num))).length = nl at hlv
        subst hlv
        obtain ⟨aa, ac, rfl⟩ : ∃ aa ac, av = .slice aa k ac := by
          rcases F5.out.2 with ⟨rfl, rfl⟩ | ⟨g, cap, cur, rfl, _⟩
          · exact ⟨_, _, rfl⟩
          · exact ⟨_, _, rfl⟩
        obtain ⟨i0, hi0, hz0, hz1, hz2⟩ := info_parts Tryz.infoRanges
        have hB5 : Below W.heap.size W W5 := hbl.trans (y3.low (by omega) (fun q hq e => by omega))
        have hWs := y3.size
        have z4b : W5.heap[w.heap.size + 1]? = some (.cells #[.int .i64 p.lo, .int .i64 p.hi, .slice (some ⟨rb, ro, none⟩) p.nr rc, .slice (some ⟨b, off, none⟩) p.nc cap, .slice aa k ac] 221 (0, 0)) := (hB5.block _ hs).trans F4.out
        have z4 : W5.cell? ⟨w.heap.size + 1, 4, none⟩ = some (.slice aa k ac) := cell_of_row _ _ 4 _ _ _ z4b
        have z4f : W5.frozen? ⟨w.heap.size + 1, 4, none⟩ = false := frozen_of_row _ _ 4 _ _ z4b
        have z0 : W5.cell? ⟨W.heap.size + 1, 0, none⟩ = some (.slice la nl lc) := cell_of_row _ _ 0 _ _ _ y1
        have hav : ∀ q, (Value.slice aa k ac).ownBlock = some q → w.heap.size + 2 ≤ q ∧ q < W.heap.size := fun q hq => by
          rcases F5.out.2 with ⟨e, _⟩ | ⟨g, cap, cur, e, hg, hc, _⟩
          · rw [e] at hq; cases hq
          · rw [e] at hq; cases hq; exact ⟨hg, (Array.getElem?_eq_some_iff.1 hc).1⟩
        have hown : W5.ownsRow (w.heap.size + 2) 210 1 (.slice aa k ac) k ((List.range k).map svs) := own_fr F5.out (Fr.below hB5 (fun _ => False)) (fun _ _ _ _ _ h => h)
        have HOWN := Lib.hid hown
        have HB5 := Lib.hid hB5
        have HAV := Lib.hid hav
        have HZ4 := Lib.hid z4b
        have HY2 := Lib.hid y2
        have HK := Lib.hid hK
        have HY1 := Lib.hid y1
        have hW5 : W.heap.size + 4 ≤ W5.heap.size := by omega
        have hw5a : w.heap.size + 1 < W5.heap.size := by omega
        have hw5b : W.heap.size + 1 < W5.heap.size := by omega
        clear hown hB5 hav z4b y1 y2 y3 hK hn hyears
        go_wp2
        refine wp_calm ?_
        go_region_law
          ((refine step_append_lies _ (by rfl) _ _ _ (by rfl) (w.heap.size + 2) 210 i0 (.slice none 0 0) 1 24 Tryz.underlying219 hi0 hz0 hz1 hz2 rfl (by omega) (.slice aa k ac) k ((List.range k).map svs) (by rfl) (World.ownsRow.drew (World.ownsRow.alloc HOWN.out _))
             ⟨W5.heap.size, 0, none⟩ 1 1 [.slice la nl lc] (by rfl) (by rfl) (World.news_of_block (cs := #[.slice la nl lc]) (t := 210) (fr := (0, 0)) (heap_alloc_new W5 _)) (by simp [Value.oneCell']) (by omega) (by unfold maxLen; omega) (by omega) (by simp; omega) (W5.heap.size + 1) (by simp) ?_; intro gg cap' w1 hown1 hgrow hat hlt1; have hblk := grown_block hgrow (below_alloc W5 _).drew hw5a (fun q e => by have := HAV.out q e; omega) HZ4.out; have hz4f : w1.frozen? ⟨w.heap.size + 1, 4, none⟩ = false := frozen_of_row _ _ 4 _ _ hblk; have hz4c : w1.cell? ⟨w.heap.size + 1, 4, none⟩ = some (.slice aa k ac) := cell_of_row _ _ 4 _ _ _ hblk))
        all_goals
          have HFI := Lib.hid (FI.appended F1.out F2.out F3.out F4.out F5.out F6.out HB5.out (below_alloc W5 _).drew hgrow HAV.out hblk hown1 (by rw [HALL.out]; exact HY2.out) (by omega) hD HK.out)
          clear hgrow hown1 hblk hz4f hz4c hat hlt1
          go_wp2
          refine ⟨⟨k + 1, _, _, _, _, _, _, _, _, _, _, _, _, _, _, _, _, _, _, _, _, ⟨hlt, HFI.out⟩, rfl⟩, ?_⟩
          simp [intOf]; omega
    · obtain rfl : k = p.nc := by omega
      obtain ⟨h1, h2, h3, av, svs, h4, h5, h6⟩ := hfi
      have HF : Hid (FileAt W (w.heap.size + 1) p ∧ Below w.heap.size w W) := ⟨⟨_, _, _, _, h4, ⟨_, _, rfl⟩, own_mono h5 (Nat.zero_le _), fun j hj => (h6 j hj).mono (Nat.zero_le _)⟩, h1⟩
      have H3 := Lib.hid h3
      clear h1 h2 h3 h4 h5 h6
      go_wp2
      refine leaves_marks (B := w.heap.size + 2) (fun W' => FileAt W' (w.heap.size + 1) p ∧ Below w.heap.size w W') ?_ ?_ ds _ W H3.out HF.out
      · rintro W' l o' ⟨i1, i2⟩ hl hd
        exact ⟨i1.put hd rfl, i2.trans ((Fr.put W' l o').low i2.size (fun q hq e => by omega))⟩
      · rintro W' ⟨i1, i2⟩
        exact ⟨.pointer (some ⟨w.heap.size + 1, 0, none⟩), by simp [results, Tryz.results158, go_sem], _, rfl, i1, i2⟩
end Go.Proofs.YtgbdbikjckfgmaaGreat
namespace Go.Proofs.YtgbdbikjckfgmaaGreat
open Go.RowKit
theorem file_any (v : Value) (p : Pers) (w : World) (h : PersAt w v p) (hok : p.fault = 0) : Calls Tryz.prog 158 #[v] w (GivesFile w p) := by
  obtain ⟨rv, cv, rfl, h1, h2⟩ := h
  obtain ⟨a, cap, rfl⟩ := h2.slice
  exact file_some p rv a cap w h1 h2 hok
/-- The days that the first k records allow, but for those that are left out. -/
def daysL (p : Pers) (out : Int → Bool) : Nat → RL
  | 0 => [(p.lo, p.hi)]
  | k + 1 => if out k then daysL p out k else meetL (daysL p out k) (p.allow k)
theorem yearsL_length (l : RL) : (yearsL l).length = l.length := by simp [yearsL, down]
theorem allow_length (p : Pers) (j : Nat) (h : (p.C j).ok p.nr = true) : (p.allow j).length ≤ 121 ∧ ∀ r ∈ p.allow j, -900000000 ≤ r.1 ∧ r.1 ≤ 900000000 ∧ -900000000 ≤ r.2 ∧ r.2 ≤ 900000000 := by
  obtain ⟨h1, h2, _⟩ := Rc.ok_facts h
  have := foldR_facts (p.C j).day h1 h2 _ (yearsL (ageRs (p.rl j).f (p.rl j).b (p.rl j).m (p.rl j).e (p.C j).num)) rfl
  have hl := rngs_length (agesF (p.rl j).f (p.rl j).b (p.rl j).m (p.rl j).e (p.C j).num 126) 121
  rw [yearsL_length] at this
  unfold ageRs at this
  refine ⟨Nat.le_trans this.1 hl, this.2⟩
theorem daysL_facts (p : Pers) (out : Int → Bool) (hok : p.fault = 0) (k : Nat) (hk : k ≤ p.nc) : (daysL p out k).length ≤ 1 + 121 * k ∧ ∀ r ∈ daysL p out k, -900000000 ≤ r.1 ∧ r.1 ≤ 900000000 ∧ -900000000 ≤ r.2 ∧ r.2 ≤ 900000000 := by
  obtain ⟨n4, n8, n0, l1, l2, l3, l4, l5, okR, okC⟩ := Pers.ok_facts hok
  induction k with
  | zero => simp [daysL]; omega
  | succ k ih =>
    obtain ⟨i1, i2⟩ := ih (by omega)
    obtain ⟨a1, a2⟩ := allow_length p k (okC k (by omega))
    rw [daysL]
    split
    · exact ⟨by omega, i2⟩
    · refine ⟨by have := meetL_length _ (daysL p out k) (p.allow k) (Nat.le_refl _); omega, meetL_bd _ 900000000 _ _ (Nat.le_refl _) i2 a2⟩
theorem RS.one (W : World) (base : Nat) (hb : base ≤ W.heap.size) (x y : Int) : RS (W.alloc (.cells #[.int .i64 x, .int .i64 y] 94)) base (.slice (some ⟨W.heap.size, 0, none⟩) 1 1) [(x, y)] := by
  refine ⟨rfl, .inr ⟨W.heap.size, 1, _, rfl, hb, heap_alloc_new _ _, Nat.le_refl _, by unfold maxLen; omega, rfl, rfl⟩⟩
set_option maxRecDepth 100000 in
set_option maxHeartbeats 2000000 in
theorem days_any (F : Nat) (p : Pers) (ov : Value) (n : Nat) (z : Nat → Int) (w : World) (hok : p.fault = 0) (hF : FileAt w F p) (hI : IntsAt w ov n z) (hn : n ≤ 100000) :
    Calls Tryz.prog 159 #[.pointer (some ⟨F, 0, none⟩), ov] w (Gives w w.heap.size (daysL p (inL z n) p.nc)) := by
  obtain ⟨n4, n8, n0, l1, l2, l3, l4, l5, okR, okC⟩ := Pers.ok_facts hok
  have HOK := Lib.hid hok; have OKC := Lib.hid okC; clear okR okC hok n4 n0 l1 l2 l3 l4 l5
  obtain ⟨rv, cv, av, svs, f1, f2, f3, f4⟩ := hF
  obtain ⟨aa, ac, rfl⟩ : ∃ aa ac, av = .slice aa p.nc ac := by
    rcases f3.2 with ⟨rfl, h⟩ | ⟨g, cap, cur, rfl, _⟩
    · exact ⟨_, _, by rw [h]⟩
    · exact ⟨_, _, rfl⟩
  have c0 : w.cell? ⟨F, 0, none⟩ = some (.int .i64 p.lo) := cell_of_row _ _ 0 _ _ _ f1
  have c1 : w.cell? ⟨F, 1, none⟩ = some (.int .i64 p.hi) := cell_of_row _ _ 1 _ _ _ f1
  have c4 : w.cell? ⟨F, 4, none⟩ = some (.slice aa p.nc ac) := cell_of_row _ _ 4 _ _ _ f1
  have hFs := (Array.getElem?_eq_some_iff.1 f1).1
  have F3 := Lib.hid f3; have F4 := Lib.hid f4; have HI := Lib.hid hI; clear f1 f2 f3 f4 hI
  go_enter Tryz.func159, Tryz.ntmps159
  go_wp2
  go_loopw [5, 19] (fun v i wr => ∃ k : Nat, k ≤ p.nc ∧ i = .int .i64 k ∧ RS wr w.heap.size v (daysL p (inL z n) k) ∧ Below w.heap.size w wr) (fun _ i _ => p.nc - (intOf i).toNat)
  case atStart => exact ⟨0, Nat.zero_le _, rfl, RS.one _ _ (Nat.le_refl _) _ _, below_alloc _ _⟩
  case round =>
    obtain ⟨k, hk, rfl, hrs, hbl⟩ := hrel
    have hd := (daysL_facts p (inL z n) HOK.out k hk).1
    have HR := Lib.hid hrs; have HB := Lib.hid hbl; clear hrs hbl
    by_cases hlt : k < p.nc
    · obtain ⟨g, rfl, hgs⟩ : ∃ g, aa = some ⟨g, 0, none⟩ ∧ g < w.heap.size := by
        obtain ⟨g, cap, e, _, hg⟩ := F3.out.form (by omega)
        cases e; exact ⟨g, rfl, hg⟩
      have ca : w.cell? ⟨g, k, none⟩ = some (svs k) := by
        have := F3.out.cellAt k (by simp; omega)
        rw [this]; simp [hlt]
      have cw : wr.cell? ⟨g, k, none⟩ = some (svs k) := (HB.out.cell (p := ⟨g, _, none⟩) hgs).trans ca
      have hrs := F4.out k hlt
      have hal := (allow_length p k (OKC.out k hlt)).1
      obtain ⟨sa, sc, hsv⟩ := hrs.slice
      rw [hsv] at cw hrs
      have hrg : RgAt wr (.slice sa (p.allow k).length sc) (p.allow k) := hrs.rg.kept HB.out
      have HRG := Lib.hid hrg; clear hsv hrs hrg ca
      have hIr := HI.out.below HB.out
      have HIR := Lib.hid hIr; clear hIr
      have hL := HR.out.rg
      have HL := Lib.hid hL; clear hL
      have hbs := HB.out.size
      by_cases hin : inL z n k = true
      · go_wp2_with (go_at_call 76; refine (contains_any n _ z _ _ hn HIR.out).mono ?_; rintro e w1 ⟨rfl, rfl⟩)
        go_roundw
        case rel => exact ⟨k + 1, by omega, by go_num, by rw [daysL, if_pos hin]; exact HR.out, HB.out⟩
        case measure => simp [intOf]; omega
      · have hin' : inL z n k = false := by simpa using hin
        clear hin
        go_wp2_with (first | (go_at_call 76; refine (contains_any n _ z _ _ hn HIR.out).mono ?_; rintro e w1 ⟨rfl, rfl⟩) | (go_at_call 157; refine (meet_any _ _ _ _ _ HL.out HRG.out (by omega) (by omega)).mono ?_; rintro e w1 ⟨v1, rfl, hr1, hb1⟩))
        go_roundw
        case rel => exact ⟨k + 1, by omega, by go_num, by rw [daysL, if_neg (by rw [hin']; decide)]; exact hr1.mono hbs, HB.out.trans (hb1.mono hbs)⟩
        case measure => simp [intOf]; omega
    · obtain rfl : k = p.nc := by omega
      go_wp2
      go_ret
      exact ⟨_, rfl, HR.out, HB.out⟩
/-- All days of birth that the records of a person allow. -/
def Pers.days (p : Pers) : RL := daysL p (fun _ => false) p.nc
def Pers.born (p : Pers) : RL := if p.fault = 0 then p.days else []
theorem PersAt.agg {w : World} {v : Value} {p : Pers} (h : PersAt w v p) : ∃ rv cv, v = .agg #[.int .i64 p.lo, .int .i64 p.hi, rv, cv] := by
  obtain ⟨rv, cv, rfl, _⟩ := h; exact ⟨_, _, rfl⟩
set_option maxRecDepth 100000 in
set_option maxHeartbeats 2000000 in
theorem births_any (v : Value) (p : Pers) (w : World) (h : PersAt w v p) (hn : p.nr ≤ 100000) (hc : p.nc ≤ 100000) :
    Calls Tryz.prog 156 #[v] w (GivesE w w.heap.size p.born p.fault) := by
  obtain ⟨rv, cv, rfl⟩ := h.agg
  have HP := Lib.hid h; clear h
  by_cases hf : p.fault = 0
  · have hbq : p.born = daysL p (inL (fun _ => 0) 0) p.nc := by unfold Pers.born; rw [if_pos hf]; rfl
    have HBQ := Lib.hid hbq; clear hbq
    have hq : (p.fault != 0) = false := by simp [hf]
    have HF := Lib.hid hf; clear hf
    go_enter Tryz.func156, Tryz.ntmps156
    go_wp2_with (first
      | (go_at_call 59; refine (check_any _ p _ (HP.out.below (below_alloc _ _)) hn hc).mono ?_; rintro e w1 ⟨rfl, hb1⟩; obtain ⟨hc1, hf1⟩ := bcell hb1; have hs1 : w.heap.size + 1 ≤ w1.heap.size := by (have := hb1.size; simp at this; omega))
      | (go_at_call 158; refine (file_any _ p _ ((HP.out.below (below_alloc _ _)).below hb1) HF.out).mono ?_; rintro e w2 ⟨F, rfl, hF, hb2⟩)
      | (go_at_call 159; refine (days_any F p _ 0 (fun _ => 0) _ HF.out hF (.inl ⟨rfl, rfl⟩) (by omega)).mono ?_; rintro e w3 ⟨v3, rfl, hr3, hb3⟩))
    go_ret2
    have s2 := hb2.size
    refine ⟨v3, ret_err HF.out.symm, by rw [HBQ.out]; exact hr3.mono (by omega), ?_⟩
    exact (((below_alloc w _).trans (hb1.mono (by simp))).trans (hb2.mono (by omega))).trans (hb3.mono (by omega))
  · have hbq : p.born = [] := by unfold Pers.born; rw [if_neg hf]
    have HBQ := Lib.hid hbq; clear hbq
    have hq : (p.fault != 0) = true := by simp [hf]
    clear hf
    go_enter Tryz.func156, Tryz.ntmps156
    go_wp2_with (go_at_call 59; refine (check_any _ p _ (HP.out.below (below_alloc _ _)) hn hc).mono ?_; rintro e w1 ⟨rfl, hb1⟩)
    go_ret2
    exact ⟨_, rfl, by rw [HBQ.out]; exact RS.nil _ _, (below_alloc w _).trans (hb1.mono (by simp))⟩
end Go.Proofs.YtgbdbikjckfgmaaGreat
namespace Go.Proofs.YtgbdbikjckfgmaaGreat
open Go.RowKit
theorem born_length (p : Pers) : p.born.length ≤ 1000 := by
  unfold Pers.born
  split
  · rename_i h
    have := (daysL_facts p (fun _ => false) h p.nc (Nat.le_refl _)).1
    have := (Pers.ok_facts h).2.1
    unfold Pers.days; omega
  · simp
end Go.Proofs.YtgbdbikjckfgmaaGreat
namespace Go.Proofs.YtgbdbikjckfgmaaGreat
open Go.RowKit Go.Shelf
def intsV (l : List Int) : List Value := l.map (Value.int .i64)
/-- A slice of ints of one's own. -/
def IL (W : World) (v : Value) (l : List Int) : Prop := W.ownsRow 0 3 1 v l.length (intsV l)
theorem Tryz.infoInt : (Tryz.prog.info? 3).map (fun i => (i.zero, i.size, i.bytes)) = some (some (.int .i64 0), 1, 8) := by kernel_rfl
theorem IL.nil (W : World) : IL W (.slice none 0 0) [] := World.ownsRow_nil _ _ _ _
theorem intsV_get (l : List Int) (j : Nat) : (intsV l)[j]? = (l[j]?).map (Value.int .i64) := by simp [intsV]
theorem IL.cell {W : World} {g cap : Nat} {l : List Int} (h : IL W (.slice (some ⟨g, 0, none⟩) l.length cap) l) (j : Nat) (hj : j < l.length) : W.cell? ⟨g, j, none⟩ = some (.int .i64 l[j]) := by
  have := World.ownsRow.cellAt h j (by simp; omega)
  rw [this, intsV_get]; simp [hj]
theorem IL.form {W : World} {v : Value} {l : List Int} (h : IL W v l) : (v = .slice none 0 0 ∧ l = []) ∨ ∃ g cap, v = .slice (some ⟨g, 0, none⟩) l.length cap ∧ g < W.heap.size := by
  rcases h.2 with ⟨rfl, h0⟩ | ⟨g, cap, cur, rfl, _, hc, _⟩
  · exact .inl ⟨rfl, List.eq_nil_of_length_eq_zero h0⟩
  · exact .inr ⟨g, cap, rfl, (Array.getElem?_eq_some_iff.1 hc).1⟩
theorem IL.ints {W : World} {v : Value} {l : List Int} (h : IL W v l) : IntsAt W v l.length (fun j => l.getD j 0) := by
  rcases h.form with ⟨rfl, rfl⟩ | ⟨g, cap, rfl, hg⟩
  · exact .inl ⟨rfl, rfl⟩
  · refine .inr ⟨g, 0, cap, rfl, hg, fun j hj => ?_⟩
    rw [Nat.zero_add, h.cell j hj]; simp [hj]
theorem IL.below {W W' : World} {v : Value} {l : List Int} (h : IL W v l) (hb : Below W.heap.size W W') : IL W' v l := own_fr h (Fr.below hb (fun _ => False)) (fun _ _ _ _ _ h => h)
theorem FileAt.fr {W W' : World} {ex : Nat → Prop} {F : Nat} {p : Pers} (h : FileAt W F p) (hf : Fr ex W W') (hx : ∀ q c t, ex q → W.heap[q]? = some (.cells c t (0, 0)) → t = 3 ∨ t = 47) : FileAt W' F p := by
  obtain ⟨rv, cv, av, svs, h1, h2, h3, h4⟩ := h
  refine ⟨rv, cv, av, svs, (hf.block _ (Array.getElem?_eq_some_iff.1 h1).1 (fun e => ?_)).trans h1, h2, own_fr h3 hf (fun g cur _ _ hc e => ?_), fun j hj => (h4 j hj).fr hf (fun g cur _ _ hc e => ?_)⟩
  · rcases hx _ _ _ e h1 with h | h <;> exact absurd h (by decide)
  · rcases hx _ _ _ e hc with h | h <;> exact absurd h (by decide)
  · rcases hx _ _ _ e hc with h | h <;> exact absurd h (by decide)
end Go.Proofs.YtgbdbikjckfgmaaGreat
namespace Go.Proofs.YtgbdbikjckfgmaaGreat
open Go.RowKit Go.Shelf
theorem intsV_snoc (l : List Int) (i : Int) : intsV (l ++ [i]) = intsV l ++ [.int .i64 i] := by simp [intsV]
end Go.Proofs.YtgbdbikjckfgmaaGreat
namespace Go.Proofs.YtgbdbikjckfgmaaGreat
open Go.RowKit Go.Shelf
def flatC (l : List Rc) : List Value := l.flatMap fun c => [.int .i64 c.day, .int .i64 c.rule, .int .i64 c.num]
theorem flatC_length (l : List Rc) : (flatC l).length = l.length * 3 := by
  induction l with
  | nil => rfl
  | cons x l ih => simp only [flatC, List.flatMap_cons, List.length_append] at ih ⊢; rw [ih]; simp; omega
theorem flatC_get (l : List Rc) (k : Nat) (hk : k < l.length) : (flatC l)[k * 3]? = some (.int .i64 l[k].day) ∧ (flatC l)[k * 3 + 1]? = some (.int .i64 l[k].rule) ∧ (flatC l)[k * 3 + 2]? = some (.int .i64 l[k].num) := by
  induction l generalizing k with
  | nil => simp at hk
  | cons x l ih =>
    cases k with
    | zero => exact ⟨rfl, rfl, rfl⟩
    | succ k =>
      have := ih k (by simpa using hk)
      have e : ∀ j, (flatC (x :: l))[(k + 1) * 3 + j]? = (flatC l)[k * 3 + j]? := fun j => by rw [show (k + 1) * 3 + j = (k * 3 + j) + 1 + 1 + 1 from by omega]; rfl
      exact ⟨(e 0).trans this.1, (e 1).trans this.2.1, (e 2).trans this.2.2⟩
def flatL (l : List Rl) : List Value := l.flatMap fun c => [.int .i64 c.f, .int .i64 c.b, .int .i64 c.m, .int .i64 c.e]
theorem flatL_length (l : List Rl) : (flatL l).length = l.length * 4 := by
  induction l with
  | nil => rfl
  | cons x l ih => simp only [flatL, List.flatMap_cons, List.length_append] at ih ⊢; rw [ih]; simp; omega
theorem flatL_get (l : List Rl) (k : Nat) (hk : k < l.length) : (flatL l)[k * 4]? = some (.int .i64 l[k].f) ∧ (flatL l)[k * 4 + 1]? = some (.int .i64 l[k].b) ∧ (flatL l)[k * 4 + 2]? = some (.int .i64 l[k].m) ∧ (flatL l)[k * 4 + 3]? = some (.int .i64 l[k].e) := by
  induction l generalizing k with
  | nil => simp at hk
  | cons x l ih =>
    cases k with
    | zero => exact ⟨rfl, rfl, rfl, rfl⟩
    | succ k =>
      have := ih k (by simpa using hk)
      have e : ∀ j, (flatL (x :: l))[(k + 1) * 4 + j]? = (flatL l)[k * 4 + j]? := fun j => by rw [show (k + 1) * 4 + j = (k * 4 + j) + 1 + 1 + 1 + 1 from by omega]; rfl
      exact ⟨(e 0).trans this.1, (e 1).trans this.2.1, (e 2).trans this.2.2.1, (e 3).trans this.2.2.2⟩
/-- A slice of records (of rules) of one's own. -/
def CL (W : World) (v : Value) (l : List Rc) : Prop := W.ownsRow 0 159 3 v l.length (flatC l)
def LL (W : World) (v : Value) (l : List Rl) : Prop := W.ownsRow 0 156 4 v l.length (flatL l)
theorem CL.at {W : World} {v : Value} {l : List Rc} (h : CL W v l) : RcsAt W v l.length (fun j => l.getD j ⟨0, 0, 0⟩) := by
  have h0 := h
  rcases h.2 with ⟨rfl, hl⟩ | ⟨g, cap, cur, rfl, _, hc, _⟩
  · exact .inl ⟨rfl, hl⟩
  · refine .inr ⟨g, 0, cap, rfl, (Array.getElem?_eq_some_iff.1 hc).1, fun j hj => ?_⟩
    have hf := flatC_get l j hj
    have hl := flatC_length l
    unfold CL at h0
    simp only [Nat.zero_add, show l.getD j ⟨0, 0, 0⟩ = l[j] from by simp [hj]]
    rw [h0.cellAt _ (by omega), h0.cellAt _ (by omega), h0.cellAt _ (by omega)]
    exact hf
theorem LL.at {W : World} {v : Value} {l : List Rl} (h : LL W v l) : RlsAt W v l.length (fun j => l.getD j ⟨0, 0, 0, 0⟩) := by
  have h0 := h
  rcases h.2 with ⟨rfl, hl⟩ | ⟨g, cap, cur, rfl, _, hc, _⟩
  · exact .inl ⟨rfl, hl⟩
  · refine .inr ⟨g, 0, cap, rfl, (Array.getElem?_eq_some_iff.1 hc).1, fun j hj => ?_⟩
    have hf := flatL_get l j hj
    have hl := flatL_length l
    unfold LL at h0
    simp only [Nat.zero_add, show l.getD j ⟨0, 0, 0, 0⟩ = l[j] from by simp [hj]]
    rw [h0.cellAt _ (by omega), h0.cellAt _ (by omega), h0.cellAt _ (by omega), h0.cellAt _ (by omega)]
    exact hf
theorem Tryz.infoRecord : (Tryz.prog.info? 159).map (fun i => (i.zero, i.size, i.bytes)) = some (some (.agg #[.int .i64 0, .int .i64 0, .int .i64 0]), 3, 24) := by kernel_rfl
theorem Tryz.infoRule : (Tryz.prog.info? 156).map (fun i => (i.zero, i.size, i.bytes)) = some (some (.agg #[.int .i64 0, .int .i64 0, .int .i64 0, .int .i64 0]), 4, 32) := by kernel_rfl
end Go.Proofs.YtgbdbikjckfgmaaGreat
namespace Go.Proofs.YtgbdbikjckfgmaaGreat
open Go.RowKit Go.Shelf
set_option maxHeartbeats 400000 in
theorem refIn_any (a b c : Int) (w : World) :
    Calls Tryz.prog 32 #[.int .i64 a, .int .i64 b, .int .i64 c] w fun e w' => e = .returned (.bool (inB a b c)) ∧ w = w' := by
  go_enter Tryz.func32, Tryz.ntmps32
  go_wp2
  all_goals go_ret
  all_goals (refine ⟨?_, rfl⟩; congr 2; simp [inB]; omega)
theorem IntsAt.congr {w : World} {v : Value} {n : Nat} {x y : Nat → Int} (h : IntsAt w v n x) (he : ∀ j, j < n → x j = y j) : IntsAt w v n y := by
  rcases h with h | ⟨b, off, cap, rfl, hb, hz⟩
  · exact .inl h
  · exact .inr ⟨b, off, cap, rfl, hb, fun j hj => by rw [hz j hj, he j hj]⟩
end Go.Proofs.YtgbdbikjckfgmaaGreat
namespace Go.Proofs.YtgbdbikjckfgmaaGreat
theorem ext_snoc (l0 : RL) (a b lo hi : Int) : ext (l0 ++ [(a, b)]) lo hi = if lo ≤ b + 1 then l0 ++ [(a, max b hi)] else (l0 ++ [(a, b)]) ++ [(lo, hi)] := by simp [ext]
theorem ext_facts {l : RL} (h : Nrm l) {lo hi : Int} (hl : lo ≤ hi) (hlow : ∀ r ∈ l, r.1 ≤ lo) : Nrm (ext l lo hi) ∧ ∀ n, hasR (ext l lo hi) n = (hasR l n || (decide (lo ≤ n) && decide (n ≤ hi))) := by
  rcases List.eq_nil_or_concat l with rfl | ⟨l0, ⟨a, b⟩, rfl⟩
  · refine ⟨(Nrm.cons_iff _ _).2 ⟨hl, by simp, Nrm.nil⟩, fun n => ?_⟩
    show hasR [(lo, hi)] n = _
    rw [hasR_cons]; simp [hasR]
  · rw [List.concat_eq_append] at *
    rw [ext_snoc]
    obtain ⟨h1, h2, h3⟩ := (Nrm.snoc_iff _ _).1 h
    have ha := hlow (a, b) (by simp)
    simp only at h2 ha
    by_cases hc : lo ≤ b + 1
    · rw [if_pos hc]
      refine ⟨(Nrm.snoc_iff _ _).2 ⟨h1, by show a ≤ max b hi; omega, h3⟩, fun n => ?_⟩
      rw [hasR_append, hasR_append, Bool.or_assoc]
      congr 1
      rw [hasR_cons, hasR_cons, hasR_nil, Bool.or_false, Bool.or_false, Bool.eq_iff_iff]
      simp; omega
    · rw [if_neg hc]
      refine ⟨(Nrm.snoc_iff _ _).2 ⟨h, hl, fun s hs => ?_⟩, fun n => ?_⟩
      · rcases List.mem_append.1 hs with h' | h'
        · have := h3 s h'; show s.2 + 2 ≤ lo; simp only at this; omega
        · simp only [List.mem_singleton] at h'; subst h'; show b + 2 ≤ lo; omega
      · rw [hasR_append]
        congr 1
        rw [hasR_cons, hasR_nil, Bool.or_false]
theorem ext_mem_low {l : RL} {lo hi B : Int} (h : ∀ r ∈ l, r.1 ≤ B) (hlo : lo ≤ B) : ∀ r ∈ ext l lo hi, r.1 ≤ B := by
  rcases List.eq_nil_or_concat l with rfl | ⟨l0, ⟨a, b⟩, rfl⟩
  · intro r hr; simp [ext] at hr; subst hr; exact hlo
  · rw [List.concat_eq_append] at *
    rw [ext_snoc]
    intro r hr
    split at hr
    · rcases List.mem_append.1 hr with h' | h'
      · exact h r (by simp [h'])
      · simp only [List.mem_singleton] at h'; subst h'; exact h (a, b) (by simp)
    · rcases List.mem_append.1 hr with h' | h'
      · exact h r h'
      · simp only [List.mem_singleton] at h'; subst h'; exact hlo
theorem rngs_facts (fl : Nat → Bool) (k : Nat) : Nrm (rngs fl k) ∧ (∀ r ∈ rngs fl k, r.1 ≤ (k : Int) - 1) ∧ ∀ n : Int, hasR (rngs fl k) n = (decide (0 ≤ n) && decide (n < k) && fl n.toNat) := by
  induction k with
  | zero => refine ⟨Nrm.nil, by simp [rngs], fun n => ?_⟩
            rw [show (decide (0 ≤ n) && decide (n < ((0 : Nat) : Int))) = false from by first | (simp; done) | (simp; omega)]; rfl
  | succ k ih =>
    obtain ⟨i1, i2, i3⟩ := ih
    rw [rngs]
    have hc : ∀ n : Int, n ≠ k → (decide (0 ≤ n) && decide (n < ((k + 1 : Nat) : Int))) = (decide (0 ≤ n) && decide (n < (k : Int))) := fun n hn => by
      rw [Bool.eq_iff_iff]; simp; omega
    cases hf : fl k
    · rw [if_neg (by decide)]
      refine ⟨i1, fun r hr => by have := i2 r hr; omega, fun n => ?_⟩
      rw [i3 n]
      by_cases hn : n = k
      · subst hn; simp [hf]
      · rw [hc n hn]
    · rw [if_pos rfl]
      obtain ⟨e1, e2⟩ := ext_facts i1 (Int.le_refl (k : Int)) (fun r hr => by have := i2 r hr; omega)
      refine ⟨e1, fun r hr => ?_, fun n => ?_⟩
      · have := ext_mem_low (hi := (k : Int)) (B := (k : Int)) (fun r hr => by have := i2 r hr; omega) (Int.le_refl _) r hr
        omega
      · rw [e2 n, i3 n]
        by_cases hn : n = k
        · subst hn; simp [hf]; omega
        · rw [hc n hn, show (decide ((k : Int) ≤ n) && decide (n ≤ (k : Int))) = false from by simp; omega, Bool.or_false]
theorem agesF_iff (f b m e n : Int) (k i : Nat) : agesF f b m e n k i = true ↔ ∃ q, q < k ∧ wrt f b m q = n ∧ (q : Int) - e ≤ i ∧ (i : Int) ≤ q + e := by
  unfold agesF
  rw [List.any_eq_true]
  constructor
  · rintro ⟨q, hq, h⟩; simp at h hq; exact ⟨q, hq, h.1, h.2.1, h.2.2⟩
  · rintro ⟨q, hq, h1, h2, h3⟩; exact ⟨q, by simpa using hq, by simp [h1]; omega⟩
end Go.Proofs.YtgbdbikjckfgmaaGreat
namespace Go.Proofs.YtgbdbikjckfgmaaGreat
open Go.RowKit Go.Shelf
set_option maxHeartbeats 1000000 in
theorem rule_any (f b m e : Int) (w : World) : Calls Tryz.prog 129 #[.agg #[.int .i64 f, .int .i64 b, .int .i64 m, .int .i64 e]] w fun r w' => r = .returned (.agg #[.int .i64 f, .int .i64 b, .int .i64 m, .int .i64 e]) ∧ Below w.heap.size w w' := by
  go_enter Tryz.func129, Tryz.ntmps129
  go_wp2
  exact bodyPost_ret (v := .agg #[.int .i64 f, .int .i64 b, .int .i64 m, .int .i64 e]) (by simp [results, Tryz.results129, go_sem]) rfl ⟨rfl, ((below_alloc _ _).alloc (by simp) _)⟩
set_option maxHeartbeats 1000000 in
theorem isRule_any (f b m e : Int) (w : World) : Calls Tryz.prog 119 #[.agg #[.int .i64 f, .int .i64 b, .int .i64 m, .int .i64 e]] w fun r w' => r = .returned (.bool (okRule f b m e)) ∧ Below w.heap.size w w' := by
  go_enter Tryz.func119, Tryz.ntmps119
  go_wp2_with (go_at_call 32; refine (refIn_any _ _ _ _).mono ?_; rintro e w' ⟨rfl, rfl⟩)
  all_goals go_ret
  all_goals exact ⟨by simp [okRule, *], below_alloc _ _⟩
set_option maxHeartbeats 1000000 in
theorem isDayR_any (a : Int) (w : World) : Calls Tryz.prog 118 #[.int .i64 a] w fun e w' => e = .returned (.bool (inB a (-50000) 50000)) ∧ w = w' := by
  go_enter Tryz.func118, Tryz.ntmps118
  go_wp2_with (go_at_call 32; refine (refIn_any _ _ _ _).mono ?_; rintro e w' ⟨rfl, rfl⟩)
  go_ret
  exact ⟨rfl, rfl⟩
end Go.Proofs.YtgbdbikjckfgmaaGreat
namespace Go.Proofs.YtgbdbikjckfgmaaGreat
open Go.RowKit Go.Shelf
theorem RgAt.get {w : World} {a : Option Addr} {cap : Nat} {l : RL} (h : RgAt w (.slice a l.length cap) l) {k : Nat} (hk : k < l.length) : ∃ b off, a = some ⟨b, off, none⟩ ∧ w.cell? ⟨b, off + k * 2, none⟩ = some (.int .i64 l[k].1) ∧ w.cell? ⟨b, off + k * 2 + 1, none⟩ = some (.int .i64 l[k].2) := by
  rcases h with ⟨h, _⟩ | ⟨b', off', cap', h, _, _, hz⟩
  · rw [h] at hk; simp at hk
  · cases h; exact ⟨b', off', rfl, hz k hk⟩
end Go.Proofs.YtgbdbikjckfgmaaGreat
namespace Go.Proofs.YtgbdbikjckfgmaaGreat
open Go.RowKit Go.Shelf
attribute [local go_sem ↓] Go.wp_at_zero Go.wp_at_succ
/-- A rule of the reference lies in block B. -/
def RuleAt (X : World) (B : Nat) (f b m e : Int) : Prop := X.heap[B]? = some (.cells #[.int .i64 f, .int .i64 b, .int .i64 m, .int .i64 e] 142 (0, 0))
theorem RuleAt.cells {X : World} {B : Nat} {f b m e : Int} (h : RuleAt X B f b m e) : X.cell? ⟨B, 0, none⟩ = some (.int .i64 f) ∧ X.cell? ⟨B, 1, none⟩ = some (.int .i64 b) ∧ X.cell? ⟨B, 2, none⟩ = some (.int .i64 m) ∧ X.cell? ⟨B, 3, none⟩ = some (.int .i64 e) :=
  ⟨cell_of_row _ _ 0 _ _ _ h, cell_of_row _ _ 1 _ _ _ h, cell_of_row _ _ 2 _ _ _ h, cell_of_row _ _ 3 _ _ _ h⟩
theorem RuleAt.lt {X : World} {B : Nat} {f b m e : Int} (h : RuleAt X B f b m e) : B < X.heap.size := (Array.getElem?_eq_some_iff.1 h).1
theorem RuleAt.below {X Y : World} {B : Nat} {f b m e : Int} (h : RuleAt X B f b m e) (hb : Below X.heap.size X Y) : RuleAt Y B f b m e := (hb.block _ h.lt).trans h
theorem RuleAt.other {X : World} {B C o : Nat} {f b m e : Int} (h : RuleAt X B f b m e) (hne : B ≠ C) (v : Value) : RuleAt (X.setCell ⟨C, o, none⟩ v) B f b m e := ((Fr.set X C o v).block _ h.lt hne).trans h
end Go.Proofs.YtgbdbikjckfgmaaGreat
namespace Go.Proofs.YtgbdbikjckfgmaaGreat
def awy (x y : Int) : Int := max (x - y) (y - x)
/-- The best multiple after j multiples were tried. -/
def wB (b m k : Int) : Nat → Int
  | 0 => 0
  | j + 1 => if (m = 0 ∧ b * j ≤ k) ∨ (m = 1 ∧ awy (b * j) k ≤ awy (wB b m k j) k) then b * j else wB b m k j
theorem wB_bd (b m k : Int) (hb : 1 ≤ b) (j : Nat) : 0 ≤ wB b m k j ∧ (wB b m k j = 0 ∨ wB b m k j ≤ b * ((j : Int) - 1)) := by
  induction j with
  | zero => simp [wB]
  | succ j ih =>
    have h1 : 0 ≤ b * (j : Int) := Int.mul_nonneg (by omega) (by omega)
    rw [wB]
    have e : b * (((j + 1 : Nat) : Int) - 1) = b * j := by congr 1; omega
    rw [e]
    split
    · exact ⟨h1, .inr (Int.le_refl _)⟩
    · refine ⟨ih.1, ih.2.imp id (fun h => ?_)⟩
      have : b * ((j : Int) - 1) = b * j - b := by rw [Int.mul_sub, Int.mul_one]
      omega
theorem wB_form (b m k : Int) (hb : 1 ≤ b) (hb2 : b ≤ 12) (hm : m = 0 ∨ m = 1) (hk : 0 ≤ k) (hk2 : k ≤ 125) (j : Nat) (hj : 0 < j) : wB b m k j = b * min ((j : Int) - 1) ((k + (if m = 0 then 0 else b / 2)) / b) := by
  induction j with
  | zero => omega
  | succ j ih =>
    rcases Nat.eq_zero_or_pos j with rfl | hj'
    · have h0 : wB b m k (0 + 1) = 0 := by rw [wB]; simp [wB]
      rw [h0]
      have : (0 : Int) ≤ (k + (if m = 0 then 0 else b / 2)) / b := Int.ediv_nonneg (by split <;> omega) (by omega)
      rw [show min (((0 + 1 : Nat) : Int) - 1) ((k + (if m = 0 then 0 else b / 2)) / b) = 0 from by omega]; simp
    · have ih := ih hj'
      rw [wB, ih]
      have hbc : b = 1 ∨ b = 2 ∨ b = 3 ∨ b = 4 ∨ b = 5 ∨ b = 6 ∨ b = 7 ∨ b = 8 ∨ b = 9 ∨ b = 10 ∨ b = 11 ∨ b = 12 := by omega
      clear ih
      rcases hm with rfl | rfl <;> rcases hbc with rfl | rfl | rfl | rfl | rfl | rfl | rfl | rfl | rfl | rfl | rfl | rfl <;> simp [awy] <;> split <;> omega
theorem wB_end (f b m k : Int) (hb : 1 ≤ b) (hb2 : b ≤ 12) (hm : m = 0 ∨ m = 1) (hk : 0 ≤ k) (hk2 : k ≤ 125) (hf : f ≤ k) (j : Nat) (hj : 140 < b * j) : wB b m k j = wrt f b m k := by
  have hj0 : 0 < j := by
    rcases Nat.eq_zero_or_pos j with rfl | h
    · simp at hj
    · exact h
  rw [wB_form b m k hb hb2 hm hk hk2 j hj0]
  unfold wrt
  rw [if_neg (show ¬ k < f by omega)]
  have hbc : b = 1 ∨ b = 2 ∨ b = 3 ∨ b = 4 ∨ b = 5 ∨ b = 6 ∨ b = 7 ∨ b = 8 ∨ b = 9 ∨ b = 10 ∨ b = 11 ∨ b = 12 := by omega
  rcases hm with rfl | rfl <;> rcases hbc with rfl | rfl | rfl | rfl | rfl | rfl | rfl | rfl | rfl | rfl | rfl | rfl <;> simp <;> omega
end Go.Proofs.YtgbdbikjckfgmaaGreat
namespace Go.Proofs.YtgbdbikjckfgmaaGreat
open Go.RowKit Go.Shelf
set_option maxHeartbeats 1000000 in
theorem away_any (x y : Int) (w : World) (hx : -1000000 ≤ x) (hx2 : x ≤ 1000000) (hy : -1000000 ≤ y) (hy2 : y ≤ 1000000) :
    Calls Tryz.prog 115 #[.int .i64 x, .int .i64 y] w fun e w' => e = .returned (.int .i64 (awy x y)) ∧ w = w' := by
  go_enter Tryz.func115, Tryz.ntmps115
  go_wp2
  all_goals go_ret
  all_goals exact ⟨ret_int (by unfold awy; omega), rfl⟩
end Go.Proofs.YtgbdbikjckfgmaaGreat
