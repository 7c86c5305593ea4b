/- arrive. Printed by gen_ft.py. | Contracts of before, up, survivors, agree at every cell of a table at work. | after: the plain side, and the state inside a call. -/
import Derived.Test.YtjaoflfophcibaaPC
namespace Go.Proofs.Ytjaoflfophcibaa
open Go.RowKit Go.Shelf

attribute [local go_sem ↓] Go.wp_at_zero Go.wp_at_succ
set_option maxRecDepth 100000 in
set_option maxHeartbeats 4000000 in
theorem arrive_of (B bm n M : Nat) (x : WV) (t : Tb) (out : Nat → Nat → Bool) (c0 c1 g : Nat) (hs : t.small) (h10 : c1 = c0 + 1) (hc4 : c0 < 100) (hcb : c0 < t.nb) (hg : g < t.ng) (hg4 : g < 100) (hng : 2 ≤ t.ng) (hnr : t.nr = t.ng + 1) (hnn : t.nn = t.ng)
    (hr : ∀ j, j < t.nr → isRateR (t.r j) = true) (hb : isCountR (t.b c0) = true) (hnet : isNetR (t.n g) = true) (hn : n + 4 * M ≤ 90000)
    (hup : ∀ (m : Nat) (W : World) (g' : Nat), g' < t.ng → m + M ≤ 90000 → St W B bm m x t out → Calls Try.prog 61 #[.pointer (some ⟨B, 0, none⟩), .agg #[.int .i64 c0, .int .i64 g']] W (GivesR W B bm (m + M) x t out (t.up out c0 g'))) (w : World) (hst : St w B bm n x t out) :
    Calls Try.prog 73 #[.pointer (some ⟨B, 0, none⟩), .agg #[.int .i64 c1, .int .i64 g]] w (GivesR w B bm (n + 4 * M) x t out (t.before out c1 g)) := by
  have hB : B < w.heap.size := (Array.getElem?_eq_some_iff.1 hst.wb).1
  have hbm : bm < w.heap.size := hst.cm.lt
  have HSW := Lib.hid hst
  have HUP := Lib.hid hup
  have HS := Lib.hid hs
  have hngs := hs.ng
  have HBF : Hid (t.before out c1 g = t.arr c0 g (t.up out c0)) := by unfold Hid; rw [h10]; rfl
  -- births and rates
  obtain ⟨bb, bo, eba, -, -, -⟩ := hst.wl.2.1.at hcb
  obtain ⟨rb, ro, era, -, -, -⟩ := hst.wl.2.2.1.at (k := 0) (by omega)
  obtain ⟨ba, hba⟩ : ∃ v, v = (t.b c0).1 := ⟨_, rfl⟩
  obtain ⟨bz, hbz⟩ : ∃ v, v = (t.b c0).2 := ⟨_, rfl⟩
  obtain ⟨ra, hra⟩ : ∃ v, v = (t.r 0).1 := ⟨_, rfl⟩
  obtain ⟨rz, hrz⟩ : ∃ v, v = (t.r 0).2 := ⟨_, rfl⟩
  obtain ⟨hba0, hba1, hbz0, hbz1⟩ : 0 ≤ ba ∧ ba ≤ 1000000000 ∧ 0 ≤ bz ∧ bz ≤ 1000000000 := by have := inside_bd hb; omega
  obtain ⟨hra0, hra1, hrz0, hrz1⟩ : 0 ≤ ra ∧ ra ≤ 1000 ∧ 0 ≤ rz ∧ rz ≤ 1000 := by have := inside_bd (hr 0 (by omega)); omega
  have HCB : Hid (∀ (X : World) (m : Nat), St X B bm m x t out → X.cell? ⟨B, 1, none⟩ = some (.slice (some ⟨bb, bo, none⟩) t.nb x.bc) ∧ X.cell? ⟨B, 2, none⟩ = some (.slice (some ⟨rb, ro, none⟩) t.nr x.rc) ∧ X.cell? ⟨bb, bo + c0 * 2, none⟩ = some (.int .i64 ba) ∧ X.cell? ⟨bb, bo + c0 * 2 + 1, none⟩ = some (.int .i64 bz) ∧ X.cell? ⟨rb, ro, none⟩ = some (.int .i64 ra) ∧ X.cell? ⟨rb, ro + 1, none⟩ = some (.int .i64 rz)) := fun X m h => by
    obtain ⟨_, k1, k2, _⟩ := h.wb.cells
    obtain ⟨bb', bo', e2, _, k3, k4⟩ := h.wl.2.1.at hcb
    obtain ⟨rb', ro', e3, _, k5, k6⟩ := h.wl.2.2.1.at (k := 0) (by omega)
    rw [eba] at e2
    rw [era] at e3
    cases e2
    cases e3
    rw [hba, hbz, hra, hrz]
    unfold WV.bv at k1
    unfold WV.rv at k2
    rw [eba] at k1
    rw [era] at k2
    exact ⟨k1, k2, k3, k4, by simpa using k5, by simpa using k6⟩
  have HC4 : Hid (∀ X : World, ∀ {m : Nat} {a b : Int}, AR w X B bm m x t out c1 g a b → X.cell? ⟨w.heap.size, 0, none⟩ = some (.int .i64 c1) ∧ X.cell? ⟨B, 1, none⟩ = some (.slice (some ⟨bb, bo, none⟩) t.nb x.bc) ∧ X.cell? ⟨B, 2, none⟩ = some (.slice (some ⟨rb, ro, none⟩) t.nr x.rc) ∧ X.cell? ⟨bb, bo + c0 * 2, none⟩ = some (.int .i64 ba) ∧ X.cell? ⟨bb, bo + c0 * 2 + 1, none⟩ = some (.int .i64 bz) ∧ X.cell? ⟨rb, ro, none⟩ = some (.int .i64 ra) ∧ X.cell? ⟨rb, ro + 1, none⟩ = some (.int .i64 rz)) := fun X {m a b} h => ⟨cell_of_row _ _ 0 _ _ _ h.k, HCB.out X _ h.st⟩
  have HR0' : Hid (g = 0 → arr0 t c0 g = (fewestR (ra, rz) ba, mostR (ra, rz) bz)) := fun h => by
    unfold arr0 livingR; rw [if_pos h, hra, hrz, hba, hbz]
  have HR1' : Hid (¬ g = 0 → arr0 t c0 g = (0, 0)) := fun h => by
    unfold arr0; rw [if_neg h]
  have wc1 : IntKind.i64.wrap ((c1 : Int) - 1) = (c1 : Int) - 1 := IntWalk.i64_in _ (by omega)
  have hcn : (0 : Int) ≤ (c1 : Int) - 1 := by omega
  have hcl : (c1 : Int) - 1 < (t.nb : Int) := by omega
  have htn : ((c1 : Int) - 1).toNat = c0 := by omega
  have htn2 : c1 - 1 = c0 := by omega
  have hrl : ¬ t.nr = 0 := by omega
  have hc1p : ¬ ((c1 : Int) < 1) := by omega
  have HAM := Lib.hid (AR.made (c1 := c1) (g := g) hst)
  have HNR := Lib.hid hnr; have HNN := Lib.hid hnn; have HRR := Lib.hid hr; have HBB := Lib.hid hb; have HNT := Lib.hid hnet; have HN4 := Lib.hid hn
  have hc01 : c0 < c1 := by omega
  have hc02 : c1 ≤ c0 + 1 := by omega
  -- the sources
  obtain ⟨l, hl⟩ : ∃ l, l = srcL t c1 g := ⟨_, rfl⟩
  have HLN := Lib.hid (src_len h10 hl)
  have hl2 : l.length ≤ 2 := by rw [HLN.out]; exact srcG_le t g
  have HAT : Hid (∀ k (hk : k < l.length), ∃ (q : Nat) (hq : k < (srcG t g).length), (srcG t g)[k] = q ∧ l[k] = ((c0 : Int), (q : Int))) := fun k hk => src_at h10 hl hk
  have HSO : Hid (∀ X m a b, AR w X B bm m x t out c1 g a b → Calls Try.prog 95 #[.pointer (some ⟨B, 0, none⟩), .agg #[.int .i64 c1, .int .i64 g]] X fun e w' => ∃ v, e = .returned v ∧ w'.ownsRow 0 39 2 v l.length (flat l) ∧ Below X.heap.size X w') := fun X m a b h => by rw [hl]; exact sources_any B bm x t out c1 g X h.st.wb h.st.wl hs (by omega) (by omega) (by omega)
  -- net
  obtain ⟨nb, no, ena, hnbl, -, -⟩ := hst.wl.2.2.2.at (k := g) (by omega)
  obtain ⟨na, hna⟩ : ∃ v, v = (t.n g).1 := ⟨_, rfl⟩
  obtain ⟨nz, hnz⟩ : ∃ v, v = (t.n g).2 := ⟨_, rfl⟩
  have HNZ : Hid (t.n g = (na, nz)) := by unfold Hid; rw [hna, hnz]
  obtain ⟨hna0, hna1, hnz0, hnz1⟩ : -50 ≤ na ∧ na ≤ 50 ∧ -50 ≤ nz ∧ nz ≤ 50 := by have := inside_bd hnet; omega
  have HC5 : Hid (∀ X : World, ∀ {m : Nat} {a b : Int}, AR w X B bm m x t out c1 g a b → X.cell? ⟨w.heap.size, 1, none⟩ = some (.int .i64 g) ∧ X.cell? ⟨w.heap.size + 3, 0, none⟩ = some (.int .i64 a) ∧ X.cell? ⟨w.heap.size + 3, 1, none⟩ = some (.int .i64 b) ∧ X.cell? ⟨B, 3, none⟩ = some (.slice (some ⟨nb, no, none⟩) t.nn x.nc) ∧ X.cell? ⟨nb, no + g * 2, none⟩ = some (.int .i64 na) ∧ X.cell? ⟨nb, no + g * 2 + 1, none⟩ = some (.int .i64 nz)) := fun X {m a b} h => by
    obtain ⟨_, _, _, k3, _⟩ := h.st.wb.cells
    obtain ⟨nb', no', e3, _, k5, k6⟩ := h.st.wl.2.2.2.at (k := g) (by omega)
    rw [ena] at e3
    cases e3
    rw [hna, hnz]
    unfold WV.nv at k3
    rw [ena] at k3
    exact ⟨cell_of_row _ _ 1 _ _ _ h.k, cell_of_row _ _ 0 _ _ _ h.r, cell_of_row _ _ 1 _ _ _ h.r, k3, k5, k6⟩
  have hgn : g < t.nn := by omega
  have HBD : Hid (∀ k, k ≤ l.length → (∀ j (hj : j < (srcG t g).length), j < k → emptyR (t.up out c0 (srcG t g)[j]) = false) → -10000000 - 10000000 * k ≤ (accR t g (t.up out c0) (arr0 t c0 g) k).1 ∧ (accR t g (t.up out c0) (arr0 t c0 g) k).1 ≤ 10000000 + 10000000 * k ∧ -10000000 - 10000000 * k ≤ (accR t g (t.up out c0) (arr0 t c0 g) k).2 ∧ (accR t g (t.up out c0) (arr0 t c0 g) k).2 ≤ 10000000 + 10000000 * k) := fun k hk h => acc_bd hg hnr hr hb k (by rw [← HLN.out]; exact hk) h
  clear hl hna hnz ena hba hbz hra hrz eba era hst hup hs h10 hn hnr hnn hr hb hnet
  unfold GivesR
  go_enter Try.func73, Try.ntmps73
  go_upto_if 12 with fail
  go_cut [3, 4, 5, 6] (fun s3 s4 s5 s6 wx => ∃ a b : Int, (s3 = .pointer (some ⟨w.heap.size, 0, none⟩) ∧ s4 = .pointer (some ⟨w.heap.size + 1, 0, none⟩) ∧ s5 = .pointer (some ⟨w.heap.size + 2, 0, none⟩) ∧ s6 = .pointer (some ⟨w.heap.size + 3, 0, none⟩)) ∧ AR w wx B bm n x t out c1 g a b ∧ arr0 t c0 g = (a, b))
  case first =>
    by_cases g0 : g = 0
    · have HR0 := Lib.hid (HR0'.out g0)
      have hg0 : ((g : Int) == 0) = true := by simpa using g0
      clear g0
      go_upto_region 4 with fail
      rw [show w.heap.size + 1 + 1 + 1 = w.heap.size + 3 from rfl, show w.heap.size + 1 + 1 = w.heap.size + 2 from rfl]
      generalize (((w.alloc (.cells #[.int .i64 c1, .int .i64 g] 39)).alloc (.cells #[.int .i64 0, .int .i64 0] 29)).alloc (.cells #[.int .i64 1, .int .i64 0] 29)).alloc (.cells #[.int .i64 0, .int .i64 0] 29) = W0 at *
      have HAX : Hid (AR w W0.drew B bm n x t out c1 g 0 0) := HAM.out.below hbm ((Below.refl _ _).drew)
      refine wp_region_held_drew (S := fun X => X.cell? ⟨w.heap.size, 0, none⟩ = some (.int .i64 c1) ∧ X.cell? ⟨B, 1, none⟩ = some (.slice (some ⟨bb, bo, none⟩) t.nb x.bc) ∧ X.cell? ⟨B, 2, none⟩ = some (.slice (some ⟨rb, ro, none⟩) t.nr x.rc) ∧ X.cell? ⟨bb, bo + c0 * 2, none⟩ = some (.int .i64 ba) ∧ X.cell? ⟨bb, bo + c0 * 2 + 1, none⟩ = some (.int .i64 bz) ∧ X.cell? ⟨rb, ro, none⟩ = some (.int .i64 ra) ∧ X.cell? ⟨rb, ro + 1, none⟩ = some (.int .i64 rz)) (by kernel_rfl) (HC4.out _ HAX.out) (fun hS => ?_)
      generalize W0.drew = X at *
      refine tH 0 (oi := ⟨_, _, _, _, _, _⟩) (v := .pointer (some ⟨B, 0, none⟩)) rfl (by kernel_rfl) (by rfl) (fun _ _ _ h => h) hS ?_ ?_
      · rintro W' ⟨s0, s1, s2, s3, s4, s5, s6⟩; go_simp
      try simp only [Act.put, putA, putZ, putS]
      refine tH 1 (oi := ⟨_, _, _, _, _, _⟩) (v := .pointer (some ⟨B, 0, none⟩)) rfl (by kernel_rfl) (by rfl) (fun _ _ _ h => h) hS ?_ ?_
      · rintro W' ⟨s0, s1, s2, s3, s4, s5, s6⟩; go_simp
      try simp only [Act.put, putA, putZ, putS]
      refine tH 2 (oi := ⟨_, _, _, _, _, _⟩) (v := .pointer (some ⟨B, 0, none⟩)) rfl (by kernel_rfl) (by rfl) (fun _ _ _ h => h) hS ?_ ?_
      · rintro W' ⟨s0, s1, s2, s3, s4, s5, s6⟩; go_simp
      try simp only [Act.put, putA, putZ, putS]
      refine tH 3 (oi := ⟨_, _, _, _, _, _⟩) (v := .pointer (some ⟨B, 2, none⟩)) rfl (by kernel_rfl) (by rfl) (fun _ _ _ h => h) hS ?_ ?_
      · rintro W' ⟨s0, s1, s2, s3, s4, s5, s6⟩; go_simp
      try simp only [Act.put, putA, putZ, putS]
      refine tH 4 (oi := ⟨_, _, _, _, _, _⟩) (v := .slice (some ⟨rb, ro, none⟩) t.nr x.rc) rfl (by kernel_rfl) (by rfl) (fun _ _ _ h => h) hS ?_ ?_
      · rintro W' ⟨s0, s1, s2, s3, s4, s5, s6⟩; go_simp
      try simp only [Act.put, putA, putZ, putS]
      refine tH 5 (oi := ⟨_, _, _, _, _, _⟩) (v := .pointer (some ⟨rb, ro, none⟩)) rfl (by kernel_rfl) (by rfl) (fun _ _ _ h => h) hS ?_ ?_
      · rintro W' ⟨s0, s1, s2, s3, s4, s5, s6⟩; go_simp
      try simp only [Act.put, putA, putZ, putS]
      refine tH 6 (oi := ⟨_, _, _, _, _, _⟩) (v := .agg #[.int .i64 ra, .int .i64 rz]) rfl (by kernel_rfl) (by rfl) (fun _ _ _ h => h) hS ?_ ?_
      · rintro W' ⟨s0, s1, s2, s3, s4, s5, s6⟩; go_simp
      try simp only [Act.put, putA, putZ, putS]
      refine tH 7 (oi := ⟨_, _, _, _, _, _⟩) (v := .pointer (some ⟨B, 0, none⟩)) rfl (by kernel_rfl) (by rfl) (fun _ _ _ h => h) hS ?_ ?_
      · rintro W' ⟨s0, s1, s2, s3, s4, s5, s6⟩; go_simp
      try simp only [Act.put, putA, putZ, putS]
      refine tH 8 (oi := ⟨_, _, _, _, _, _⟩) (v := .pointer (some ⟨B, 0, none⟩)) rfl (by kernel_rfl) (by rfl) (fun _ _ _ h => h) hS ?_ ?_
      · rintro W' ⟨s0, s1, s2, s3, s4, s5, s6⟩; go_simp
      try simp only [Act.put, putA, putZ, putS]
      refine tH 9 (oi := ⟨_, _, _, _, _, _⟩) (v := .pointer (some ⟨B, 0, none⟩)) rfl (by kernel_rfl) (by rfl) (fun _ _ _ h => h) hS ?_ ?_
      · rintro W' ⟨s0, s1, s2, s3, s4, s5, s6⟩; go_simp
      try simp only [Act.put, putA, putZ, putS]
      refine tH 10 (oi := ⟨_, _, _, _, _, _⟩) (v := .pointer (some ⟨B, 1, none⟩)) rfl (by kernel_rfl) (by rfl) (fun _ _ _ h => h) hS ?_ ?_
      · rintro W' ⟨s0, s1, s2, s3, s4, s5, s6⟩; go_simp
      try simp only [Act.put, putA, putZ, putS]
      refine tH 11 (oi := ⟨_, _, _, _, _, _⟩) (v := .slice (some ⟨bb, bo, none⟩) t.nb x.bc) rfl (by kernel_rfl) (by rfl) (fun _ _ _ h => h) hS ?_ ?_
      · rintro W' ⟨s0, s1, s2, s3, s4, s5, s6⟩; go_simp
      try simp only [Act.put, putA, putZ, putS]
      refine tH 12 (oi := ⟨_, _, _, _, _, _⟩) (v := .pointer (some ⟨w.heap.size, 0, none⟩)) rfl (by kernel_rfl) (by rfl) (fun _ _ _ h => h) hS ?_ ?_
      · rintro W' ⟨s0, s1, s2, s3, s4, s5, s6⟩; go_simp
      try simp only [Act.put, putA, putZ, putS]
      refine tH 13 (oi := ⟨_, _, _, _, _, _⟩) (v := .int .i64 c1) rfl (by kernel_rfl) (by rfl) (fun _ _ _ h => h) hS ?_ ?_
      · rintro W' ⟨s0, s1, s2, s3, s4, s5, s6⟩; go_simp
      try simp only [Act.put, putA, putZ, putS]
      refine tH 14 (oi := ⟨_, _, _, _, _, _⟩) (v := .int .i64 ((c1 : Int) - 1)) rfl (by kernel_rfl) (by rfl) (fun _ _ _ h => h) hS ?_ ?_
      · rintro W' ⟨s0, s1, s2, s3, s4, s5, s6⟩; go_simp
      try simp only [Act.put, putA, putZ, putS]
      refine tH 15 (oi := ⟨_, _, _, _, _, _⟩) (v := .pointer (some ⟨bb, bo + c0 * 2, none⟩)) rfl (by kernel_rfl) (by rfl) (fun _ _ _ h => h) hS ?_ ?_
      · rintro W' ⟨s0, s1, s2, s3, s4, s5, s6⟩; go_simp
      try simp only [Act.put, putA, putZ, putS]
      refine tH 16 (oi := ⟨_, _, _, _, _, _⟩) (v := .agg #[.int .i64 ba, .int .i64 bz]) rfl (by kernel_rfl) (by rfl) (fun _ _ _ h => h) hS ?_ ?_
      · rintro W' ⟨s0, s1, s2, s3, s4, s5, s6⟩; go_simp
      try simp only [Act.put, putA, putZ, putS]
      refine wpAnyH_ready (rs := [17]) (by kernel_rfl) (by simp) ?_
      refine AllReadyH.cons (o := ⟨some 30, _, _, _, _, _⟩) rfl (fun K hK => ?_) AllReadyH.nil
      go_simp
      refine (living_any ra rz ba bz X hra0 hra1 hrz0 hrz1 hba0 hba1 hbz0 hbz1).mono ?_
      rintro _ X0 ⟨rfl, hb0⟩
      (try go_wp2_with fail)
      have HA0 := Lib.hid (HAX.out.below hbm hb0)
      refine hK.out _ _ (HC4.out _ HA0.out) (fun hS => ?_)
      clear hK K
      try simp only [Act.put, putA, putZ, putS]
      clear hb0
      refine wpAnyH_ready (rs := [18]) (by kernel_rfl) (by simp) ?_
      refine AllReadyH.cons (o := ⟨none, _, _, _, _, _⟩) rfl (fun K hK => ?_) AllReadyH.nil
      have eb := HA0.out.r
      have e0 := cell_of_row _ _ 0 _ _ _ eb
      have e1 := cell_of_row _ _ 1 _ _ _ eb
      have f0 := frozen_of_row _ _ 0 _ _ eb
      have f1 := frozen_of_row _ _ 1 _ _ eb
      have HA1 := Lib.hid (AR.setR HSW.out HA0.out (fewestR (ra, rz) ba) (mostR (ra, rz) bz))
      clear eb
      go_simp
      refine hK.out _ _ (HC4.out _ HA1.out) (fun hS => ?_)
      clear hK K
      (try simp only [Act.put])
      clear e0 e1 f0 f1
      refine wpAnyH_done (by kernel_rfl) ?_ _
      go_wp2_with fail
      go_meet
      exact ⟨(fewestR (ra, rz) ba), (mostR (ra, rz) bz), ⟨rfl, rfl, rfl, rfl⟩, HA1.out, HR0.out⟩
    · have HR1 := Lib.hid (HR1'.out g0)
      have hgp : ((g : Int) == 0) = false := by simpa using g0
      go_wp2_with fail
      rw [show w.heap.size + 1 + 1 + 1 = w.heap.size + 3 from rfl, show w.heap.size + 1 + 1 = w.heap.size + 2 from rfl]
      go_meet
      exact ⟨0, 0, ⟨rfl, rfl, rfl, rfl⟩, HAM.out, HR1.out⟩
  case rest =>
    obtain ⟨a, b, ⟨rfl, rfl, rfl, rfl⟩, har, he⟩ := hcut
    have HA0 := Lib.hid har
    have HE0 := Lib.hid he
    clear har he HAM HR0' HR1' hba0 hba1 hbz0 hbz1 hra0 hra1 hrz0 hrz1 HC4 HCB wc1 hcn hcl htn htn2 hrl hc1p
    have k0 : wc.cell? ⟨w.heap.size, 0, none⟩ = some (.int .i64 c1) := cell_of_row _ _ 0 _ _ _ HA0.out.k
    have k1 : wc.cell? ⟨w.heap.size, 1, none⟩ = some (.int .i64 g) := cell_of_row _ _ 1 _ _ _ HA0.out.k
    go_wp2_with (go_at_call 95; refine (HSO.out _ _ _ _ HA0.out).mono ?_; rintro _ w1 ⟨v, rfl, ho1, hb1⟩; have HO1 := Lib.hid ho1; have HA1 := Lib.hid (HA0.out.below hbm hb1); clear ho1 hb1 k0 k1; obtain ⟨va, vc, rfl⟩ := own_slice' HO1.out)
    clear HSO
    go_loopw [35] (fun i wr => ∃ (k : Nat) (a b : Int), k ≤ l.length ∧ i = .int .i64 k ∧ AR w wr B bm (n + k * (2 * M)) x t out c1 g a b ∧ accR t g (t.up out c0) (arr0 t c0 g) k = (a, b) ∧ (∀ j (hj : j < (srcG t g).length), j < k → emptyR (t.up out c0 (srcG t g)[j]) = false) ∧ wr.ownsRow 0 39 2 (.slice va l.length vc) l.length (flat l)) (fun i _ => l.length - (intOf i).toNat)
    case atStart => exact ⟨0, a, b, Nat.zero_le _, rfl, by rw [Nat.zero_mul]; exact HA1.out, by rw [accR_zero]; exact HE0.out, fun j _ h => absurd h (Nat.not_lt_zero _), HO1.out⟩
    case round =>
      clear HE0 HA0 HO1 HA1
      obtain ⟨k, a, b, hk, rfl, har, hac, hem, how⟩ := hrel
      have HAR := Lib.hid har; have HAC := Lib.hid hac; have HEM := Lib.hid hem; have HOW := Lib.hid how
      have hab := HBD.out k hk hem
      rw [hac] at hab
      simp only at hab
      obtain ⟨hab0, hab1, hab2, hab3⟩ := hab
      clear har hac hem how
      by_cases hlt : k < l.length
      · obtain ⟨q, hqk, hq, hlk⟩ := HAT.out k hlt
        obtain ⟨gb, rfl, hgb, kc0, kc1⟩ := cells_at HOW.out hlt
        rw [hlk] at kc0 kc1
        simp only at kc0 kc1
        have hqn : q < t.ng := by rw [← hq]; exact srcG_lt hg hqk
        have hM : n + k * (2 * M) + M + M ≤ 90000 := by
          have h1 : (k + 1) * (2 * M) ≤ 2 * (2 * M) := Nat.mul_le_mul_right _ (by omega)
          have h2 := HN4.out
          rw [Nat.succ_mul] at h1; omega
        have HMS : Hid (n + k * (2 * M) + M + M = n + (k + 1) * (2 * M)) := by
          have h1 : (k + 1) * (2 * M) = k * (2 * M) + 2 * M := Nat.succ_mul k (2 * M)
          unfold Hid; omega
        have HU : Hid (∀ X, St X B bm (n + k * (2 * M)) x t out → Calls Try.prog 61 #[.pointer (some ⟨B, 0, none⟩), .agg #[.int .i64 c0, .int .i64 q]] X (GivesR X B bm (n + k * (2 * M) + M) x t out (t.up out c0 q))) := fun X h => HUP.out _ X q hqn (by omega) h
        obtain ⟨ua, ub, hu⟩ : ∃ ua ub, t.up out c0 q = (ua, ub) := ⟨_, _, rfl⟩
        have HUQ := Lib.hid hu
        have HSV : Hid (emptyR (ua, ub) = false → ∃ la lb, livingR (t.r (q + 1)) (t.up out c0 q) = (la, lb) ∧ (-1 ≤ la ∧ la ≤ 1048576 ∧ 0 ≤ lb ∧ lb ≤ 1048576) ∧ ∀ X, St X B bm (n + k * (2 * M) + M) x t out → Calls Try.prog 96 #[.pointer (some ⟨B, 0, none⟩), .agg #[.int .i64 c0, .int .i64 q]] X (GivesR X B bm (n + k * (2 * M) + M + M) x t out (la, lb))) := fun he => by
          rw [← hu] at he
          have f := up_full he
          have f2 := full_bd he
          have hrq := HRR.out (q + 1) (by have := HNR.out; omega)
          have hli := living_bd hrq f2.1 f2.2
          have hrb := inside_bd hrq
          exact ⟨_, _, rfl, hli, fun X hX => survivors_of B bm _ _ x t out c0 q HS.out (by have := HNR.out; omega) (by omega) f (fun W hW => HUP.out _ W q hqn (by omega) hW) X hX⟩
        clear hu hlk hM hqn
        rw [HUQ.out] at HU
        unfold GivesR at HU HSV
        simp only at HU HSV
        have hE4 : w.heap.size + 4 ≤ wr.heap.size := HAR.out.sz
        have HAE := Lib.hid (HAR.out.below hbm (below_alloc wr (.cells #[.int .i64 c0, .int .i64 q] 39)))
        have HEE : Hid ((wr.alloc (.cells #[.int .i64 c0, .int .i64 q] 39)).heap[wr.heap.size]? = some (.cells #[.int .i64 c0, .int .i64 q] 39 (0, 0))) := heap_alloc_new _ _
        have HOE : Hid ((wr.alloc (.cells #[.int .i64 c0, .int .i64 q] 39)).ownsRow 0 39 2 (.slice (some ⟨gb, 0, none⟩) l.length vc) l.length (flat l)) := HOW.out.alloc _
        cases hem : emptyR (ua, ub)
        · obtain ⟨la, lb, hlv, ⟨hla0, hla1, hlb0, hlb1⟩, hsv⟩ := HSV.out hem
          have HLV := Lib.hid hlv; have HSQ := Lib.hid hsv
          clear hlv hsv
          go_wp2_with (first | (go_at_call 61; refine (HU.out _ HAE.out.st).mono ?_; rintro _ w2 ⟨rfl, hs2, hf2⟩; have HA2 := Lib.hid (HAE.out.go hbm hf2 hs2); have HF2 := Lib.hid hf2; clear hs2 hf2) | (go_at_call 74; refine (empty_any _ _ _).mono ?_; rw [hem]; rintro _ w3 ⟨rfl, hb3⟩))
          have HEX : Hid (w3.drew.heap[wr.heap.size]? = some (.cells #[.int .i64 c0, .int .i64 q] 39 (0, 0))) := by
            have h1 : w2.heap[wr.heap.size]? = _ := (HF2.out.block _ (Array.getElem?_eq_some_iff.1 HEE.out).1 (show ¬ wr.heap.size = bm by omega)).trans HEE.out
            exact (hb3.block _ (Array.getElem?_eq_some_iff.1 h1).1).trans h1
          have HLX : Hid (w3.drew.ownsRow 0 39 2 (.slice (some ⟨gb, 0, none⟩) l.length vc) l.length (flat l)) := by
            have h1 : w2.ownsRow 0 39 2 (.slice (some ⟨gb, 0, none⟩) l.length vc) l.length (flat l) := own_fr HOE.out HF2.out (fun g' cur _ _ hc e => by subst e; obtain ⟨es, kk, hm⟩ := HAE.out.st.cm.mp; rw [hm] at hc; cases hc)
            exact own_fr h1 (Fr.below hb3.drew (fun _ => False)) (fun _ _ _ _ _ h => h)
          have HAX : Hid (AR w w3.drew B bm (n + k * (2 * M) + M) x t out c1 g a b) := HA2.out.below hbm (hb3.drew)
          clear hb3 HOE HEE HAE HOW HAR HF2 HA2 kc0 kc1 hgb
          refine wp_region_held_drew (S := fun _ => True) (by kernel_rfl) trivial (fun hS => ?_)
          generalize w3.drew = X at *
          refine tH 1 (oi := ⟨_, _, _, _, _, _⟩) (v := .pointer (some ⟨B, 0, none⟩)) rfl (by kernel_rfl) (by rfl) (fun _ _ _ h => h) hS ?_ ?_
          · intro W' hSw; go_simp
          try simp only [Act.put, putA, putZ, putS]
          refine wpAnyH_ready (rs := [0, 2]) (by kernel_rfl) (by simp) ?_
          refine AllReadyH.cons (o := ⟨some 44, _, _, _, _, _⟩) rfl (fun K hK => ?_) ?_
          ·
            have r0 := cell_of_row _ _ 0 _ _ _ HAX.out.r
            have r1 := cell_of_row _ _ 1 _ _ _ HAX.out.r
            go_simp
            refine hK.out _ _ (trivial) (fun hS => ?_)
            clear hK K
            try simp only [Act.put, putA, putZ, putS]
            clear r0 r1
            refine wpAnyH_ready (rs := [2]) (by kernel_rfl) (by simp) ?_
            refine AllReadyH.cons (o := ⟨some 46, _, _, _, _, _⟩) rfl (fun K hK => ?_) AllReadyH.nil
            have r0 := cell_of_row _ _ 0 _ _ _ HEX.out
            have r1 := cell_of_row _ _ 1 _ _ _ HEX.out
            go_simp
            refine hK.out _ _ (trivial) (fun hS => ?_)
            clear hK K
            try simp only [Act.put, putA, putZ, putS]
            clear r0 r1
            refine wpAnyH_ready (rs := [3]) (by kernel_rfl) (by simp) ?_
            refine AllReadyH.cons (o := ⟨some 47, _, _, _, _, _⟩) rfl (fun K hK => ?_) AllReadyH.nil
            go_simp
            refine (HSQ.out X HAX.out.st).mono ?_
            rintro _ X2 ⟨rfl, hs2, hf2⟩
            (try go_wp2_with fail)
            have HE2 : Hid (X2.heap[wr.heap.size]? = some (.cells #[.int .i64 c0, .int .i64 q] 39 (0, 0))) := ((hf2).block _ (Array.getElem?_eq_some_iff.1 HEX.out).1 (show ¬ wr.heap.size = bm by omega)).trans HEX.out
            have HL2 : Hid (X2.ownsRow 0 39 2 (.slice (some ⟨gb, 0, none⟩) l.length vc) l.length (flat l)) := own_fr HLX.out (hf2) (fun g' cur _ _ hc e => by subst e; obtain ⟨es, kk, hm⟩ := HAX.out.st.cm.mp; rw [hm] at hc; cases hc)
            have HA2 := Lib.hid (HAX.out.go hbm hf2 hs2)
            refine hK.out _ _ (trivial) (fun hS => ?_)
            clear hK K
            try simp only [Act.put, putA, putZ, putS]
            clear hf2 hs2
            refine wpAnyH_ready (rs := [4]) (by kernel_rfl) (by simp) ?_
            refine AllReadyH.cons (o := ⟨some 48, _, _, _, _, _⟩) rfl (fun K hK => ?_) AllReadyH.nil
            go_simp
            refine (plus_any a b la lb X2 (by omega) (by omega) (by omega) (by omega)).mono ?_
            rintro _ X3 ⟨rfl, hb3⟩
            (try go_wp2_with fail)
            have HE3 : Hid (X3.heap[wr.heap.size]? = some (.cells #[.int .i64 c0, .int .i64 q] 39 (0, 0))) := ((Fr.below hb3 (fun q => q = bm)).block _ (Array.getElem?_eq_some_iff.1 HE2.out).1 (show ¬ wr.heap.size = bm by omega)).trans HE2.out
            have HL3 : Hid (X3.ownsRow 0 39 2 (.slice (some ⟨gb, 0, none⟩) l.length vc) l.length (flat l)) := own_fr HL2.out (Fr.below hb3 (fun q => q = bm)) (fun g' cur _ _ hc e => by subst e; obtain ⟨es, kk, hm⟩ := HA2.out.st.cm.mp; rw [hm] at hc; cases hc)
            have HA3 := Lib.hid (HA2.out.below hbm hb3)
            refine hK.out _ _ (trivial) (fun hS => ?_)
            clear hK K
            try simp only [Act.put, putA, putZ, putS]
            clear hb3
            refine wpAnyH_ready (rs := [5]) (by kernel_rfl) (by simp) ?_
            refine AllReadyH.cons (o := ⟨none, _, _, _, _, _⟩) rfl (fun K hK => ?_) AllReadyH.nil
            have HLS : Hid ((X3.setCell ⟨w.heap.size + 3, 0, none⟩ (.int .i64 (a + la))).setCell ⟨w.heap.size + 3, 1, none⟩ (.int .i64 (b + lb)) |>.ownsRow 0 39 2 (.slice (some ⟨gb, 0, none⟩) l.length vc) l.length (flat l)) := own_fr HL3.out (set2 HA3.out.r _ _).2 (fun g' cur _ _ hc e => by subst e; rw [HA3.out.r] at hc; cases hc)
            have eb := HA3.out.r
            have e0 := cell_of_row _ _ 0 _ _ _ eb
            have e1 := cell_of_row _ _ 1 _ _ _ eb
            have f0 := frozen_of_row _ _ 0 _ _ eb
            have f1 := frozen_of_row _ _ 1 _ _ eb
            have HA4 := Lib.hid (AR.setR HSW.out HA3.out (a + la) (b + lb))
            clear eb
            go_simp
            refine hK.out _ _ (trivial) (fun hS => ?_)
            clear hK K
            (try simp only [Act.put])
            clear e0 e1 f0 f1
            refine wpAnyH_done (by kernel_rfl) ?_ _
            go_wp2_with fail
            go_roundw
            case rel => exact ⟨k + 1, a + la, b + lb, by omega, by go_num, by rw [← HMS.out]; exact HA4.out, by rw [accR_succ hqk, HAC.out, hq, HLV.out]; rfl, fun j hj hjk => by rcases Nat.lt_succ_iff_lt_or_eq.1 hjk with h | rfl; exact HEM.out j hj h; rw [hq, HUQ.out, hem], HLS.out⟩
            case measure => simp [intOf]; omega
          refine AllReadyH.cons (o := ⟨some 46, _, _, _, _, _⟩) rfl (fun K hK => ?_) AllReadyH.nil
          have r0 := cell_of_row _ _ 0 _ _ _ HEX.out
          have r1 := cell_of_row _ _ 1 _ _ _ HEX.out
          go_simp
          refine hK.out _ _ (trivial) (fun hS => ?_)
          clear hK K
          try simp only [Act.put, putA, putZ, putS]
          clear r0 r1
          refine wpAnyH_ready (rs := [0, 3]) (by kernel_rfl) (by simp) ?_
          refine AllReadyH.cons (o := ⟨some 44, _, _, _, _, _⟩) rfl (fun K hK => ?_) ?_
          ·
            have r0 := cell_of_row _ _ 0 _ _ _ HAX.out.r
            have r1 := cell_of_row _ _ 1 _ _ _ HAX.out.r
            go_simp
            refine hK.out _ _ (trivial) (fun hS => ?_)
            clear hK K
            try simp only [Act.put, putA, putZ, putS]
            clear r0 r1
            refine wpAnyH_ready (rs := [3]) (by kernel_rfl) (by simp) ?_
            refine AllReadyH.cons (o := ⟨some 47, _, _, _, _, _⟩) rfl (fun K hK => ?_) AllReadyH.nil
            go_simp
            refine (HSQ.out X HAX.out.st).mono ?_
            rintro _ X7 ⟨rfl, hs7, hf7⟩
            (try go_wp2_with fail)
            have HE7 : Hid (X7.heap[wr.heap.size]? = some (.cells #[.int .i64 c0, .int .i64 q] 39 (0, 0))) := ((hf7).block _ (Array.getElem?_eq_some_iff.1 HEX.out).1 (show ¬ wr.heap.size = bm by omega)).trans HEX.out
            have HL7 : Hid (X7.ownsRow 0 39 2 (.slice (some ⟨gb, 0, none⟩) l.length vc) l.length (flat l)) := own_fr HLX.out (hf7) (fun g' cur _ _ hc e => by subst e; obtain ⟨es, kk, hm⟩ := HAX.out.st.cm.mp; rw [hm] at hc; cases hc)
            have HA7 := Lib.hid (HAX.out.go hbm hf7 hs7)
            refine hK.out _ _ (trivial) (fun hS => ?_)
            clear hK K
            try simp only [Act.put, putA, putZ, putS]
            clear hf7 hs7
            refine wpAnyH_ready (rs := [4]) (by kernel_rfl) (by simp) ?_
            refine AllReadyH.cons (o := ⟨some 48, _, _, _, _, _⟩) rfl (fun K hK => ?_) AllReadyH.nil
            go_simp
            refine (plus_any a b la lb X7 (by omega) (by omega) (by omega) (by omega)).mono ?_
            rintro _ X8 ⟨rfl, hb8⟩
            (try go_wp2_with fail)
            have HE8 : Hid (X8.heap[wr.heap.size]? = some (.cells #[.int .i64 c0, .int .i64 q] 39 (0, 0))) := ((Fr.below hb8 (fun q => q = bm)).block _ (Array.getElem?_eq_some_iff.1 HE7.out).1 (show ¬ wr.heap.size = bm by omega)).trans HE7.out
            have HL8 : Hid (X8.ownsRow 0 39 2 (.slice (some ⟨gb, 0, none⟩) l.length vc) l.length (flat l)) := own_fr HL7.out (Fr.below hb8 (fun q => q = bm)) (fun g' cur _ _ hc e => by subst e; obtain ⟨es, kk, hm⟩ := HA7.out.st.cm.mp; rw [hm] at hc; cases hc)
            have HA8 := Lib.hid (HA7.out.below hbm hb8)
            refine hK.out _ _ (trivial) (fun hS => ?_)
            clear hK K
            try simp only [Act.put, putA, putZ, putS]
            clear hb8
            refine wpAnyH_ready (rs := [5]) (by kernel_rfl) (by simp) ?_
            refine AllReadyH.cons (o := ⟨none, _, _, _, _, _⟩) rfl (fun K hK => ?_) AllReadyH.nil
            have HLS : Hid ((X8.setCell ⟨w.heap.size + 3, 0, none⟩ (.int .i64 (a + la))).setCell ⟨w.heap.size + 3, 1, none⟩ (.int .i64 (b + lb)) |>.ownsRow 0 39 2 (.slice (some ⟨gb, 0, none⟩) l.length vc) l.length (flat l)) := own_fr HL8.out (set2 HA8.out.r _ _).2 (fun g' cur _ _ hc e => by subst e; rw [HA8.out.r] at hc; cases hc)
            have eb := HA8.out.r
            have e0 := cell_of_row _ _ 0 _ _ _ eb
            have e1 := cell_of_row _ _ 1 _ _ _ eb
            have f0 := frozen_of_row _ _ 0 _ _ eb
            have f1 := frozen_of_row _ _ 1 _ _ eb
            have HA9 := Lib.hid (AR.setR HSW.out HA8.out (a + la) (b + lb))
            clear eb
            go_simp
            refine hK.out _ _ (trivial) (fun hS => ?_)
            clear hK K
            (try simp only [Act.put])
            clear e0 e1 f0 f1
            refine wpAnyH_done (by kernel_rfl) ?_ _
            go_wp2_with fail
            go_roundw
            case rel => exact ⟨k + 1, a + la, b + lb, by omega, by go_num, by rw [← HMS.out]; exact HA9.out, by rw [accR_succ hqk, HAC.out, hq, HLV.out]; rfl, fun j hj hjk => by rcases Nat.lt_succ_iff_lt_or_eq.1 hjk with h | rfl; exact HEM.out j hj h; rw [hq, HUQ.out, hem], HLS.out⟩
            case measure => simp [intOf]; omega
          refine AllReadyH.cons (o := ⟨some 47, _, _, _, _, _⟩) rfl (fun K hK => ?_) AllReadyH.nil
          go_simp
          refine (HSQ.out X HAX.out.st).mono ?_
          rintro _ X10 ⟨rfl, hs10, hf10⟩
          (try go_wp2_with fail)
          have HE10 : Hid (X10.heap[wr.heap.size]? = some (.cells #[.int .i64 c0, .int .i64 q] 39 (0, 0))) := ((hf10).block _ (Array.getElem?_eq_some_iff.1 HEX.out).1 (show ¬ wr.heap.size = bm by omega)).trans HEX.out
          have HL10 : Hid (X10.ownsRow 0 39 2 (.slice (some ⟨gb, 0, none⟩) l.length vc) l.length (flat l)) := own_fr HLX.out (hf10) (fun g' cur _ _ hc e => by subst e; obtain ⟨es, kk, hm⟩ := HAX.out.st.cm.mp; rw [hm] at hc; cases hc)
          have HA10 := Lib.hid (HAX.out.go hbm hf10 hs10)
          refine hK.out _ _ (trivial) (fun hS => ?_)
          clear hK K
          try simp only [Act.put, putA, putZ, putS]
          clear hf10 hs10
          refine wpAnyH_ready (rs := [0]) (by kernel_rfl) (by simp) ?_
          refine AllReadyH.cons (o := ⟨some 44, _, _, _, _, _⟩) rfl (fun K hK => ?_) AllReadyH.nil
          have r0 := cell_of_row _ _ 0 _ _ _ HA10.out.r
          have r1 := cell_of_row _ _ 1 _ _ _ HA10.out.r
          go_simp
          refine hK.out _ _ (trivial) (fun hS => ?_)
          clear hK K
          try simp only [Act.put, putA, putZ, putS]
          clear r0 r1
          refine wpAnyH_ready (rs := [4]) (by kernel_rfl) (by simp) ?_
          refine AllReadyH.cons (o := ⟨some 48, _, _, _, _, _⟩) rfl (fun K hK => ?_) AllReadyH.nil
          go_simp
          refine (plus_any a b la lb X10 (by omega) (by omega) (by omega) (by omega)).mono ?_
          rintro _ X12 ⟨rfl, hb12⟩
          (try go_wp2_with fail)
          have HE12 : Hid (X12.heap[wr.heap.size]? = some (.cells #[.int .i64 c0, .int .i64 q] 39 (0, 0))) := ((Fr.below hb12 (fun q => q = bm)).block _ (Array.getElem?_eq_some_iff.1 HE10.out).1 (show ¬ wr.heap.size = bm by omega)).trans HE10.out
          have HL12 : Hid (X12.ownsRow 0 39 2 (.slice (some ⟨gb, 0, none⟩) l.length vc) l.length (flat l)) := own_fr HL10.out (Fr.below hb12 (fun q => q = bm)) (fun g' cur _ _ hc e => by subst e; obtain ⟨es, kk, hm⟩ := HA10.out.st.cm.mp; rw [hm] at hc; cases hc)
          have HA12 := Lib.hid (HA10.out.below hbm hb12)
          refine hK.out _ _ (trivial) (fun hS => ?_)
          clear hK K
          try simp only [Act.put, putA, putZ, putS]
          clear hb12
          refine wpAnyH_ready (rs := [5]) (by kernel_rfl) (by simp) ?_
          refine AllReadyH.cons (o := ⟨none, _, _, _, _, _⟩) rfl (fun K hK => ?_) AllReadyH.nil
          have HLS : Hid ((X12.setCell ⟨w.heap.size + 3, 0, none⟩ (.int .i64 (a + la))).setCell ⟨w.heap.size + 3, 1, none⟩ (.int .i64 (b + lb)) |>.ownsRow 0 39 2 (.slice (some ⟨gb, 0, none⟩) l.length vc) l.length (flat l)) := own_fr HL12.out (set2 HA12.out.r _ _).2 (fun g' cur _ _ hc e => by subst e; rw [HA12.out.r] at hc; cases hc)
          have eb := HA12.out.r
          have e0 := cell_of_row _ _ 0 _ _ _ eb
          have e1 := cell_of_row _ _ 1 _ _ _ eb
          have f0 := frozen_of_row _ _ 0 _ _ eb
          have f1 := frozen_of_row _ _ 1 _ _ eb
          have HA13 := Lib.hid (AR.setR HSW.out HA12.out (a + la) (b + lb))
          clear eb
          go_simp
          refine hK.out _ _ (trivial) (fun hS => ?_)
          clear hK K
          (try simp only [Act.put])
          clear e0 e1 f0 f1
          refine wpAnyH_done (by kernel_rfl) ?_ _
          go_wp2_with fail
          go_roundw
          case rel => exact ⟨k + 1, a + la, b + lb, by omega, by go_num, by rw [← HMS.out]; exact HA13.out, by rw [accR_succ hqk, HAC.out, hq, HLV.out]; rfl, fun j hj hjk => by rcases Nat.lt_succ_iff_lt_or_eq.1 hjk with h | rfl; exact HEM.out j hj h; rw [hq, HUQ.out, hem], HLS.out⟩
          case measure => simp [intOf]; omega
        · go_wp2_with (first | (go_at_call 61; refine (HU.out _ HAE.out.st).mono ?_; rintro _ w2 ⟨rfl, hs2, hf2⟩; have HA2 := Lib.hid (HAE.out.go hbm hf2 hs2); have HF2 := Lib.hid hf2; clear hs2 hf2) | (go_at_call 74; refine (empty_any _ _ _).mono ?_; rw [hem]; rintro _ w3 ⟨rfl, hb3⟩; have HA3 := Lib.hid (HA2.out.below hbm hb3); have n0 := cell_of_row _ _ 0 _ _ _ HA3.out.n; have n1 := cell_of_row _ _ 1 _ _ _ HA3.out.n; have e0 := cell_of_row _ _ 0 _ _ _ HA3.out.o; have e1 := cell_of_row _ _ 1 _ _ _ HA3.out.o; have f0 := frozen_of_row _ _ 0 _ _ HA3.out.o; have f1 := frozen_of_row _ _ 1 _ _ HA3.out.o; clear hb3))
          obtain ⟨hs5, hf5, ho5⟩ := AR.setO HSW.out HA3.out 1 0
          have c0' := cell_of_row _ _ 0 _ _ _ ho5
          have c1' := cell_of_row _ _ 1 _ _ _ ho5
          refine bodyPost_ret (v := .agg #[.int .i64 1, .int .i64 0]) (by simp [results, Try.results73, go_sem, c0', c1']) rfl ⟨by rw [HBF.out, arr_none hqk (by rw [hq, HUQ.out]; exact hem)], hs5.mono ?_, hf5⟩
          have h1 : (k + 1) * (2 * M) ≤ 2 * (2 * M) := Nat.mul_le_mul_right _ (by omega)
          have h2 := HMS.out
          omega
      · obtain rfl : k = l.length := by omega
        go_upto_region 12 with fail
        have HAX : Hid (AR w wr.drew B bm (n + l.length * (2 * M)) x t out c1 g a b) := HAR.out.below hbm ((Below.refl _ _).drew)
        clear HAR HOW
        refine wp_region_held_drew (S := fun X => X.cell? ⟨w.heap.size, 1, none⟩ = some (.int .i64 g) ∧ X.cell? ⟨w.heap.size + 3, 0, none⟩ = some (.int .i64 a) ∧ X.cell? ⟨w.heap.size + 3, 1, none⟩ = some (.int .i64 b) ∧ X.cell? ⟨B, 3, none⟩ = some (.slice (some ⟨nb, no, none⟩) t.nn x.nc) ∧ X.cell? ⟨nb, no + g * 2, none⟩ = some (.int .i64 na) ∧ X.cell? ⟨nb, no + g * 2 + 1, none⟩ = some (.int .i64 nz)) (by kernel_rfl) (HC5.out _ HAX.out) (fun hS => ?_)
        generalize wr.drew = X at *
        refine tH 0 (oi := ⟨_, _, _, _, _, _⟩) (v := .agg #[.int .i64 a, .int .i64 b]) rfl (by kernel_rfl) (by rfl) (fun _ _ _ h => h) hS ?_ ?_
        · rintro W' ⟨s0, s1, s2, s3, s4, s5⟩; go_simp
        try simp only [Act.put, putA, putZ, putS]
        refine tH 1 (oi := ⟨_, _, _, _, _, _⟩) (v := .pointer (some ⟨B, 0, none⟩)) rfl (by kernel_rfl) (by rfl) (fun _ _ _ h => h) hS ?_ ?_
        · rintro W' ⟨s0, s1, s2, s3, s4, s5⟩; go_simp
        try simp only [Act.put, putA, putZ, putS]
        refine tH 2 (oi := ⟨_, _, _, _, _, _⟩) (v := .pointer (some ⟨B, 0, none⟩)) rfl (by kernel_rfl) (by rfl) (fun _ _ _ h => h) hS ?_ ?_
        · rintro W' ⟨s0, s1, s2, s3, s4, s5⟩; go_simp
        try simp only [Act.put, putA, putZ, putS]
        refine tH 3 (oi := ⟨_, _, _, _, _, _⟩) (v := .pointer (some ⟨B, 0, none⟩)) rfl (by kernel_rfl) (by rfl) (fun _ _ _ h => h) hS ?_ ?_
        · rintro W' ⟨s0, s1, s2, s3, s4, s5⟩; go_simp
        try simp only [Act.put, putA, putZ, putS]
        refine tH 4 (oi := ⟨_, _, _, _, _, _⟩) (v := .pointer (some ⟨B, 3, none⟩)) rfl (by kernel_rfl) (by rfl) (fun _ _ _ h => h) hS ?_ ?_
        · rintro W' ⟨s0, s1, s2, s3, s4, s5⟩; go_simp
        try simp only [Act.put, putA, putZ, putS]
        refine tH 5 (oi := ⟨_, _, _, _, _, _⟩) (v := .slice (some ⟨nb, no, none⟩) t.nn x.nc) rfl (by kernel_rfl) (by rfl) (fun _ _ _ h => h) hS ?_ ?_
        · rintro W' ⟨s0, s1, s2, s3, s4, s5⟩; go_simp
        try simp only [Act.put, putA, putZ, putS]
        refine tH 6 (oi := ⟨_, _, _, _, _, _⟩) (v := .pointer (some ⟨w.heap.size, 1, none⟩)) rfl (by kernel_rfl) (by rfl) (fun _ _ _ h => h) hS ?_ ?_
        · rintro W' ⟨s0, s1, s2, s3, s4, s5⟩; go_simp
        try simp only [Act.put, putA, putZ, putS]
        refine tH 7 (oi := ⟨_, _, _, _, _, _⟩) (v := .int .i64 g) rfl (by kernel_rfl) (by rfl) (fun _ _ _ h => h) hS ?_ ?_
        · rintro W' ⟨s0, s1, s2, s3, s4, s5⟩; go_simp
        try simp only [Act.put, putA, putZ, putS]
        refine tH 8 (oi := ⟨_, _, _, _, _, _⟩) (v := .pointer (some ⟨nb, no + g * 2, none⟩)) rfl (by kernel_rfl) (by rfl) (fun _ _ _ h => h) hS ?_ ?_
        · rintro W' ⟨s0, s1, s2, s3, s4, s5⟩; go_simp
        try simp only [Act.put, putA, putZ, putS]
        refine tH 9 (oi := ⟨_, _, _, _, _, _⟩) (v := .agg #[.int .i64 na, .int .i64 nz]) rfl (by kernel_rfl) (by rfl) (fun _ _ _ h => h) hS ?_ ?_
        · rintro W' ⟨s0, s1, s2, s3, s4, s5⟩; go_simp
        try simp only [Act.put, putA, putZ, putS]
        refine tH 11 (oi := ⟨_, _, _, _, _, _⟩) (v := .agg #[.int .i64 0, .int .i64 1048576]) rfl (by kernel_rfl) (by rfl) (fun _ _ _ h => h) hS ?_ ?_
        · rintro W' ⟨s0, s1, s2, s3, s4, s5⟩; go_simp
        try simp only [Act.put, putA, putZ, putS]
        refine wpAnyH_ready (rs := [10]) (by kernel_rfl) (by simp) ?_
        refine AllReadyH.cons (o := ⟨some 60, _, _, _, _, _⟩) rfl (fun K hK => ?_) AllReadyH.nil
        go_simp
        refine (plus_any a b na nz X (by omega) (by omega) (by omega) (by omega)).mono ?_
        rintro _ X0 ⟨rfl, hb0⟩
        (try go_wp2_with fail)
        have HA0 := Lib.hid (HAX.out.below hbm hb0)
        refine hK.out _ _ (HC5.out _ HA0.out) (fun hS => ?_)
        clear hK K
        try simp only [Act.put, putA, putZ, putS]
        clear hb0
        refine wpAnyH_ready (rs := [12]) (by kernel_rfl) (by simp) ?_
        refine AllReadyH.cons (o := ⟨some 62, _, _, _, _, _⟩) rfl (fun K hK => ?_) AllReadyH.nil
        go_simp
        refine (meet_any (a + na) (b + nz) 0 1048576 X0).mono ?_
        rintro _ X1 ⟨rfl, hb1⟩
        (try go_wp2_with fail)
        have HA1 := Lib.hid (HA0.out.below hbm hb1)
        refine hK.out _ _ (HC5.out _ HA1.out) (fun hS => ?_)
        clear hK K
        try simp only [Act.put, putA, putZ, putS]
        clear hb1
        refine wpAnyH_ready (rs := [13]) (by kernel_rfl) (by simp) ?_
        refine AllReadyH.cons (o := ⟨none, _, _, _, _, _⟩) rfl (fun K hK => ?_) AllReadyH.nil
        have eb := HA1.out.o
        have e0 := cell_of_row _ _ 0 _ _ _ eb
        have e1 := cell_of_row _ _ 1 _ _ _ eb
        have f0 := frozen_of_row _ _ 0 _ _ eb
        have f1 := frozen_of_row _ _ 1 _ _ eb
        obtain ⟨hs5, hf5, ho5⟩ := AR.setO HSW.out HA1.out (max (a + na) 0) (min (b + nz) 1048576)
        have HS5 := Lib.hid hs5; have HF5 := Lib.hid hf5; have HO5 := Lib.hid ho5
        clear hs5 hf5 ho5
        have HQ : Hid (((X1.setCell ⟨w.heap.size + 1, 0, none⟩ (.int .i64 (max (a + na) 0))).setCell ⟨w.heap.size + 1, 1, none⟩ (.int .i64 (min (b + nz) 1048576))).cell? ⟨w.heap.size, 1, none⟩ = some (.int .i64 g) ∧ ((X1.setCell ⟨w.heap.size + 1, 0, none⟩ (.int .i64 (max (a + na) 0))).setCell ⟨w.heap.size + 1, 1, none⟩ (.int .i64 (min (b + nz) 1048576))).cell? ⟨w.heap.size + 3, 0, none⟩ = some (.int .i64 a) ∧ ((X1.setCell ⟨w.heap.size + 1, 0, none⟩ (.int .i64 (max (a + na) 0))).setCell ⟨w.heap.size + 1, 1, none⟩ (.int .i64 (min (b + nz) 1048576))).cell? ⟨w.heap.size + 3, 1, none⟩ = some (.int .i64 b) ∧ ((X1.setCell ⟨w.heap.size + 1, 0, none⟩ (.int .i64 (max (a + na) 0))).setCell ⟨w.heap.size + 1, 1, none⟩ (.int .i64 (min (b + nz) 1048576))).cell? ⟨B, 3, none⟩ = some (.slice (some ⟨nb, no, none⟩) t.nn x.nc) ∧ ((X1.setCell ⟨w.heap.size + 1, 0, none⟩ (.int .i64 (max (a + na) 0))).setCell ⟨w.heap.size + 1, 1, none⟩ (.int .i64 (min (b + nz) 1048576))).cell? ⟨nb, no + g * 2, none⟩ = some (.int .i64 na) ∧ ((X1.setCell ⟨w.heap.size + 1, 0, none⟩ (.int .i64 (max (a + na) 0))).setCell ⟨w.heap.size + 1, 1, none⟩ (.int .i64 (min (b + nz) 1048576))).cell? ⟨nb, no + g * 2 + 1, none⟩ = some (.int .i64 nz)) := by
          obtain ⟨s0, s1, s2, s3, s4, s5⟩ := hS
          refine ⟨?_, ?_, ?_, ?_, ?_, ?_⟩ <;> (rw [World.cell?_setCell_far, World.cell?_setCell_far] <;> first | assumption | (simp <;> omega))
        clear eb
        go_simp
        refine hK.out _ _ (HQ.out) (fun hS => ?_)
        clear hK K
        (try simp only [Act.put])
        clear e0 e1 f0 f1
        refine wpAnyH_done (by kernel_rfl) ?_ _
        go_wp2_with fail
        have c0' := cell_of_row _ _ 0 _ _ _ HO5.out
        have c1' := cell_of_row _ _ 1 _ _ _ HO5.out
        refine bodyPost_ret (v := .agg #[.int .i64 (max (a + na) 0), .int .i64 (min (b + nz) 1048576)]) (by simp [results, Try.results73, go_sem, c0', c1']) rfl ⟨by rw [HBF.out, arr_full hg (fun j hj => HEM.out j hj (by rw [HLN.out]; exact hj)), ← HLN.out, HAC.out, HNZ.out]; rfl, HS5.out.mono ?_, HF5.out⟩
        have h1 : l.length * (2 * M) ≤ 2 * (2 * M) := Nat.mul_le_mul_right _ hl2
        omega
end Go.Proofs.Ytjaoflfophcibaa

namespace Go.Proofs.Ytjaoflfophcibaa
open Go.RowKit Go.Shelf

/-- What the walks need of a table. -/
structure Gd (t : Tb) : Prop where
  small : t.small
  ng2 : 2 ≤ t.ng
  ng4 : t.ng ≤ 4
  nc1 : 1 ≤ t.nc
  nc4 : t.nc ≤ 4
  rl : ∀ c, c < t.nc → t.rl c = t.ng
  nb : t.nc ≤ t.nb + 1
  nr : t.nr = t.ng + 1
  nn : t.nn = t.ng
  r : ∀ j, j < t.nr → isRateR (t.r j) = true
  b : ∀ j, j < t.nb → isCountR (t.b j) = true
  n : ∀ j, j < t.nn → isNetR (t.n j) = true
theorem Gd.of_fault {t : Tb} (hs : t.small) (h : t.fault = 0) : Gd t := by
  obtain ⟨h1, h2, h3, h4, h5, h6, h7, h8, h9, h10, h11⟩ := fault_facts h
  exact ⟨hs, h3, h2, h4, h1, fun c hc => (h8 c hc).1, by omega, h6, h7, h10, h9, h11⟩
theorem memoN_le : ∀ c, c < 4 → memoN c ≤ 85
  | 0, _ => by decide
  | 1, _ => by decide
  | 2, _ => by decide
  | 3, _ => by decide
theorem before_all {t : Tb} (hG : Gd t) (B bm : Nat) (x : WV) (out : Nat → Nat → Bool) : ∀ c, c < t.nc → ∀ g, g < t.ng → ∀ n, n + memoN c ≤ 90000 → ∀ W, St W B bm n x t out →
    Calls Try.prog 99 #[.pointer (some ⟨B, 0, none⟩), .agg #[.int .i64 c, .int .i64 g]] W (GivesR W B bm (n + memoN c) x t out (t.before out c g)) := by
  have ng4 := hG.ng4
  have nc4 := hG.nc4
  have hnb := hG.nb
  intro c
  induction c with
  | zero =>
    intro hc g hg n hn W hst
    refine before_of B bm n (n + memoN 0) x t out 0 g (by omega) (by omega) (by unfold memoN; omega) (by omega) (fun W' _ h => absurd h (Nat.lt_irrefl 0)) W hst
  | succ c ih =>
    intro hc g hg n hn W hst
    have hm : memoN (c + 1) = 1 + 4 * memoN c := rfl
    refine before_of B bm n (n + memoN (c + 1)) x t out (c + 1) g (by omega) (by omega) (by omega) (by omega) (fun W' hst' _ => ?_) W hst
    have he : n + memoN (c + 1) - 1 = n + 4 * memoN c := by omega
    rw [he]
    refine arrive_of B bm n (memoN c) x t out c (c + 1) g hG.small rfl (by omega) (by omega) hg (by omega) hG.ng2 hG.nr hG.nn hG.r (hG.b c (by omega)) (hG.n g (by rw [hG.nn]; exact hg)) (by omega) (fun m W2 g' hg' hm2 hst2 => ?_) W' hst'
    exact up_of B bm m (m + memoN c) x t out c g' hG.small (by omega) (by omega) (by rw [hG.rl c (by omega)]; exact hg') (by omega) (fun W3 hst3 => ih (by omega) g' hg' m hm2 W3 hst3) W2 hst2
theorem GivesR.mono {w : World} {B bm n n' : Nat} {x : WV} {t : Tb} {out : Nat → Nat → Bool} {r : R2} (hn : n ≤ n') {e : Ending} {w' : World} (h : GivesR w B bm n x t out r e w') : GivesR w B bm n' x t out r e w' := ⟨h.1, h.2.1.mono hn, h.2.2⟩
theorem up_all {t : Tb} (hG : Gd t) (B bm : Nat) (x : WV) (out : Nat → Nat → Bool) (c : Nat) (hc : c < t.nc) (g : Nat) (hg : g < t.ng) (n : Nat) (hn : n + 85 ≤ 90000) (W : World) (hst : St W B bm n x t out) :
    Calls Try.prog 61 #[.pointer (some ⟨B, 0, none⟩), .agg #[.int .i64 c, .int .i64 g]] W (GivesR W B bm (n + 85) x t out (t.up out c g)) := by
  have ng4 := hG.ng4
  have nc4 := hG.nc4
  have hm := memoN_le c (by omega)
  exact (up_of B bm n (n + memoN c) x t out c g hG.small hc (by omega) (by rw [hG.rl c hc]; exact hg) (by omega) (fun W3 hst3 => before_all hG B bm x out c hc g hg n (by omega) W3 hst3) W hst).mono (fun _ _ h => h.mono (by omega))
theorem survivors_all {t : Tb} (hG : Gd t) (B bm : Nat) (x : WV) (out : Nat → Nat → Bool) (c : Nat) (hc : c < t.nc) (g : Nat) (hg : g < t.ng) (he : emptyR (t.up out c g) = false) (n : Nat) (hn : n + 85 ≤ 90000) (W : World) (hst : St W B bm n x t out) :
    Calls Try.prog 96 #[.pointer (some ⟨B, 0, none⟩), .agg #[.int .i64 c, .int .i64 g]] W (GivesR W B bm (n + 85) x t out (livingR (t.r (g + 1)) (t.up out c g))) := by
  have hnr := hG.nr
  have hrb := inside_bd (hG.r (g + 1) (by omega))
  exact survivors_of B bm n (n + 85) x t out c g hG.small (by omega) (by omega) (up_full he) (fun W hW => up_all hG B bm x out c hc g hg n hn W hW) W hst
theorem arrive_all {t : Tb} (hG : Gd t) (hb : t.nb = t.nc) (B bm : Nat) (x : WV) (out : Nat → Nat → Bool) (g : Nat) (hg : g < t.ng) (n : Nat) (hn : n + 340 ≤ 90000) (W : World) (hst : St W B bm n x t out) :
    Calls Try.prog 73 #[.pointer (some ⟨B, 0, none⟩), .agg #[.int .i64 t.nc, .int .i64 g]] W (GivesR W B bm (n + 340) x t out (t.before out t.nc g)) := by
  have ng4 := hG.ng4
  have nc4 := hG.nc4
  have nc1 := hG.nc1
  exact arrive_of B bm n 85 x t out (t.nc - 1) t.nc g hG.small (by omega) (by omega) (by omega) hg (by omega) hG.ng2 hG.nr hG.nn hG.r (hG.b _ (by omega)) (hG.n g (by rw [hG.nn]; exact hg)) (by omega) (fun m W2 g' hg' hm2 hst2 => up_all hG B bm x out (t.nc - 1) (by omega) g' hg' m hm2 W2 hst2) W hst
theorem agree_all {t : Tb} (hG : Gd t) (B bm : Nat) (x : WV) (out : Nat → Nat → Bool) (n : Nat) (hn : n + 340 ≤ 90000) (W : World) (hst : St W B bm n x t out) :
    Calls Try.prog 59 #[.pointer (some ⟨B, 0, none⟩)] W fun e w' => e = .returned (.bool (t.agree out)) ∧ St w' B bm (n + 340) x t out ∧ Fr (fun q => q = bm) W w' := by
  have ng4 := hG.ng4
  have nc4 := hG.nc4
  have nc1 := hG.nc1
  have h1 : t.ng * 85 ≤ 4 * 85 := Nat.mul_le_mul_right _ ng4
  refine (agree_of B bm 85 n x t out hG.small (by omega) (fun m W2 g hg hm hst2 => ?_) W hst).mono (fun e w' h => ⟨h.1, h.2.1.mono (by omega), h.2.2⟩)
  have h2 : (t.nc : Int) - 1 = ((t.nc - 1 : Nat) : Int) := by omega
  rw [h2]
  exact up_all hG B bm x out (t.nc - 1) (by omega) g hg m hm W2 hst2
end Go.Proofs.Ytjaoflfophcibaa

namespace Go.Proofs.Ytjaoflfophcibaa
open Go.RowKit Go.Shelf

def loEnd (hi : Int) (P : Int → Bool) : Nat → Int → Int
  | 0, lo => lo
  | f + 1, lo => if decide (lo ≤ hi) && P lo then loEnd hi P f (lo + 1) else lo
def hiEnd (lo : Int) (P : Int → Bool) : Nat → Int → Int
  | 0, hi => hi
  | f + 1, hi => if decide (lo ≤ hi) && P hi then hiEnd lo P f (hi - 1) else hi
def loP (r goal : R2) (n : Int) : Bool := decide (mostR r n < goal.1)
def hiP (r goal : R2) (n : Int) : Bool := decide (fewestR r n > goal.2)
/-- The sizes of those from low to high that come to a goal by a rate. -/
def trimLo (r goal s : R2) : Int := loEnd s.2 (loP r goal) (s.2 - s.1 + 1).toNat s.1
def trimHi (r goal s : R2) : Int := hiEnd (trimLo r goal s) (hiP r goal) (s.2 - trimLo r goal s + 1).toNat s.2
def trimR (r goal s : R2) : R2 := (trimLo r goal s, trimHi r goal s)
/-- What the goal loses by the other groups that lead to a group. -/
def subR (t : Tb) (g nx : Nat) (up : Nat → R2) (r0 : R2) (k : Nat) : R2 := ((srcG t nx).take k).foldl (fun r q => if q = g then r else minusR r (livingR (t.r (q + 1)) (up q))) r0
def Tb.nx (t : Tb) (g : Nat) : Nat := min (g + 1) t.last
def Tb.aft (t : Tb) (out : Nat → Nat → Bool) : Nat → Nat → Nat → R2 → R2
  | 0, _, _, s => s
  | k + 1, c, g, s => if emptyR s = true then s else
      trimR (t.r (g + 1)) (subR t g (t.nx g) (t.up out c) (minusR (t.aft out k (c + 1) (t.nx g) (t.up out (c + 1) (t.nx g))) (t.n (t.nx g))) (srcG t (t.nx g)).length) s
theorem subR_zero (t : Tb) (g nx : Nat) (up : Nat → R2) (r0 : R2) : subR t g nx up r0 0 = r0 := rfl
theorem subR_succ {t : Tb} {g nx : Nat} {up : Nat → R2} {r0 : R2} {k : Nat} (hk : k < (srcG t nx).length) : subR t g nx up r0 (k + 1) = if (srcG t nx)[k] = g then subR t g nx up r0 k else minusR (subR t g nx up r0 k) (livingR (t.r ((srcG t nx)[k] + 1)) (up (srcG t nx)[k])) := by
  unfold subR
  rw [List.take_succ_eq_append_getElem hk, List.foldl_append]; rfl
theorem loEnd_bd (hi : Int) (P : Int → Bool) : ∀ f lo, lo ≤ loEnd hi P f lo ∧ loEnd hi P f lo ≤ max lo (hi + 1)
  | 0, lo => by simp only [loEnd]; omega
  | f + 1, lo => by
    simp only [loEnd]
    split
    · rename_i h
      simp only [Bool.and_eq_true, decide_eq_true_eq] at h
      have := loEnd_bd hi P f (lo + 1); omega
    · omega
theorem hiEnd_bd (lo : Int) (P : Int → Bool) : ∀ f hi, hiEnd lo P f hi ≤ hi ∧ min hi (lo - 1) ≤ hiEnd lo P f hi
  | 0, hi => by simp only [hiEnd]; omega
  | f + 1, hi => by
    simp only [hiEnd]
    split
    · rename_i h
      simp only [Bool.and_eq_true, decide_eq_true_eq] at h
      have := hiEnd_bd lo P f (hi - 1); omega
    · omega
/-- One round. -/
theorem loEnd_step {hi : Int} {P : Int → Bool} {lo : Int} (h : lo ≤ hi) (hp : P lo = true) : loEnd hi P (hi - lo + 1).toNat lo = loEnd hi P (hi - (lo + 1) + 1).toNat (lo + 1) := by
  have e : (hi - lo + 1).toNat = (hi - (lo + 1) + 1).toNat + 1 := by omega
  rw [e]
  show (if decide (lo ≤ hi) && P lo then _ else _) = _
  rw [hp, decide_eq_true h]; rfl
theorem loEnd_stop {hi : Int} {P : Int → Bool} {lo : Int} (h : ¬ (lo ≤ hi ∧ P lo = true)) (f : Nat) : loEnd hi P f lo = lo := by
  cases f with
  | zero => rfl
  | succ f =>
    show (if decide (lo ≤ hi) && P lo then _ else _) = _
    rw [if_neg (by simpa using h)]
theorem hiEnd_step {lo : Int} {P : Int → Bool} {hi : Int} (h : lo ≤ hi) (hp : P hi = true) : hiEnd lo P (hi - lo + 1).toNat hi = hiEnd lo P (hi - 1 - lo + 1).toNat (hi - 1) := by
  have e : (hi - lo + 1).toNat = (hi - 1 - lo + 1).toNat + 1 := by omega
  rw [e]
  show (if decide (lo ≤ hi) && P hi then _ else _) = _
  rw [hp, decide_eq_true h]; rfl
theorem hiEnd_stop {lo : Int} {P : Int → Bool} {hi : Int} (h : ¬ (lo ≤ hi ∧ P hi = true)) (f : Nat) : hiEnd lo P f hi = hi := by
  cases f with
  | zero => rfl
  | succ f =>
    show (if decide (lo ≤ hi) && P hi then _ else _) = _
    rw [if_neg (by simpa using h)]
theorem trim_bd (r goal s : R2) (h0 : 0 ≤ s.1) (h1 : s.1 ≤ s.2) (h2 : s.2 ≤ 1048576) : 0 ≤ (trimR r goal s).1 ∧ (trimR r goal s).1 ≤ 1048577 ∧ -1 ≤ (trimR r goal s).2 ∧ (trimR r goal s).2 ≤ 1048576 := by
  have a := loEnd_bd s.2 (loP r goal) (s.2 - s.1 + 1).toNat s.1
  have b := hiEnd_bd (trimLo r goal s) (hiP r goal) (s.2 - trimLo r goal s + 1).toNat s.2
  unfold trimR trimHi
  simp only
  unfold trimLo at b ⊢
  omega
theorem aft_bd (t : Tb) (out : Nat → Nat → Bool) (k c g : Nat) (s : R2) (h0 : 0 ≤ s.1) (h1 : s.1 ≤ 1048577) (h3 : -1 ≤ s.2) (h2 : s.2 ≤ 1048576) : 0 ≤ (t.aft out k c g s).1 ∧ (t.aft out k c g s).1 ≤ 1048577 ∧ -1 ≤ (t.aft out k c g s).2 ∧ (t.aft out k c g s).2 ≤ 1048576 := by
  cases k with
  | zero => simp only [Tb.aft]; omega
  | succ k =>
    simp only [Tb.aft]
    split
    · omega
    · rename_i h
      refine trim_bd _ _ s h0 ?_ h2
      simp [emptyR] at h; exact h
theorem sub_bd {t : Tb} {out : Nat → Nat → Bool} {c g nx : Nat} (hG : Gd t) (hx : nx < t.ng) (hne : ∀ q, q < t.ng → emptyR (t.up out c q) = false) {r0 : R2} (h0 : -2000000 ≤ r0.1 ∧ r0.1 ≤ 2000000 ∧ -2000000 ≤ r0.2 ∧ r0.2 ≤ 2000000) :
    ∀ k, k ≤ (srcG t nx).length → -2000000 - 2000000 * k ≤ (subR t g nx (t.up out c) r0 k).1 ∧ (subR t g nx (t.up out c) r0 k).1 ≤ 2000000 + 2000000 * k ∧ -2000000 - 2000000 * k ≤ (subR t g nx (t.up out c) r0 k).2 ∧ (subR t g nx (t.up out c) r0 k).2 ≤ 2000000 + 2000000 * k := by
  have hnr := hG.nr
  intro k
  induction k with
  | zero => intro _; rw [subR_zero]; omega
  | succ k ih =>
    intro hk
    have h := ih (by omega)
    rw [subR_succ (by omega)]
    have hq := srcG_lt hx (k := k) (by omega)
    obtain ⟨f1, f2⟩ := full_bd (hne _ hq)
    have := living_bd (hG.r ((srcG t nx)[k] + 1) (by omega)) f1 f2
    split
    · omega
    · unfold minusR
      simp only
      omega
/-- A list of blocks that the call has made. -/
abbrev BkL := List (Nat × Array Value × TypeId)
structure AF (w X : World) (B bm m : Nat) (x : WV) (t : Tb) (out : Nat → Nat → Bool) (L : BkL) : Prop where
  st : St X B bm m x t out
  fr : Fr (fun q => q = bm) w X
  bk : ∀ b cs T, (b, cs, T) ∈ L → w.heap.size ≤ b ∧ X.heap[b]? = some (.cells cs T (0, 0))
section
variable {w X Y : World} {B bm m : Nat} {x : WV} {t : Tb} {out : Nat → Nat → Bool} {L : BkL}
theorem AF.base {n0 : Nat} (h0 : St w B bm n0 x t out) : AF w w B bm n0 x t out [] := ⟨h0, Fr.refl _ _, fun _ _ _ h => by cases h⟩
theorem AF.go (h : AF w X B bm m x t out L) (hw : bm < w.heap.size) (hf : Fr (fun q => q = bm) X Y) {m' : Nat} (hs : St Y B bm m' x t out) : AF w Y B bm m' x t out L := by
  refine ⟨hs, h.fr.trans hf, fun b cs T hb => ?_⟩
  obtain ⟨h1, h2⟩ := h.bk b cs T hb
  exact ⟨h1, by rw [hf.block _ (Array.getElem?_eq_some_iff.1 h2).1 (by omega)]; exact h2⟩
theorem AF.below (h : AF w X B bm m x t out L) (hw : bm < w.heap.size) (hb : Below X.heap.size X Y) : AF w Y B bm m x t out L := h.go hw (Fr.below hb _) (h.st.below hb)
theorem AF.mono (h : AF w X B bm m x t out L) {m' : Nat} (hm : m ≤ m') : AF w X B bm m' x t out L := ⟨h.st.mono hm, h.fr, h.bk⟩
theorem AF.alloc (h : AF w X B bm m x t out L) (hw : bm < w.heap.size) (cs : Array Value) (T : TypeId) : AF w (X.alloc (.cells cs T)) B bm m x t out ((X.heap.size, cs, T) :: L) := by
  have h1 := h.below hw (below_alloc X (.cells cs T))
  refine ⟨h1.st, h1.fr, fun b cs' T' hb => ?_⟩
  rcases List.mem_cons.1 hb with hb | hb
  · cases hb
    exact ⟨h.fr.size, heap_alloc_new X _⟩
  · exact h1.bk b cs' T' hb
theorem AF.sub (h : AF w X B bm m x t out L) {L' : BkL} (hl : ∀ p, p ∈ L' → p ∈ L) : AF w X B bm m x t out L' := ⟨h.st, h.fr, fun b cs T hb => h.bk b cs T (hl _ hb)⟩
theorem AF.lt (h : AF w X B bm m x t out L) {b : Nat} {cs : Array Value} {T : TypeId} (hb : (b, cs, T) ∈ L) : w.heap.size ≤ b ∧ b < X.heap.size := ⟨(h.bk b cs T hb).1, (Array.getElem?_eq_some_iff.1 (h.bk b cs T hb).2).1⟩
/-- A cell of a block. -/
theorem AF.cell (h : AF w X B bm m x t out L) {b : Nat} {cs : Array Value} {T : TypeId} (hb : (b, cs, T) ∈ L) (i : Nat) : X.cell? ⟨b, i, none⟩ = cs[i]? := cell_of_row _ _ _ _ _ _ (h.bk b cs T hb).2
theorem AF.thaw (h : AF w X B bm m x t out L) {b : Nat} {cs : Array Value} {T : TypeId} (hb : (b, cs, T) ∈ L) (i : Nat) : X.frozen? ⟨b, i, none⟩ = false := frozen_of_row _ _ _ _ _ (h.bk b cs T hb).2
/-- A block of two cells is written. -/
theorem AF.set2 {n0 : Nat} (h0 : St w B bm n0 x t out) {b : Nat} {p q : Value} {T : TypeId} (h : AF w X B bm m x t out L) (hb : (b, #[p, q], T) ∈ L) (p' q' : Value) {L' : BkL} (hl : ∀ y, y ∈ L' → y.1 ≠ b ∧ y ∈ L) :
    AF w ((X.setCell ⟨b, 0, none⟩ p').setCell ⟨b, 1, none⟩ q') B bm m x t out ((b, #[p', q'], T) :: L') := by
  obtain ⟨hb1, hb2⟩ := h.bk b _ _ hb
  obtain ⟨hs1, hf1⟩ := St.setN h0 h.st h.fr (b := b) hb1 0 p'
  obtain ⟨hs2, hf2⟩ := St.setN h0 hs1 hf1 (b := b) hb1 1 q'
  obtain ⟨hr, hf⟩ := Go.Proofs.Ytjaoflfophcibaa.set2 hb2 p' q'
  refine ⟨hs2, hf2, fun b' cs T' hm => ?_⟩
  rcases List.mem_cons.1 hm with hm | hm
  · cases hm; exact ⟨hb1, hr⟩
  · obtain ⟨hne, hm⟩ := hl _ hm
    obtain ⟨h1, h2⟩ := h.bk b' cs T' hm
    exact ⟨h1, by rw [hf.block _ (Array.getElem?_eq_some_iff.1 h2).1 hne]; exact h2⟩
/-- One cell of a block is written. -/
theorem AF.set1 {n0 : Nat} (h0 : St w B bm n0 x t out) {b i : Nat} {cs cs' : Array Value} {T : TypeId} (h : AF w X B bm m x t out L) (hb : (b, cs, T) ∈ L) (v : Value) (hi : i < cs.size) (hc : cs.setIfInBounds i v = cs') {L' : BkL} (hl : ∀ y, y ∈ L' → y.1 ≠ b ∧ y ∈ L) :
    AF w (X.setCell ⟨b, i, none⟩ v) B bm m x t out ((b, cs', T) :: L') := by
  obtain ⟨hb1, hb2⟩ := h.bk b _ _ hb
  obtain ⟨hs1, hf1⟩ := St.setN h0 h.st h.fr (b := b) hb1 i v
  have hf := Fr.set X b i v
  refine ⟨hs1, hf1, fun b' cs' T' hm => ?_⟩
  rcases List.mem_cons.1 hm with hm | hm
  · cases hm
    refine ⟨hb1, ?_⟩
    subst hc
    simp [World.setCell, Array.getElem?_modify, hb2, Array.setIfInBounds, hi]
  · obtain ⟨hne, hm⟩ := hl _ hm
    obtain ⟨h1, h2⟩ := h.bk b' _ T' hm
    exact ⟨h1, by rw [hf.block _ (Array.getElem?_eq_some_iff.1 h2).1 hne]; exact h2⟩
end
end Go.Proofs.Ytjaoflfophcibaa
